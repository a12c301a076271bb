/- Contracts: ternary.Covers, Next; the page's example. -/
import Derived.Test.YtlakfaalpijhiaaDoorWalkY4
namespace Go.Proofs.YtlakfaalpijhiaaDoor
open Go.RowKit Go.Shelf
attribute [local simp] mk_get

set_option maxRecDepth 100000 in
set_option maxHeartbeats 2000000 in
theorem terCovers_any (a b : List UInt8) (w : World) (ha : a.length ≤ 9223372036854775807) (_hb : b.length ≤ 9223372036854775807) :
    Calls Tryd.prog 13 #[.string ⟨a.toArray⟩, .string ⟨b.toArray⟩] w fun e w' => e = .returned (.bool (PC.covers a b)) ∧ Below w.heap.size w w' := by
  obtain ⟨R, hR⟩ : ∃ R, R = PC.covers a b := ⟨_, rfl⟩
  rw [← hR]
  by_cases hl : a.length = b.length
  · have hlz : ((a.length : Int) != (b.length : Int)) = false := by simp [hl]
    have hiff : Hid (R = true ↔ ∀ j (h : j < a.length) (h' : j < b.length), PC.Cv a[j] b[j]) := by
      show _ ↔ _
      rw [hR, PC.covers_iff]
      exact ⟨fun h => h.2, fun h => ⟨hl, h⟩⟩
    clear hR
    go_enter Tryd.func13, Tryd.ntmps13
    go_wp2_with fail
    go_loopg [13] a.length (fun gg s13 wr => ∃ k : Nat, k ≤ a.length ∧ a.length - k ≤ gg ∧ s13 = .int .i64 k ∧ Below w.heap.size w wr ∧ Aside (∀ j (hj : j < k) (h : j < a.length) (h' : j < b.length), PC.Cv a[j] b[j]))
    case atStart => exact ⟨0, Nat.zero_le _, by omega, rfl, Below.refl _ _, fun j hj => absurd hj (Nat.not_lt_zero _)⟩
    case round =>
      obtain ⟨k, hk, hg, rfl, hbr, A⟩ := hrel
      by_cases hlt : k < a.length
      · have hmea : Hid (∀ g : Nat, a.length - k ≤ g → a.length - (k + 1) < g) := fun g h => by omega
        have HG := Lib.hid hg
        have hltb : k < b.length := by omega
        obtain ⟨x, hx⟩ : ∃ x, a[k] = x := ⟨_, rfl⟩
        obtain ⟨y, hy⟩ : ∃ y, b[k] = y := ⟨_, rfl⟩
        have hltz : (k : Int) < (a.length : Int) := by omega
        have hltbz : (k : Int) < (b.length : Int) := by omega
        have hnx : Hid (PC.Cv x y → ∀ j (hj : j < k + 1) (h : j < a.length) (h' : j < b.length), PC.Cv a[j] b[j]) := fun hc j hj h h' => by
          by_cases e : j = k
          · subst e; rw [hx, hy]; exact hc
          · exact A.out j (by omega) h h'
        have hno : Hid (¬ PC.Cv x y → R = false) := fun hc => by
          rw [Bool.eq_false_iff]
          intro h
          have := hiff.out.1 h k hlt hltb
          rw [hx, hy] at this
          exact hc this
        clear A hg
        by_cases h1 : x = y
        · have e1 : ((x.toNat : Int) != (y.toNat : Int)) = false := by rw [h1]; simp
          have hn1 := Lib.hid (hnx.out (Or.inl h1))
          clear h1
          go_wp2_with fail
          refine wp_region_later (by kernel_rfl) (by kernel_rfl) ?_; (repeat (go_big_quiet_step (fail))); refine wpQuiet_nil ?_; rintro w3 ⟨⟨_, hb3⟩, rfl⟩
          go_wp2_with fail
          go_roundg (a.length - (k + 1))
          case measure => exact hmea.out _ HG.out
          case rel => exact ⟨k + 1, by omega, by omega, by go_num, Below.of hbr hb3, hn1.out⟩
        · have e1 : ((x.toNat : Int) != (y.toNat : Int)) = true := by
            have : x.toNat ≠ y.toNat := fun e => h1 (UInt8.toNat_inj.1 e)
            simp; omega
          by_cases h2 : x = 120
          · have e2 : ((x.toNat : Int) != 120) = false := by rw [h2]; rfl
            have hn1 := Lib.hid (hnx.out (Or.inr h2))
            clear h1 h2
            go_wp2_with fail
            refine wp_region_later (by kernel_rfl) (by kernel_rfl) ?_; (repeat (go_big_quiet_step (fail))); refine wpQuiet_nil ?_; rintro w3 ⟨⟨_, hb3⟩, rfl⟩
            go_wp2_with fail
            go_roundg (a.length - (k + 1))
            case measure => exact hmea.out _ HG.out
            case rel => exact ⟨k + 1, by omega, by omega, by go_num, Below.of hbr hb3, hn1.out⟩
          · have e2 : ((x.toNat : Int) != 120) = true := by
              have := fun h => h2 ((u8_120 x).1 h)
              simpa using this
            have hr := hno.out (fun h => h.elim h1 h2)
            clear h1 h2
            go_wp2_with fail
            refine wp_region_later (by kernel_rfl) (by kernel_rfl) ?_; (repeat (go_big_quiet_step (fail))); refine wpQuiet_nil ?_; rintro w3 ⟨⟨_, hb3⟩, rfl⟩
            go_wp2_with fail
            go_ret
            exact ⟨by first | rfl | (rw [hr]; rfl), Below.of hbr hb3⟩
      · have hltz : ¬ (k : Int) < (a.length : Int) := by omega
        obtain rfl : k = a.length := by omega
        have hr : R = true := hiff.out.2 fun j h h' => A.out j h h h'
        go_wp2_with fail
        go_ret
        exact ⟨by first | rfl | (rw [hr]; rfl), hbr⟩
  · have hlz : ((a.length : Int) != (b.length : Int)) = true := by simp; omega
    have hr : R = false := by
      rw [hR, Bool.eq_false_iff]
      intro h
      exact hl ((PC.covers_iff a b).1 h).1
    clear hR
    go_enter Tryd.func13, Tryd.ntmps13
    go_wp2_with fail
    go_ret
    exact ⟨by first | rfl | (rw [hr]; rfl), Below.refl _ _⟩

set_option maxRecDepth 100000 in
set_option maxHeartbeats 2000000 in
theorem terNext_any (c : PC.Circ) (vc : Value) (st inp : List UInt8) (w : World) (h : IsCirc w vc c) (hs : st.length ≤ 9223372036854775807) (hi : inp.length ≤ 9223372036854775807) :
    Calls Tryd.prog 17 #[vc, .string ⟨st.toArray⟩, .string ⟨inp.toArray⟩] w fun e w' => e = .returned (.tuple #[.string ⟨(PC.tnextS c st inp).toArray⟩, .int .i64 (PC.ternE c st inp)]) ∧ Below w.heap.size w w' := by
  have hV := Lib.hid fun w1 (hb : Below w.heap.size w w1) => terValues_any c vc st inp w1 (h.mono hb) hs hi
  have hN := Lib.hid fun m w1 (hb : Below w.heap.size w w1) => ternext_any c vc m w1 (h.mono hb)
  obtain ⟨vi, vl, vo, vb, vv, va, vn, rfl, hp, hm⟩ := h
  clear hp
  have hb0 : Below w.heap.size w (w.alloc (.cells #[.int .i64 c.max, vi, vl, vo, vb, vv, va, vn] 27)) := (Below.refl _ _).alloc (Nat.le_refl _) _
  have hbx0 := Lib.hid (Box8.new w (.int .i64 c.max) vi vl vo vb vv va vn 27)
  obtain ⟨RS, hRS⟩ : ∃ R, R = PC.tnextS c st inp := ⟨_, rfl⟩
  obtain ⟨RE, hRE⟩ : ∃ R, R = PC.ternE c st inp := ⟨_, rfl⟩
  rw [← hRE] at hV
  rw [← hRS, ← hRE]
  go_enter Tryd.func17, Tryd.ntmps17
  go_wp2_with fail
  refine (hV.out _ (by exact hb0)).mono ?_
  rintro e w1 ⟨rfl, hb1⟩
  have hb01 := Lib.hid (Below.of hb0 hb1)
  have hbx1 := Lib.hid (hbx0.out.mono hb1)
  clear hb0 hb1 hbx0 hV
  by_cases hz : RE = 0
  · have e0 := hRE.symm.trans hz
    have hR := PC.right_of c (PC.chk_of_ternE c st inp e0).1
    have e1 : PC.ternS c st inp = PC.tvals c st inp := by rw [PC.ternS, if_pos e0]
    have e2 : RS = PC.tnexts c (PC.tvals c st inp) := by rw [hRS, PC.tnextS, if_pos e0]
    have hN1 := Lib.hid (hN.out (PC.ternS c st inp) w1 hb01.out hR.lats (by rw [e1, PC.tvals_length]; have := hR.max1; omega))
    rw [show PC.tnexts c (PC.ternS c st inp) = RS by rw [e1, e2]] at hN1
    clear hRE hRS e0 hR e1 e2 hN
    generalize PC.ternS c st inp = VS at *
    subst hz
    obtain ⟨q0, q1, q2, q3, q4, q5, q6, q7⟩ := hbx1.out
    go_wp2_with fail
    refine hN1.out.mono ?_
    rintro e w2 ⟨rfl, hb2⟩
    go_wp2_with fail
    go_ret2
    exact ⟨rfl, Below.of hb01.out hb2⟩
  · have hz1 : (RE == 0) = false := by simpa using hz
    have hz2 : (RE != 0) = true := by simpa using hz
    have e2 : RS = [] := by rw [hRS, PC.tnextS, ← hRE, if_neg hz]
    clear hRE hRS
    go_wp2_with fail
    go_ret2
    exact ⟨by rw [e2]; rfl, hb01.out⟩

theorem num08_any (x : Int) (w : World) : Calls Tryd.prog 10 #[.int .i64 x] w fun e w' => e = .returned (.int .i64 x) ∧ w = w' := by
  go_enter Tryd.func10, Tryd.ntmps10
  go_wp2
  go_ret
  exact ⟨rfl, rfl⟩

/-- the page's example -/
def exT : PC.Circ := ⟨3, [2, 4], [], [], [], [], [⟨6, 2, 4⟩], []⟩
theorem exT_vals : PC.ternE exT [] [48, 120] = 0 ∧ PC.ternS exT [] [48, 120] = [48, 48, 120, 48] := by decide

set_option maxRecDepth 100000 in
set_option maxHeartbeats 2000000 in
theorem alive08_any (w : World) : Calls Tryd.prog 8 #[] w fun e w' => e = .returned (.bool true) ∧ Below w.heap.size w w' := by
  have hI : ∀ w1, (∀ j v, #[Value.int .i64 2, .int .i64 4][j]? = some v → w1.cell? ⟨w.heap.size, j, none⟩ = some v) → (∀ j v, #[Value.int .i64 6, .int .i64 2, .int .i64 4][j]? = some v → w1.cell? ⟨w.heap.size + 1, j, none⟩ = some v) →
      IsCirc w1 (.agg #[.int .i64 3, .slice (some ⟨w.heap.size, 0, none⟩) 2 2, .slice none 0 0, .slice none 0 0, .slice none 0 0, .slice none 0 0, .slice (some ⟨w.heap.size + 1, 0, none⟩) 1 1, .slice none 0 0]) exT := fun w1 hc hd =>
    ⟨_, _, _, _, _, _, _, rfl, ⟨⟨⟨_, _, rfl, by simp [exT], by omega, fun h => by simp at h, rfl, fun j hj => ⟨w.heap.size, 0, rfl, World.block_lt_of_cell? w1 _ (hc 0 _ rfl), by
      rw [Nat.zero_add]
      exact hc j _ (by first | (simp [exT] at hj ⊢; done) | (simp [exT] at hj ⊢; omega))⟩⟩, fun x hx => by simp [exT] at hx; unfold rng; omega⟩, ⟨Cells.nil _ _, fun x hx => by simp [exT] at hx⟩, ⟨Cells.nil _ _, fun x hx => by simp [exT] at hx⟩, ⟨Cells.nil _ _, fun x hx => by simp [exT] at hx⟩, ⟨Cells.nil _ _, fun x hx => by simp [exT] at hx⟩, ⟨⟨_, _, rfl, by simp [exT], by omega, fun h => by simp at h, rfl, fun j hj => ⟨w.heap.size + 1, 0, rfl, World.block_lt_of_cell? w1 _ (hd 0 _ rfl), by
      rw [Nat.zero_add]
      exact hd j _ (by first | (simp [exT, gatCells] at hj ⊢; done) | (simp [exT, gatCells] at hj ⊢; omega))⟩⟩, fun x hx => by simp [exT] at hx; subst hx; unfold rng; simp⟩, ⟨Cells.nil _ _, fun x hx => by simp [exT] at hx⟩⟩, by unfold rng exT; simp⟩
  have hX : ∀ o, IsCirc (((w.alloc (.cells #[.int .i64 2, .int .i64 4] 3)).alloc (.cells #[.int .i64 6, .int .i64 2, .int .i64 4] 57)).alloc o) (.agg #[.int .i64 3, .slice (some ⟨w.heap.size, 0, none⟩) 2 2, .slice none 0 0, .slice none 0 0, .slice none 0 0, .slice none 0 0, .slice (some ⟨w.heap.size + 1, 0, none⟩) 1 1, .slice none 0 0]) exT := fun o =>
    hI _ (fun j v hj => past2 (by rw [World.cell?_alloc_mark]; exact hj) _ o) (fun j v hj => past1 (by
      have := World.cell?_alloc_mark (w.alloc (.cells #[.int .i64 2, .int .i64 4] 3)) #[.int .i64 6, .int .i64 2, .int .i64 4] 57 (0, 0) j
      rw [World.size_alloc] at this
      rw [this]; exact hj) o)
  have hN : ∀ w1 v, IsCirc w1 v exT → Calls Tryd.prog 9 #[v, .string ⟨#[]⟩, .string ⟨#[48, 120]⟩] w1 fun e w' => e = .returned (.tuple #[.string ⟨#[48, 48, 120, 48]⟩, .int .i64 0]) ∧ Below w1.heap.size w1 w' := fun w1 v h => by
    have := terValues_any exT v [] [48, 120] w1 h (by decide) (by decide)
    rw [exT_vals.1, exT_vals.2] at this
    exact this
  have hO6 : ∀ w1, Calls Tryd.prog 21 #[.string ⟨#[48, 48, 120, 48]⟩, .int .i64 6] w1 fun e w' => e = .returned (.int .u8 48) ∧ w1 = w' := fun w1 => terOf_any [48, 48, 120, 48] 6 w1 (by unfold rng; omega) (by decide)
  have hO4 : ∀ w1, Calls Tryd.prog 21 #[.string ⟨#[48, 48, 120, 48]⟩, .int .i64 4] w1 fun e w' => e = .returned (.int .u8 120) ∧ w1 = w' := fun w1 => terOf_any [48, 48, 120, 48] 4 w1 (by unfold rng; omega) (by decide)
  have HN := Lib.hid fun o => hN _ _ (hX o)
  have H6 := Lib.hid hO6
  have H4 := Lib.hid hO4
  have hb0 := Lib.hid fun o => (((Below.refl w.heap.size w).alloc (Nat.le_refl _) (.cells #[.int .i64 2, .int .i64 4] 3)).alloc (by simp) (.cells #[.int .i64 6, .int .i64 2, .int .i64 4] 57)).alloc (by first | (simp; done) | (simp; omega)) o
  clear hI hX hN hO6 hO4
  go_enter Tryd.func8, Tryd.ntmps8
  go_wp2_with fail
  refine (HN.out _).mono ?_
  rintro e w1 ⟨rfl, hb1⟩
  have hbw1 := Lib.hid (Below.of (hb0.out _) hb1)
  clear hb1
  go_wp2_with (go_at_call 10; refine (num08_any _ _).mono ?_; rintro e w2 ⟨rfl, rfl⟩)
  refine (H6.out _).mono ?_
  rintro e w2 ⟨rfl, rfl⟩
  go_wp2_with fail
  refine (H4.out _).mono ?_
  rintro e w2 ⟨rfl, rfl⟩
  go_wp2_with fail
  go_ret
  exact ⟨rfl, hbw1.out⟩

end Go.Proofs.YtlakfaalpijhiaaDoor
