/- Contracts: a miter's maker: and, or, unlike; cmp.Or; do two circuits go together. -/
import Derived.Test.YtpkaoabpifeigaaGreatDoorWalkZ4
import Derived.Test.YtpkaoabpifeigaaGreatDoorLibG
namespace Go.Proofs.YtpkaoabpifeigaaGreatDoor
open Go.RowKit Go.Shelf

/-- what a maker's work leaves as it was: all below B, and all rows that hold no ands -/
structure Sep (m B : Nat) (V w : World) : Prop where
  os : w.os = V.os
  tape : w.tape = V.tape
  output : w.output = V.output
  size : V.heap.size ≤ w.heap.size
  block : ∀ k, k < V.heap.size → k ≠ m → (k < B ∨ ∀ cs fr, V.heap[k]? ≠ some (.cells cs 35 fr)) → w.heap[k]? = V.heap[k]?

theorem Sep.refl (m B : Nat) (V : World) : Sep m B V V := ⟨rfl, rfl, rfl, Nat.le_refl _, fun _ _ _ _ => rfl⟩
theorem Sep.trans {m B : Nat} {V w w' : World} (h : Sep m B V w) (k : Sep m B w w') : Sep m B V w' :=
  ⟨k.os.trans h.os, k.tape.trans h.tape, k.output.trans h.output, Nat.le_trans h.size k.size, fun j hj hne hx => by
    have e := h.block j hj hne hx
    refine (k.block j (Nat.lt_of_lt_of_le hj h.size) hne (hx.imp id fun hn cs fr => ?_)).trans e
    rw [e]; exact hn cs fr⟩
theorem Sep.below {m B b : Nat} {w0 V w : World} (h : Below b w0 V) (k : Sep m B V w) (hB : b ≤ B) (hV : b ≤ V.heap.size) (hm : b ≤ m) : Below b w0 w :=
  ⟨k.os.trans h.os, k.tape.trans h.tape, k.output.trans h.output, Nat.le_trans h.size k.size, fun j hj => (k.block j (by omega) (by omega) (Or.inl (by omega))).trans (h.block j hj)⟩
theorem Sep.of_grown {m B : Nat} {w w' : World} (h : w.grownBy w' (some m)) : Sep m B w w' :=
  ⟨h.os, h.tape, h.output, h.size, fun k hk hne _ => h.block k hk fun e => hne (Option.some.inj e)⟩
theorem Sep.of_alloc (m B : Nat) (w : World) (o : Obj) : Sep m B w (w.alloc o) := ⟨rfl, rfl, rfl, (by simp), fun k hk _ _ => Below.heap_alloc _ _ k hk⟩
theorem Sep.of_append {m B k n : Nat} {v : Value} {xs : List Value} {w w' : World} (h : w.grownBy w' v.ownBlock) (ho : w.ownsRow B 35 k v n xs) : Sep m B w w' :=
  ⟨h.os, h.tape, h.output, h.size, fun j hj _ hx => h.block j hj fun e => by
    rcases hx with hx | hx
    · have := (ho.lt j e.symm).1
      omega
    · obtain ⟨_, ⟨rfl, _⟩ | ⟨g', c', cur, rfl, _, hh, _⟩⟩ := ho
      · cases e
      · have : j = g' := by simpa [Value.ownBlock] using e
        subst this
        exact hx _ _ hh⟩
theorem RowL.sep {T : TypeId} {m B g : Nat} {V w : World} {l : List Value} (h : RowL T V g l) (k : Sep m B V w) (hm : g ≠ m) (hT : T ≠ 35) : RowL T w g l :=
  h.keep (k.block g h.lt hm (Or.inr fun cs fr e => by
    have h' : V.heap[g]? = _ := h
    rw [h'] at e
    simp at e
    exact hT e.2.1))
theorem owns_sep {m B B' j n : Nat} {e : TypeId} {v : Value} {xs : List Value} {V w : World} (h : V.ownsRow B' e j v n xs) (k : Sep m B V w) (he : e ≠ 35) (hm : some m ≠ v.ownBlock) : w.ownsRow B' e j v n xs := by
  obtain ⟨h1, ⟨rfl, h0⟩ | ⟨g, cap, cur, rfl, hb, hg, hc, hx, hs, ht⟩⟩ := h
  · exact ⟨h1, Or.inl ⟨rfl, h0⟩⟩
  · refine ⟨h1, Or.inr ⟨g, cap, cur, rfl, hb, ?_, hc, hx, hs, ht⟩⟩
    refine (k.block g (Array.getElem?_eq_some_iff.1 hg).1 (fun e => hm (by rw [e]; rfl)) (Or.inr fun cs fr e' => ?_)).trans hg
    rw [hg] at e'
    simp at e'
    exact he e'.2.1

/-- a maker: its greatest variable, its ands; what else it holds -/
def Maker (w : World) (m B : Nat) (mx : Int) (vi vl vo vb vv vn : Value) (gs : List PC.Gat) : Prop :=
  ∃ va, RowL 77 w m [.int .i64 mx, vi, vl, vo, vb, vv, va, vn] ∧ w.ownsRow B 35 3 va gs.length (gs.flatMap gatCells)

set_option maxRecDepth 100000 in
set_option maxHeartbeats 4000000 in
theorem mAnd_any (m B : Nat) (mx a b : Int) (vi vl vo vb vv vn : Value) (gs : List PC.Gat) (w : World) (h : Maker w m B mx vi vl vo vb vv vn gs) (h0 : 0 ≤ mx) (h1 : mx ≤ 100000) (hg : gs.length ≤ 100000) (hB : B ≤ w.heap.size) :
    Calls Tryz.prog 77 #[.pointer (some ⟨m, 0, none⟩), .int .i64 a, .int .i64 b] w fun e w' => e = .returned (.int .i64 (2 * (mx + 1))) ∧ Maker w' m B (mx + 1) vi vl vo vb vv vn (gs ++ [⟨2 * (mx + 1), a, b⟩]) ∧ Sep m B w w' := by
  obtain ⟨va, hrow, hown⟩ := h
  have e1 : IntKind.i64.wrap (mx + 1) = mx + 1 := IntWalk.i64_in _ (by omega)
  have hc0 := hrow.cell 0 _ rfl
  have hf0 := hrow.frozen 0
  obtain ⟨au, cu, rfl⟩ := owned_slice hown
  have hR1 := hrow.set 0 (.int .i64 (mx + 1))
  have hG1 := set_grown' w m 0 (.int .i64 (mx + 1))
  have hO1 := owns_other hown hG1 hrow (by decide)
  have hM1 : (w.setCell ⟨m, 0, none⟩ (.int .i64 (mx + 1))).cell? ⟨m, 0, none⟩ = some (.int .i64 (mx + 1)) := hR1.cell 0 _ rfl
  have hM6 : (w.setCell ⟨m, 0, none⟩ (.int .i64 (mx + 1))).cell? ⟨m, 6, none⟩ = some (.slice au gs.length cu) := hR1.cell 6 _ rfl
  have hsz : (w.setCell ⟨m, 0, none⟩ (.int .i64 (mx + 1))).heap.size = w.heap.size := by simp
  obtain ⟨W, hW⟩ : ∃ W, W = w.setCell ⟨m, 0, none⟩ (.int .i64 (mx + 1)) := ⟨_, rfl⟩
  have HR1 := Lib.hid hR1
  have HG1 := Lib.hid hG1
  have HO1 := Lib.hid hO1
  have HMk := Lib.hid fun w => litsMake_any (mx + 1) w (by omega) (by omega)
  clear hR1 hG1 hO1 hrow hown
  rw [← hW] at HR1 HG1 HO1 hM1 hM6 hsz
  have HW := Lib.hid hW
  have hBW : B ≤ W.heap.size := by omega
  have HRA : Hid (∀ o, RowL 77 (W.alloc o) m [.int .i64 (mx + 1), vi, vl, vo, vb, vv, .slice au gs.length cu, vn]) := fun o => HR1.out.mono ((Below.refl _ _).alloc (Nat.le_refl _) o)
  have hne1 : Hid (some m ≠ (Value.slice au gs.length cu).ownBlock) := HR1.out.other HO1.out (by decide)
  clear hW hsz
  go_enter Tryz.func77, Tryz.ntmps77
  go_wp2_with fail
  rw [← HW.out]
  refine (HMk.out W).mono ?_
  rintro e w2 ⟨rfl, rfl⟩
  clear hc0 hf0
  go_wp2_with (at_builtin; refine app_new rfl _ _ 24 rfl 35 3 24 (.agg #[.int .i64 0, .int .i64 0, .int .i64 0]) Tryz.underlying24 infoGat rfl (by decide) (w := W) (w0 := W) (B0 := B) rfl HO1.out (Below.refl _ _) (Nat.le_refl _) hBW _ 1 1 ?_ ?_ ?_ ?_ ?_ ?_; exact rfl; (intro u hu; simp at hu; rcases hu with rfl | rfl | rfl <;> rfl); exact rfl; omega; omega; intro v3 w3 hown3 hb3 hbs3 hgr3; have hown3' := Lib.hid hown3; obtain ⟨a3, c3, rfl⟩ := owned_slice hown3; have hgA := Lib.hid ((Sep.of_alloc m B W _).trans (Sep.of_append hgr3 (HO1.out.alloc _))); have hR3 := Lib.hid ((HRA.out _).grown hgr3 hne1.out); have hc6 := hR3.out.cell 6 _ rfl; have hf6 := hR3.out.frozen 6; clear hown3 hgr3 hb3 hbs3)
  go_ret
  have hR4 := hR3.out.set 6 (.slice a3 (gs.length + 1) c3)
  have hG4 := set_grown' w3 m 6 (.slice a3 (gs.length + 1) c3)
  have hO4 := owns_other hown3'.out hG4 hR3.out (by decide)
  refine ⟨rfl, ⟨_, hR4, ?_⟩, (Sep.of_grown HG1.out).trans (hgA.out.trans (Sep.of_grown hG4))⟩
  rw [List.length_append, List.flatMap_append]
  exact hO4

set_option maxRecDepth 100000 in
set_option maxHeartbeats 4000000 in
theorem mUnlike_any (m B : Nat) (mx a b : Int) (vi vl vo vb vv vn : Value) (gs : List PC.Gat) (w : World) (h : Maker w m B mx vi vl vo vb vv vn gs) (h0 : 0 ≤ mx) (h1 : mx ≤ 90000) (hg : gs.length ≤ 90000) (hB : B ≤ w.heap.size)
    (ha : 0 ≤ a ∧ a ≤ 1000000) (hb : 0 ≤ b ∧ b ≤ 1000000) :
    Calls Tryz.prog 47 #[.pointer (some ⟨m, 0, none⟩), .int .i64 a, .int .i64 b] w fun e w' => e = .returned (.int .i64 (2 * (mx + 3) + 1)) ∧
      Maker w' m B (mx + 3) vi vl vo vb vv vn (gs ++ [⟨2 * (mx + 1), a, PC.opn b⟩, ⟨2 * (mx + 2), PC.opn a, b⟩, ⟨2 * (mx + 3), 2 * (mx + 1) + 1, 2 * (mx + 2) + 1⟩]) ∧ Sep m B w w' := by
  have hopn : ∀ x : Int, 0 ≤ x → x ≤ 1000000 → 0 ≤ PC.opn x ∧ PC.opn x ≤ 1000001 := fun x _ _ => by unfold PC.opn; split <;> omega
  have e1 : PC.opn (2 * (mx + 1)) = 2 * (mx + 1) + 1 := by unfold PC.opn; rw [if_pos (by omega)]
  have e2 : PC.opn (2 * (mx + 1 + 1)) = 2 * (mx + 2) + 1 := by unfold PC.opn; rw [if_pos (by omega)]; omega
  have e3 : PC.opn (2 * (mx + 1 + 1 + 1)) = 2 * (mx + 3) + 1 := by unfold PC.opn; rw [if_pos (by omega)]; omega
  have hA1 := Lib.hid (mAnd_any m B mx a (PC.opn b) vi vl vo vb vv vn gs w h h0 (by omega) (by omega) hB)
  have hA2 : Hid (∀ w1, Maker w1 m B (mx + 1) vi vl vo vb vv vn (gs ++ [⟨2 * (mx + 1), a, PC.opn b⟩]) → B ≤ w1.heap.size → _) := fun w1 k kB => mAnd_any m B (mx + 1) (PC.opn a) b vi vl vo vb vv vn _ w1 k (by omega) (by omega) (by simp; omega) kB
  have hA3 : Hid (∀ w1, Maker w1 m B (mx + 1 + 1) vi vl vo vb vv vn (gs ++ [⟨2 * (mx + 1), a, PC.opn b⟩] ++ [⟨2 * (mx + 1 + 1), PC.opn a, b⟩]) → B ≤ w1.heap.size → _) := fun w1 k kB => mAnd_any m B (mx + 1 + 1) (2 * (mx + 1) + 1) (2 * (mx + 2) + 1) vi vl vo vb vv vn _ w1 k (by omega) (by omega) (by simp; omega) kB
  have hNa := Lib.hid fun w => litsNot_any a w ha.1 (by omega)
  have hNb := Lib.hid fun w => litsNot_any b w hb.1 (by omega)
  have hN1 := Lib.hid fun w => litsNot_any (2 * (mx + 1)) w (by omega) (by omega)
  have hN2 := Lib.hid fun w => litsNot_any (2 * (mx + 1 + 1)) w (by omega) (by omega)
  have hN3 := Lib.hid fun w => litsNot_any (2 * (mx + 1 + 1 + 1)) w (by omega) (by omega)
  rw [e1] at hN1
  rw [e2] at hN2
  rw [e3] at hN3
  clear e1 e2 e3 h hopn
  go_enter Tryz.func47, Tryz.ntmps47
  go_wp2_with fail
  refine (hNb.out _).mono ?_
  rintro e w1 ⟨rfl, rfl⟩
  go_wp2_with fail
  refine hA1.out.mono ?_
  rintro e w1 ⟨rfl, hM1, hS1⟩
  have HM1 := Lib.hid hM1
  have HS1 := Lib.hid hS1
  clear hM1 hS1
  go_wp2_with fail
  refine (hN1.out _).mono ?_
  rintro e w2 ⟨rfl, rfl⟩
  go_wp2_with fail
  refine (hNa.out _).mono ?_
  rintro e w2 ⟨rfl, rfl⟩
  go_wp2_with fail
  refine (hA2.out _ HM1.out (Nat.le_trans hB HS1.out.size)).mono ?_
  rintro e w2 ⟨rfl, hM2, hS2⟩
  have HM2 := Lib.hid hM2
  have HS2 := Lib.hid (HS1.out.trans hS2)
  clear hM2 hS2
  go_wp2_with fail
  refine (hN2.out _).mono ?_
  rintro e w3 ⟨rfl, rfl⟩
  go_wp2_with fail
  refine (hA3.out _ HM2.out (Nat.le_trans hB HS2.out.size)).mono ?_
  rintro e w3 ⟨rfl, hM3, hS3⟩
  have HM3 := Lib.hid hM3
  have HS3 := Lib.hid (HS2.out.trans hS3)
  clear hM3 hS3
  go_wp2_with fail
  refine (hN3.out _).mono ?_
  rintro e w4 ⟨rfl, rfl⟩
  go_wp2_with fail
  go_ret
  refine ⟨rfl, ?_, HS3.out⟩
  have := HM3.out
  rw [show mx + 1 + 1 + 1 = mx + 3 by omega, show mx + 1 + 1 = mx + 2 by omega, List.append_assoc, List.append_assoc] at this
  exact this

set_option maxRecDepth 100000 in
set_option maxHeartbeats 4000000 in
theorem mOr_any (m B : Nat) (mx a b : Int) (vi vl vo vb vv vn : Value) (gs : List PC.Gat) (w : World) (h : Maker w m B mx vi vl vo vb vv vn gs) (h0 : 0 ≤ mx) (h1 : mx ≤ 90000) (hg : gs.length ≤ 90000) (hB : B ≤ w.heap.size)
    (ha : 0 ≤ a ∧ a ≤ 1000000) (hb : 0 ≤ b ∧ b ≤ 1000000) :
    Calls Tryz.prog 46 #[.pointer (some ⟨m, 0, none⟩), .int .i64 a, .int .i64 b] w fun e w' => e = .returned (.int .i64 (2 * (mx + 1) + 1)) ∧
      Maker w' m B (mx + 1) vi vl vo vb vv vn (gs ++ [⟨2 * (mx + 1), PC.opn a, PC.opn b⟩]) ∧ Sep m B w w' := by
  have e1 : PC.opn (2 * (mx + 1)) = 2 * (mx + 1) + 1 := by unfold PC.opn; rw [if_pos (by omega)]
  have hA1 := Lib.hid (mAnd_any m B mx (PC.opn a) (PC.opn b) vi vl vo vb vv vn gs w h h0 (by omega) (by omega) hB)
  have hNa := Lib.hid fun w => litsNot_any a w ha.1 (by omega)
  have hNb := Lib.hid fun w => litsNot_any b w hb.1 (by omega)
  have hN1 := Lib.hid fun w => litsNot_any (2 * (mx + 1)) w (by omega) (by omega)
  rw [e1] at hN1
  clear e1 h
  go_enter Tryz.func46, Tryz.ntmps46
  go_wp2_with fail
  refine (hNa.out _).mono ?_
  rintro e w1 ⟨rfl, rfl⟩
  go_wp2_with fail
  refine (hNb.out _).mono ?_
  rintro e w1 ⟨rfl, rfl⟩
  go_wp2_with fail
  refine hA1.out.mono ?_
  rintro e w1 ⟨rfl, hM1, hS1⟩
  have HM1 := Lib.hid hM1
  have HS1 := Lib.hid hS1
  clear hM1 hS1
  go_wp2_with fail
  refine (hN1.out _).mono ?_
  rintro e w2 ⟨rfl, rfl⟩
  go_wp2_with fail
  go_ret
  exact ⟨rfl, HM1.out, HS1.out⟩

end Go.Proofs.YtpkaoabpifeigaaGreatDoor

namespace Go.Proofs.YtpkaoabpifeigaaGreatDoor
open Go.RowKit Go.Shelf

theorem mRoom_any (n : Nat) (w : World) (hn : n ≤ 1000000000000) : Calls Tryz.prog 42 #[.int .i64 (n : Int)] w fun e w' => e = .returned (.int .i64 (4 * (n : Int))) ∧ w = w' := by
  have e : IntKind.i64.wrap (4 * (n : Int)) = 4 * (n : Int) := IntWalk.i64_in _ (by omega)
  go_enter Tryz.func42, Tryz.ntmps42
  go_wp2
  go_ret
  exact ⟨rfl, rfl⟩

set_option maxHeartbeats 1000000 in
theorem cmpOr_two (x y : Int) (g : Nat) (w : World) (h0 : w.cell? ⟨g, 0, none⟩ = some (.int .i64 x)) (h1 : w.cell? ⟨g, 1, none⟩ = some (.int .i64 y)) :
    Calls Tryz.prog 63 #[.slice (some ⟨g, 0, none⟩) 2 2] w fun e w' => e = .returned (.int .i64 (if x = 0 then y else x)) ∧ w = w' := by
  by_cases hx : x = 0
  · rw [if_pos hx]
    have hxb : (x != 0) = false := by simpa using hx
    by_cases hy : y = 0
    · have hyb : (y != 0) = false := by simpa using hy
      go_enter Tryz.func63, Tryz.ntmps63
      go_wp2_with fail
      go_loopg [8] 2 (fun gg s8 wr => w = wr ∧ ((s8 = .int .i64 0 ∧ 2 ≤ gg) ∨ (s8 = .int .i64 1 ∧ 1 ≤ gg) ∨ s8 = .int .i64 2))
      case atStart => exact ⟨rfl, Or.inl ⟨rfl, Nat.le_refl _⟩⟩
      case round =>
        obtain ⟨rfl, hr⟩ := hrel
        rcases hr with ⟨rfl, hg⟩ | ⟨rfl, hg⟩ | rfl
        · go_wp2_with fail
          go_roundg 1
          case measure => omega
          case rel => exact ⟨rfl, Or.inr (Or.inl ⟨by go_num, Nat.le_refl _⟩)⟩
        · go_wp2_with fail
          go_roundg 0
          case measure => omega
          case rel => exact ⟨rfl, Or.inr (Or.inr (by go_num))⟩
        · go_wp2_with fail
          go_ret
          exact ⟨by rw [hy]; rfl, rfl⟩
    · have hyb : (y != 0) = true := by simpa using hy
      go_enter Tryz.func63, Tryz.ntmps63
      go_wp2_with fail
      go_loopg [8] 2 (fun gg s8 wr => w = wr ∧ ((s8 = .int .i64 0 ∧ 2 ≤ gg) ∨ (s8 = .int .i64 1 ∧ 1 ≤ gg)))
      case atStart => exact ⟨rfl, Or.inl ⟨rfl, Nat.le_refl _⟩⟩
      case round =>
        obtain ⟨rfl, hr⟩ := hrel
        rcases hr with ⟨rfl, hg⟩ | ⟨rfl, hg⟩
        · go_wp2_with fail
          go_roundg 1
          case measure => omega
          case rel => exact ⟨rfl, Or.inr ⟨by go_num, Nat.le_refl _⟩⟩
        · go_wp2_with fail
          go_ret
          exact ⟨rfl, rfl⟩
  · rw [if_neg hx]
    have hxb : (x != 0) = true := by simpa using hx
    go_enter Tryz.func63, Tryz.ntmps63
    go_wp2_with fail
    go_loopg [8] 2 (fun gg s8 wr => w = wr ∧ (s8 = .int .i64 0 ∧ 2 ≤ gg))
    case atStart => exact ⟨rfl, rfl, Nat.le_refl _⟩
    case round =>
      obtain ⟨rfl, rfl, hg⟩ := hrel
      go_wp2_with fail
      go_ret
      exact ⟨rfl, rfl⟩

set_option maxRecDepth 100000 in
set_option maxHeartbeats 4000000 in
theorem mTogether_any (a b : PC.Circ) (va vb : Value) (w : World) (ha : IsCirc w va a) (hb : IsCirc w vb b) :
    Calls Tryz.prog 36 #[va, vb] w fun e w' => e = .returned (.int .i64 (PC.togE a b)) ∧ Below w.heap.size w w' := by
  have HA := Lib.hid ha
  have HB := Lib.hid hb
  obtain ⟨ai, al, ao, ab, av, aa, an, rfl, hpa, _⟩ := ha
  obtain ⟨bi, bl, bo, bb, bv, ba, bn, rfl, hpb, _⟩ := hb
  obtain ⟨xa, ca, rfl, _, _, _⟩ := hpa.inputs.open_
  obtain ⟨xb, cb, rfl, _, _, _⟩ := hpb.inputs.open_
  obtain ⟨ya, da, rfl, _, _, _⟩ := hpa.outputs.open_
  obtain ⟨yb, db, rfl, _, _, _⟩ := hpb.outputs.open_
  clear hpa hpb
  have r1 := RowL.new (T := 27) w [.int .i64 a.max, .slice xa a.inputs.length ca, al, .slice ya a.outputs.length da, ab, av, aa, an]
  have r2 := RowL.new (T := 27) (w.alloc (.cells #[.int .i64 a.max, .slice xa a.inputs.length ca, al, .slice ya a.outputs.length da, ab, av, aa, an] 27)) [.int .i64 b.max, .slice xb b.inputs.length cb, bl, .slice yb b.outputs.length db, bb, bv, ba, bn]
  have r1 := r1.mono ((Below.refl _ _).alloc (Nat.le_refl _) (.cells #[.int .i64 b.max, .slice xb b.inputs.length cb, bl, .slice yb b.outputs.length db, bb, bv, ba, bn] 27))
  rw [World.size_alloc] at r2
  have hb0 := ((Below.refl w.heap.size w).alloc (Nat.le_refl _) (.cells #[.int .i64 a.max, .slice xa a.inputs.length ca, al, .slice ya a.outputs.length da, ab, av, aa, an] 27)).alloc (by simp) (.cells #[.int .i64 b.max, .slice xb b.inputs.length cb, bl, .slice yb b.outputs.length db, bb, bv, ba, bn] 27)
  obtain ⟨W, hW⟩ : ∃ W, W = (w.alloc (.cells #[.int .i64 a.max, .slice xa a.inputs.length ca, al, .slice ya a.outputs.length da, ab, av, aa, an] 27)).alloc (.cells #[.int .i64 b.max, .slice xb b.inputs.length cb, bl, .slice yb b.outputs.length db, bb, bv, ba, bn] 27) := ⟨_, rfl⟩
  have r1 : RowL 27 W w.heap.size [.int .i64 a.max, .slice xa a.inputs.length ca, al, .slice ya a.outputs.length da, ab, av, aa, an] := by rw [hW]; exact r1
  have r2 : RowL 27 W (w.heap.size + 1) [.int .i64 b.max, .slice xb b.inputs.length cb, bl, .slice yb b.outputs.length db, bb, bv, ba, bn] := by rw [hW]; exact r2
  have hb0 : Below w.heap.size w W := by rw [hW]; exact hb0
  have HW := Lib.hid hW
  have R1 := Lib.hid r1
  have R2 := Lib.hid r2
  have HB0 := Lib.hid hb0
  clear hW r1 r2 hb0
  have eA : Hid (∀ y, Below W.heap.size W y → _) := fun y hy => cCheck_any a _ y (HA.out.mono (Below.of HB0.out hy))
  have eB : Hid (∀ y, Below W.heap.size W y → _) := fun y hy => cCheck_any b _ y (HB.out.mono (Below.of HB0.out hy))
  have ePa := Lib.hid (PC.pchk_eq a)
  have ePb := Lib.hid (PC.pchk_eq b)
  obtain ⟨X, hX⟩ : ∃ X : Int, X = if PC.pchk a then 0 else 9 := ⟨_, rfl⟩
  obtain ⟨Y, hY⟩ : ∃ Y : Int, Y = if PC.pchk b then 0 else 9 := ⟨_, rfl⟩
  rw [← hX] at eA
  rw [← hY] at eB
  rw [ePa.out] at hX
  rw [ePb.out] at hY
  have HX := Lib.hid hX
  have HY := Lib.hid hY
  clear hX hY ePa ePb
  go_enter Tryz.func36, Tryz.ntmps36
  go_wp2_with fail
  rw [← HW.out]
  refine wp_region_makes 5 [isV (.agg #[.int .i64 a.max, .slice xa a.inputs.length ca, al, .slice ya a.outputs.length da, ab, av, aa, an]), isV (.int .i64 X), isV (.agg #[.int .i64 b.max, .slice xb b.inputs.length cb, bl, .slice yb b.outputs.length db, bb, bv, ba, bn]), isV (.int .i64 Y),
    (fun v y => ∃ g, v = .slice (some ⟨g, 0, none⟩) 2 2 ∧ RowL 29 y g [.int .i64 X, .int .i64 Y])] [some 6, some 7, some 8, some 9, some 10] (by kernel_rfl) (by kernel_rfl) rfl (by
      intro g hg
      simp only [List.mem_cons, List.mem_nil_iff, or_false] at hg
      rcases hg with rfl | rfl | rfl | rfl | rfl <;> first | exact isV_keeps _ | exact fun _ _ _ hb ⟨g, e, h⟩ => ⟨g, e, h.mono hb⟩) ?_ ?_
  · refine ⟨fun vs y hy hd => ?_, fun vs y hy hd => ?_, fun vs y hy hd => ?_, fun vs y hy hd => ?_, fun vs y hy hd => ?_, trivial⟩
    · have q := R1.out.mono hy
      have q0 := q.cell 0 _ rfl
      have q1 := q.cell 1 _ rfl
      have q2 := q.cell 2 _ rfl
      have q3 := q.cell 3 _ rfl
      have q4 := q.cell 4 _ rfl
      have q5 := q.cell 5 _ rfl
      have q6 := q.cell 6 _ rfl
      have q7 := q.cell 7 _ rfl
      (simp only [opens]; try simp only [Nat.reduceAdd])
      go_wp2_with fail
      exact ⟨_, rfl, Below.refl _ _, rfl⟩
    · have g0 : vs 0 = .agg #[.int .i64 a.max, .slice xa a.inputs.length ca, al, .slice ya a.outputs.length da, ab, av, aa, an] := hd 0 (by decide) (by kernel_rfl)
      have hC := Lib.hid (eA.out y hy)
      (simp only [opens]; try simp only [Nat.reduceAdd])
      rw [g0]
      go_wp2_with (go_at_call 25; refine hC.out.mono ?_; rintro e w4 ⟨rfl, hb4⟩)
      exact ⟨_, rfl, hb4, rfl⟩
    · have q := R2.out.mono hy
      have q0 := q.cell 0 _ rfl
      have q1 := q.cell 1 _ rfl
      have q2 := q.cell 2 _ rfl
      have q3 := q.cell 3 _ rfl
      have q4 := q.cell 4 _ rfl
      have q5 := q.cell 5 _ rfl
      have q6 := q.cell 6 _ rfl
      have q7 := q.cell 7 _ rfl
      (simp only [opens]; try simp only [Nat.reduceAdd])
      go_wp2_with fail
      exact ⟨_, rfl, Below.refl _ _, rfl⟩
    · have g0 : vs 2 = .agg #[.int .i64 b.max, .slice xb b.inputs.length cb, bl, .slice yb b.outputs.length db, bb, bv, ba, bn] := hd 2 (by decide) (by kernel_rfl)
      have hC := Lib.hid (eB.out y hy)
      (simp only [opens]; try simp only [Nat.reduceAdd])
      rw [g0]
      go_wp2_with (go_at_call 25; refine hC.out.mono ?_; rintro e w4 ⟨rfl, hb4⟩)
      exact ⟨_, rfl, hb4, rfl⟩
    · have g0 : vs 1 = .int .i64 X := hd 1 (by decide) (by kernel_rfl)
      have g1 : vs 3 = .int .i64 Y := hd 3 (by decide) (by kernel_rfl)
      (simp only [opens]; try simp only [Nat.reduceAdd])
      rw [g0, g1]
      go_wp2_with fail
      exact ⟨_, rfl, (Below.refl _ _).alloc (Nat.le_refl _) _, _, rfl, RowL.new y _⟩
  intro vs y hy hf
  obtain ⟨g, g0, g1⟩ : ∃ g, vs 4 = .slice (some ⟨g, 0, none⟩) 2 2 ∧ RowL 29 y g [.int .i64 X, .int .i64 Y] := hf 4 (by decide)
  have hO := Lib.hid (cmpOr_two X Y g y (g1.cell 0 _ rfl) (g1.cell 1 _ rfl))
  have hby := Lib.hid (Below.of HB0.out hy)
  have p1 := (R1.out.mono hy).cell 1 _ rfl
  have p3 := (R1.out.mono hy).cell 3 _ rfl
  have z1 := (R2.out.mono hy).cell 1 _ rfl
  have z3 := (R2.out.mono hy).cell 3 _ rfl
  (simp only [opens]; try simp only [Nat.reduceAdd])
  rw [g0]
  clear g0 g1 hf hy R1 R2 eA eB HW HB0
  obtain ⟨E, hE⟩ : ∃ E : Int, E = if X = 0 then Y else X := ⟨_, rfl⟩
  rw [← hE] at hO
  rw [HX.out, HY.out] at hE
  clear HX HY
  by_cases hc : PC.chk a = false ∨ PC.chk b = false
  · have e9 : E = 9 := by
      rw [hE]
      rcases hc with h | h
      · rw [h]; rfl
      · rw [h]; cases PC.chk a <;> rfl
    have eT : Hid (PC.togE a b = 9) := by show _ = _; rw [PC.togE, if_pos hc]
    clear hE hc
    subst e9
    go_wp2_with (go_at_call 63; refine hO.out.mono ?_; rintro e w5 ⟨rfl, rfl⟩)
    go_ret
    exact ⟨by rw [eT.out]; rfl, hby.out⟩
  · have e0 : E = 0 := by
      rw [hE]
      cases h1 : PC.chk a with
      | false => exact absurd (Or.inl h1) hc
      | true =>
        cases h2 : PC.chk b with
        | false => exact absurd (Or.inr h2) hc
        | true => rfl
    by_cases hl : a.inputs.length ≠ b.inputs.length ∨ a.outputs.length ≠ b.outputs.length
    · have eT : Hid (PC.togE a b = 3) := by show _ = _; rw [PC.togE, if_neg hc, if_pos hl]
      clear hE hc
      subst e0
      by_cases h1 : a.inputs.length = b.inputs.length
      · have hlb : (((a.inputs.length : Nat) : Int) != ((b.inputs.length : Nat) : Int)) = false := by rw [bne_eq_false_iff_eq]; omega
        have hlb2 : (((a.outputs.length : Nat) : Int) != ((b.outputs.length : Nat) : Int)) = true := by rw [bne_iff_ne]; omega
        clear hl h1
        go_wp2_with (go_at_call 63; refine hO.out.mono ?_; rintro e w5 ⟨rfl, rfl⟩)
        go_ret
        exact ⟨by rw [eT.out]; rfl, hby.out⟩
      · have hlb : (((a.inputs.length : Nat) : Int) != ((b.inputs.length : Nat) : Int)) = true := by rw [bne_iff_ne]; omega
        clear hl h1
        go_wp2_with (go_at_call 63; refine hO.out.mono ?_; rintro e w5 ⟨rfl, rfl⟩)
        go_ret
        exact ⟨by rw [eT.out]; rfl, hby.out⟩
    · have eT : Hid (PC.togE a b = 0) := by show _ = _; rw [PC.togE, if_neg hc, if_neg hl]
      have hlb : (((a.inputs.length : Nat) : Int) != ((b.inputs.length : Nat) : Int)) = false := by rw [bne_eq_false_iff_eq]; omega
      have hlb2 : (((a.outputs.length : Nat) : Int) != ((b.outputs.length : Nat) : Int)) = false := by rw [bne_eq_false_iff_eq]; omega
      clear hE hc hl
      subst e0
      go_wp2_with (go_at_call 63; refine hO.out.mono ?_; rintro e w5 ⟨rfl, rfl⟩)
      go_ret
      exact ⟨by rw [eT.out]; rfl, hby.out⟩

end Go.Proofs.YtpkaoabpifeigaaGreatDoor
