/- Contract: a circuit's octets. -/
import Derived.Test.YtjcaejdokillgaaWalkA1
import Derived.Test.YtjcaejdokillgaaWalkA2
import Derived.Test.YtjcaejdokillgaaWalkA3
import Derived.Test.YtjcaejdokillgaaLibS
namespace Go.Proofs.Ytjcaejdokillgaa
open Go.RowKit Go.Shelf
attribute [local simp] mk_get

/-- octets in their block -/
def OctsA (w : World) (v : Value) (l : List UInt8) : Prop :=
  ∃ g cap, v = .slice (some ⟨g, 0, none⟩) l.length cap ∧ ∀ j (h : j < l.length), w.cell? ⟨g, j, none⟩ = some (.int .u8 (l[j].toNat : Int))

theorem OctsA.mono {w w' : World} {v : Value} {l : List UInt8} (h : OctsA w v l) (hb : Below w.heap.size w w') : OctsA w' v l := by
  obtain ⟨g, cap, e, hc⟩ := h
  exact ⟨g, cap, e, fun j hj => (hb.cell (World.block_lt_of_cell? w _ (hc j hj))).trans (hc j hj)⟩

theorem OctsA.conv (w : World) (l : List UInt8) (c : Nat) (e : TypeId) (fr : Nat × Nat) (c' : Nat) : OctsA (w.alloc (.cells (bytesRow ⟨l.toArray⟩ c) e fr)) (.slice (some ⟨w.heap.size, 0, none⟩) l.length c') l := by
  refine ⟨_, _, rfl, fun j hj => ?_⟩
  rw [World.cell?_alloc_mark, bytesRow_at _ _ _ (by simpa using hj)]
  simp

theorem OctsA.back {w : World} {v : Value} {l : List UInt8} (h : OctsA w v l) : (convert 29 9 v).run Try.prog w = .ok (.string ⟨l.toArray⟩) w := by
  obtain ⟨g, cap, rfl, hc⟩ := h
  exact run_convert_bytes_back w 29 9 5 ⟨g, 0, none⟩ cap l Try.underlying29 Try.underlying5 Try.underlying9 fun j hj => by
    rw [show ((⟨g, 0, none⟩ : Addr).add j) = ⟨g, j, none⟩ from by unfold Addr.add; split <;> simp_all]
    exact hc j hj

/-- a fresh row of ints -/
theorem ints_new (w : World) (l : List Int) (hl : l.length ≤ 1000) (hr : ∀ x ∈ l, rng x) (us : Array Value) (hu : us = (l.map (Value.int .i64)).toArray) : Ints (w.alloc (.cells us 3)) (.slice (some ⟨w.heap.size, 0, none⟩) l.length l.length) l := by
  subst hu
  refine ⟨⟨_, _, rfl, Nat.le_refl _, by omega, (fun h => by cases h), by simp, fun j hj => ⟨w.heap.size, 0, rfl, by simp, ?_⟩⟩, hr⟩
  rw [World.cell?_alloc_mark]
  simp

theorem row_slices {w : World} {v : Value} {c : PC.Circ} (h : IsCirc w v c) : ∃ i j l m o p b d vv ww a q n r, v = .agg #[.int .i64 c.max, .slice i c.inputs.length j, .slice l c.latches.length m, .slice o c.outputs.length p, .slice b c.bads.length d, .slice vv c.invars.length ww, .slice a c.ands.length q, .slice n c.names.length r] ∧
    CircParts w c (.slice i c.inputs.length j) (.slice l c.latches.length m) (.slice o c.outputs.length p) (.slice b c.bads.length d) (.slice vv c.invars.length ww) (.slice a c.ands.length q) (.slice n c.names.length r) := by
  obtain ⟨vi, vl, vo, vb, vv, va, vn, rfl, hp, _⟩ := h
  have hq := hp
  obtain ⟨i, j, rfl, _⟩ := hp.inputs.open_
  obtain ⟨l, m, rfl, _⟩ := hp.latches.open_
  obtain ⟨o, p, rfl, _⟩ := hp.outputs.open_
  obtain ⟨b, d, rfl, _⟩ := hp.bads.open_
  obtain ⟨v, ww, rfl, _⟩ := hp.invars.open_
  obtain ⟨a, q, rfl, _⟩ := hp.ands.open_
  obtain ⟨n, r, rfl, _⟩ := hp.names.open_
  exact ⟨i, j, l, m, o, p, b, d, v, ww, a, q, n, r, rfl, hq⟩

theorem Ints.at_ {w : World} {ao : Option Addr} {cap n : Nat} {l : List Int} (h : Ints w (.slice ao n cap) l) (k : Nat) (hk : k < l.length) :
    ∃ b o, ao = some ⟨b, o, none⟩ ∧ b < w.heap.size ∧ rng l[k] ∧ w.cell? ⟨b, o + k, none⟩ = some (.int .i64 l[k]) := by
  obtain ⟨ao', cap', e, _, _, h3⟩ := h.open_
  cases e
  exact h3 k hk
theorem Lats.at_ {w : World} {ao : Option Addr} {cap n : Nat} {l : List PC.Lat} (h : Lats w (.slice ao n cap) l) (j : Nat) (hj : j < l.length) :
    ∃ b off, ao = some ⟨b, off, none⟩ ∧ b < w.heap.size ∧ (rng l[j].lit ∧ rng l[j].next ∧ rng l[j].reset) ∧ w.cell? ⟨b, off + j * 3, none⟩ = some (.int .i64 l[j].lit) ∧ w.cell? ⟨b, off + j * 3 + 1, none⟩ = some (.int .i64 l[j].next) ∧ w.cell? ⟨b, off + j * 3 + 2, none⟩ = some (.int .i64 l[j].reset) := by
  obtain ⟨ao', cap', e, _, _, h3⟩ := h.open_
  cases e
  exact h3 j hj
theorem Gats.at_ {w : World} {ao : Option Addr} {cap n : Nat} {l : List PC.Gat} (h : Gats w (.slice ao n cap) l) (j : Nat) (hj : j < l.length) :
    ∃ b off, ao = some ⟨b, off, none⟩ ∧ b < w.heap.size ∧ (rng l[j].lit ∧ rng l[j].left ∧ rng l[j].right) ∧ w.cell? ⟨b, off + j * 3, none⟩ = some (.int .i64 l[j].lit) ∧ w.cell? ⟨b, off + j * 3 + 1, none⟩ = some (.int .i64 l[j].left) ∧ w.cell? ⟨b, off + j * 3 + 2, none⟩ = some (.int .i64 l[j].right) := by
  obtain ⟨ao', cap', e, _, _, h3⟩ := h.open_
  cases e
  exact h3 j hj
theorem Nams.at_ {w : World} {ao : Option Addr} {cap n : Nat} {l : List PC.Nam} (h : Nams w (.slice ao n cap) l) (j : Nat) (hj : j < l.length) :
    ∃ b off, ao = some ⟨b, off, none⟩ ∧ b < w.heap.size ∧ (rng l[j].at_ ∧ l[j].kind.length ≤ 9223372036854775807 ∧ l[j].text.length ≤ 9223372036854775807) ∧ w.cell? ⟨b, off + j * 3, none⟩ = some (.string ⟨l[j].kind.toArray⟩) ∧ w.cell? ⟨b, off + j * 3 + 1, none⟩ = some (.int .i64 l[j].at_) ∧ w.cell? ⟨b, off + j * 3 + 2, none⟩ = some (.string ⟨l[j].text.toArray⟩) := by
  obtain ⟨ao', cap', e, _, _, h3⟩ := h.open_
  cases e
  exact h3 j hj

theorem lineT_head' (l : List Int) : PA.lineT [97, 105, 103] l = Lib.join (W [[97, 105, 103]] l) [32] ++ [10] := rfl
theorem lineT_none' (l : List Int) : PA.lineT [] l = Lib.join (W ([] : List (List UInt8)) l) [32] ++ [10] := rfl

theorem b_new (w : World) (T : TypeId) : BIs T w.heap.size w.heap.size [] (w.alloc (.cells #[.pointer none, .slice none 0 0] T)) :=
  .inl ⟨Nat.le_refl _, .slice none 0 0, heap_alloc_new w _, World.ownsRowF_nil _ _ _ _, by simp [Value.ownBlock]⟩

/-- what a call of the writer leaves -/
def WroteTo (c : PC.Circ) (e : Ending) (w : World) (w' : World) : Prop :=
  ∃ v, e = .returned (.tuple #[v, .int .i64 (if PA.ordered c then 0 else 35)]) ∧ (PA.ordered c = true → OctsA w' v (PA.text c)) ∧ (PA.ordered c = false → v = .slice none 0 0) ∧ Below w.heap.size w w'

/-- the writer has written S, R is to come -/
def Wr (b : Nat) (T R : List UInt8) (w : World) : Prop := ∃ S, S ++ R = T ∧ BIs 51 b b (Lib.byteCells S) w

theorem _root_.Go.Proofs.Ytjcaejdokillgaa.RowL.others {T : TypeId} {y y' : World} {g b : Nat} {l : List Value} (h : RowL T y g l) (hk : Lib.OthersKept 5 (some b) y y') (hg : g ≠ b) (hT : T ≠ 5) : RowL T y' g l :=
  hk g _ h (by simpa using hg) (fun c fz e => hT (by injection e))

theorem gat_row_ne : (38 : Nat) ≠ 5 := by decide

theorem cat5 (a b c _d : List UInt8) : (((⟨a.toArray⟩ : ByteArray) ++ ⟨b.toArray⟩ ++ ⟨#[32]⟩) ++ ⟨c.toArray⟩) ++ ⟨#[10]⟩ = ⟨(a ++ b ++ [32] ++ c ++ [10]).toArray⟩ := by
  rw [show (⟨#[32]⟩ : ByteArray) = ⟨([32] : List UInt8).toArray⟩ from rfl, show (⟨#[10]⟩ : ByteArray) = ⟨([10] : List UInt8).toArray⟩ from rfl]
  simp only [cat_eq]

theorem Wr.step {b : Nat} {T R R' : List UInt8} {w : World} {S X : List UInt8} (hS : S ++ R = T) (hR : R = X ++ R') (h : BIs 51 b b (Lib.byteCells (S ++ X)) w) : Wr b T R' w :=
  ⟨S ++ X, by rw [List.append_assoc, ← hR, hS], h⟩

set_option maxRecDepth 100000 in
set_option maxHeartbeats 16000000 in
theorem aWrite_any (c : PC.Circ) (vc : Value) (w : World) (h : IsCirc w vc c) :
    Calls Try.prog 6 #[vc] w fun e w' => WroteTo c e w w' := by
  have HC := Lib.hid h
  have hO := Lib.hid fun y (hy : Below w.heap.size w y) => aOrdered_any c vc y (h.mono hy)
  obtain ⟨xi, xj, xl, xm, xo, xp, xb, xc, xv, xw, xa, xq, xn, xr, rfl, hp⟩ := row_slices h
  have HP := Lib.hid hp
  clear h hp
  have r1 := RowL.new (T := 27) w [.int .i64 c.max, .slice xi c.inputs.length xj, .slice xl c.latches.length xm, .slice xo c.outputs.length xp, .slice xb c.bads.length xc, .slice xv c.invars.length xw, .slice xa c.ands.length xq, .slice xn c.names.length xr]
  have hb0 := (Below.refl w.heap.size w).alloc (Nat.le_refl _) (.cells #[.int .i64 c.max, .slice xi c.inputs.length xj, .slice xl c.latches.length xm, .slice xo c.outputs.length xp, .slice xb c.bads.length xc, .slice xv c.invars.length xw, .slice xa c.ands.length xq, .slice xn c.names.length xr] 27)
  obtain ⟨X, hX⟩ : ∃ X, X = w.alloc (.cells #[.int .i64 c.max, .slice xi c.inputs.length xj, .slice xl c.latches.length xm, .slice xo c.outputs.length xp, .slice xb c.bads.length xc, .slice xv c.invars.length xw, .slice xa c.ands.length xq, .slice xn c.names.length xr] 27) := ⟨_, rfl⟩
  rw [← hX] at r1 hb0
  have R1 := Lib.hid r1
  have HB0 := Lib.hid hb0
  have HX := Lib.hid hX
  clear hX r1 hb0
  cases hord : PA.ordered c with
  | false =>
    rw [hord] at hO
    have q := R1.out
    have q0 := q.cell 0 _ rfl
    have q1 := q.cell 1 _ rfl
    have q2 := q.cell 2 _ rfl
    have q3 := q.cell 3 _ rfl
    have q4 := q.cell 4 _ rfl
    have q5 := q.cell 5 _ rfl
    have q6 := q.cell 6 _ rfl
    have q7 := q.cell 7 _ rfl
    rw [HX.out] at q0 q1 q2 q3 q4 q5 q6 q7
    go_enter Try.func6, Try.ntmps6
    go_wp2_with fail
    rw [← HX.out]
    refine (hO.out _ HB0.out).mono ?_
    rintro e w1 ⟨rfl, hb1⟩
    clear q q0 q1 q2 q3 q4 q5 q6 q7
    go_wp2_with fail
    go_ret2
    exact ⟨_, by rw [hord]; rfl, (fun h => (by rw [hord] at h; cases h)), fun _ => rfl, Below.of HB0.out hb1⟩
  | true =>
    rw [hord] at hO
    have hck : PC.chk c = true := by unfold PA.ordered at hord; simp only [Bool.and_eq_true] at hord; exact hord.1
    have HR := Lib.hid (PC.right_of c hck)
    have HORD := Lib.hid hord
    have HCK := Lib.hid hck
    have HTL := Lib.hid (PA.text_len hord)
    obtain ⟨T, hT⟩ : ∃ T, T = PA.text c := ⟨_, rfl⟩
    have HT := Lib.hid hT
    rw [← hT] at HTL
    clear hT hck hord
    have q := R1.out
    have q0 := q.cell 0 _ rfl
    have q1 := q.cell 1 _ rfl
    have q2 := q.cell 2 _ rfl
    have q3 := q.cell 3 _ rfl
    have q4 := q.cell 4 _ rfl
    have q5 := q.cell 5 _ rfl
    have q6 := q.cell 6 _ rfl
    have q7 := q.cell 7 _ rfl
    rw [HX.out] at q0 q1 q2 q3 q4 q5 q6 q7
    go_enter Try.func6, Try.ntmps6
    go_wp2_with fail
    rw [← HX.out]
    refine (hO.out _ HB0.out).mono ?_
    rintro e w1 ⟨rfl, hb1⟩
    clear q q0 q1 q2 q3 q4 q5 q6 q7
    clear HX
    have HB1 := Lib.hid (Below.of HB0.out hb1)
    have S1 := Lib.hid (R1.out.mono hb1)
    have hS1 : Hid (∀ o, RowL 27 (w1.alloc o) w.heap.size [.int .i64 c.max, .slice xi c.inputs.length xj, .slice xl c.latches.length xm, .slice xo c.outputs.length xp, .slice xb c.bads.length xc, .slice xv c.invars.length xw, .slice xa c.ands.length xq, .slice xn c.names.length xr]) := fun o => S1.out.mono ((Below.refl _ _).alloc (Nat.le_refl _) o)
    clear hb1 R1 HB0 hO
    have hB0 := Lib.hid (b_new w1 51)
    have q := hS1.out (.cells #[.pointer none, .slice none 0 0] 51)
    have q0 := q.cell 0 _ rfl
    have q1 := q.cell 1 _ rfl
    have q2 := q.cell 2 _ rfl
    have q3 := q.cell 3 _ rfl
    have q4 := q.cell 4 _ rfl
    have q5 := q.cell 5 _ rfl
    have q6 := q.cell 6 _ rfl
    have q7 := q.cell 7 _ rfl
    have a0 := HR.out.max0
    have a1 := HR.out.max1
    have b2 := HR.out.ins
    have b3 := HR.out.lats
    have b4 := HR.out.outs
    have b5 := HR.out.bads
    have b6 := HR.out.invs
    have b7 := PC.ands_len c HR.out
    have hh := (ints_new (w1.alloc (.cells #[.pointer none, .slice none 0 0] 51)) (PA.headN c) (by simp [PA.headN]) (by
      intro x hx
      simp only [PA.headN, List.mem_cons, List.mem_nil_iff, or_false] at hx
      unfold rng; omega) #[.int .i64 c.max, .int .i64 (c.inputs.length : Int), .int .i64 (c.latches.length : Int), .int .i64 (c.outputs.length : Int), .int .i64 (c.ands.length : Int), .int .i64 (c.bads.length : Int), .int .i64 (c.invars.length : Int)] rfl)
    rw [World.size_alloc] at hh
    have hh := Lib.hid hh
    have hl1 := Lib.hid (aHead_any w1.heap.size w1.heap.size [] (PA.headN c) _ _ (bs_mono hB0.out ((Below.refl _ _).alloc (Nat.le_refl _) (.cells #[.int .i64 c.max, .int .i64 (c.inputs.length : Int), .int .i64 (c.latches.length : Int), .int .i64 (c.outputs.length : Int), .int .i64 (c.ands.length : Int), .int .i64 (c.bads.length : Int), .int .i64 (c.invars.length : Int)] 3))) hh.out (by simp [W]) (by simp [PA.headN]) (by simp; omega) (by simp))
    clear hh a0 a1
    go_wp2_with fail
    refine hl1.out.mono ?_
    rintro e w2 ⟨rfl, hB2, hb2, _⟩
    have hb2 : Hid (Below w1.heap.size w1 w2) := (((Below.refl _ _).alloc (Nat.le_refl _) _).alloc (by simp) _).trans hb2
    rw [← lineT_head', List.nil_append] at hB2
    have hW2 : Hid (Wr w1.heap.size T (PA.text1 c) w2) := ⟨_, HT.out.symm, hB2⟩
    clear hB2 hl1
    clear q q0 q1 q2 q3 q4 q5 q6 q7
    have q := S1.out.mono hb2.out
    have q0 := q.cell 0 _ rfl
    have q1 := q.cell 1 _ rfl
    have q2 := q.cell 2 _ rfl
    have q3 := q.cell 3 _ rfl
    have q4 := q.cell 4 _ rfl
    have q5 := q.cell 5 _ rfl
    have q6 := q.cell 6 _ rfl
    have q7 := q.cell 7 _ rfl
    go_wp2_with fail
    clear q q0 q1 q2 q3 q4 q5 q6 q7
    go_loopg [44] c.latches.length (fun gg s44 wr => ∃ k : Nat, k ≤ c.latches.length ∧ c.latches.length - k ≤ gg ∧ s44 = .int .i64 k ∧ Hid (Below w1.heap.size w1 wr) ∧ Hid (Wr w1.heap.size T ((c.latches.drop k).flatMap PA.latT ++ PA.text2 c) wr))
    case atStart => exact ⟨0, Nat.zero_le _, by omega, rfl, hb2, by rw [List.drop_zero]; exact hW2⟩
    case round =>
      obtain ⟨k, hk, hg, rfl, hbr, hWr⟩ := hrel
      by_cases hlt : k < c.latches.length
      · obtain ⟨b', off, rfl, hbs, ⟨hr0, hr1, hr2⟩, c0, c1, c2⟩ := HP.out.latches.at_ k hlt
        have hmea : ∀ g : Nat, c.latches.length - k ≤ g → c.latches.length - (k + 1) < g := fun g h => by omega
        have hBw := Below.of HB1.out hbr.out
        have c0 := (hBw.cell hbs).trans c0
        have c1 := (hBw.cell hbs).trans c1
        have c2 := (hBw.cell hbs).trans c2
        have hltz : (k : Int) < (c.latches.length : Int) := by omega
        obtain ⟨S, hS, hBI⟩ := hWr.out
        have hdr : Hid ((c.latches.drop k).flatMap PA.latT ++ PA.text2 c = PA.latT c.latches[k] ++ ((c.latches.drop (k + 1)).flatMap PA.latT ++ PA.text2 c)) := by
          show _ = _
          rw [List.drop_eq_getElem_cons hlt, List.flatMap_cons, List.append_assoc]
        have hSl : Hid (S.length ≤ 1000000000) := by
          have := congrArg List.length hS
          rw [List.length_append] at this
          have := HTL.out
          show _ ≤ _
          omega
        have HS := Lib.hid hS
        have hlat : PA.latT c.latches[k] = PA.lineT [] (if c.latches[k].reset = 0 then [c.latches[k].next] else [c.latches[k].next, c.latches[k].reset]) := rfl
        rw [hlat] at hdr
        generalize c.latches[k].lit = x at *
        generalize c.latches[k].next = xn at *
        generalize c.latches[k].reset = xr' at *
        obtain ⟨V, hV⟩ : ∃ V, V = wr.alloc (.cells #[.int .i64 x, .int .i64 xn, .int .i64 xr'] 36) := ⟨_, rfl⟩
        have hBV : Hid (BIs 51 w1.heap.size w1.heap.size (Lib.byteCells S) V) := by rw [hV]; exact bs_mono hBI ((Below.refl _ _).alloc (Nat.le_refl _) _)
        have hbV : Hid (Below w1.heap.size w1 V) := by rw [hV]; exact hbr.out.alloc hbr.out.size _
        have hVs : Hid (w1.heap.size ≤ V.heap.size) := hbV.out.size
        clear hS hlat hBI hBw hbr hWr
        by_cases h0 : xr' = 0
        · rw [if_pos h0] at hdr
          subst h0
          have hh := ints_new V [xn] (by simp) (by simpa using hr1) #[.int .i64 xn] rfl
          have hl := Lib.hid (aLine_any w1.heap.size w1.heap.size S [xn] _ _ (bs_mono hBV.out ((Below.refl _ _).alloc (Nat.le_refl _) (.cells #[.int .i64 xn] 3))) hh (by simp [W]) (by simp) (by simp; have := hVs.out; omega) hSl.out)
          rw [← lineT_none'] at hl
          clear hh
          rw [hV] at hl
          try rw [World.size_alloc] at hl
          go_wp2_with fail
          refine hl.out.mono ?_
          rintro e w5 ⟨rfl, hB5, hb5, hk5⟩
          have hb6 : Hid (Below w1.heap.size w1 w5) := (hbV.out.alloc hVs.out _).trans (by rw [hV]; exact hb5)
          go_wp2_with fail
          go_roundg (c.latches.length - (k + 1))
          case measure => exact hmea _ hg
          case rel => exact ⟨k + 1, by omega, by omega, by go_num, hb6, Wr.step HS.out hdr.out hB5⟩
        · rw [if_neg h0] at hdr
          have h0b : (xr' == 0) = false := by simpa using h0
          have hh := ints_new V [xn, xr'] (by simp) (by simpa using And.intro hr1 hr2) #[.int .i64 xn, .int .i64 xr'] rfl
          have hl := Lib.hid (aLine_any w1.heap.size w1.heap.size S [xn, xr'] _ _ (bs_mono hBV.out ((Below.refl _ _).alloc (Nat.le_refl _) (.cells #[.int .i64 xn, .int .i64 xr'] 3))) hh (by simp [W]) (by simp) (by simp; have := hVs.out; omega) hSl.out)
          rw [← lineT_none'] at hl
          clear hh
          rw [hV] at hl
          try rw [World.size_alloc] at hl
          go_wp2_with fail
          refine hl.out.mono ?_
          rintro e w5 ⟨rfl, hB5, hb5, hk5⟩
          have hb6 : Hid (Below w1.heap.size w1 w5) := (hbV.out.alloc hVs.out _).trans (by rw [hV]; exact hb5)
          go_wp2_with fail
          go_roundg (c.latches.length - (k + 1))
          case measure => exact hmea _ hg
          case rel => exact ⟨k + 1, by omega, by omega, by go_num, hb6, Wr.step HS.out hdr.out hB5⟩
      · have hltz : ¬ (k : Int) < (c.latches.length : Int) := by omega
        obtain rfl : k = c.latches.length := by omega
        rw [List.drop_length, List.flatMap_nil, List.nil_append] at hWr
        have HB2 := Lib.hid (Below.of HB1.out hbr.out)
        have q := S1.out.mono hbr.out
        have q0 := q.cell 0 _ rfl
        have q1 := q.cell 1 _ rfl
        have q2 := q.cell 2 _ rfl
        have q3 := q.cell 3 _ rfl
        have q4 := q.cell 4 _ rfl
        have q5 := q.cell 5 _ rfl
        have q6 := q.cell 6 _ rfl
        have q7 := q.cell 7 _ rfl
        have HPw := Lib.hid (HP.out.mono HB2.out)
        have hCc := ConcatI_three c.outputs.length c.bads.length c.invars.length _ _ _ (.slice xo c.outputs.length xp) (.slice xb c.bads.length xc) (.slice xv c.invars.length xw) wr.heap.size (wr.alloc (.cells #[.slice xo c.outputs.length xp, .slice xb c.bads.length xc, .slice xv c.invars.length xw] 22)) (HPw.out.outputs.mono ((Below.refl _ _).alloc (Nat.le_refl _) _)).1 (HPw.out.bads.mono ((Below.refl _ _).alloc (Nat.le_refl _) _)).1 (HPw.out.invars.mono ((Below.refl _ _).alloc (Nat.le_refl _) _)).1 (int_one _) (int_one _) (int_one _) (by simp) (by simp) (by simp) (by omega)
        have HCc := Lib.hid hCc
        clear hCc hk hg hlt
        go_wp2_with fail
        refine HCc.out.mono ?_
        rintro e w6 ⟨u, rfl, hown, hb6⟩
        clear q q0 q1 q2 q3 q4 q5 q6 q7
        have hb6 : Hid (Below w1.heap.size w1 w6) := (hbr.out.alloc hbr.out.size _).trans (hb6.mono (by simp; have := hbr.out.size; omega))
        have hown : w6.ownsRow (wr.heap.size + 1) 3 1 u (PA.told c).length ((PA.told c).map (Value.int .i64)) := by
          rw [← List.map_append, ← List.map_append, show c.outputs.length + c.bads.length + c.invars.length = (PA.told c).length by simp [PA.told]; omega, World.size_alloc] at hown
          exact hown
        have hBB : Hid (w1.heap.size < wr.heap.size + 1) := Nat.lt_succ_of_le hbr.out.size
        generalize wr.heap.size + 1 = BB at *
        have hW6 : Hid (Wr w1.heap.size T (PA.text2 c) w6) := by
          obtain ⟨S, hS, hBI⟩ := hWr.out
          refine ⟨S, hS, bs_mono hBI ?_⟩
          have h1 : Below wr.heap.size wr (wr.alloc (.cells #[.slice xo c.outputs.length xp, .slice xb c.bads.length xc, .slice xv c.invars.length xw] 22)) := (Below.refl _ _).alloc (Nat.le_refl _) _
          exact Below.of h1 (by assumption)
        obtain ⟨to_, tcap, rfl⟩ : ∃ a cap, u = .slice a (PA.told c).length cap := by
          rcases hown.2 with ⟨hv, h0⟩ | ⟨g, cap, cur, hv, _⟩
          · exact ⟨none, 0, by rw [hv, h0]⟩
          · exact ⟨_, _, hv⟩
        have HOW := Lib.hid hown
        have hrT := Lib.hid (PA.told_rng HR.out)
        clear hown HCc hWr hbr HPw HB2
        have HW6 : Hid (Wr w1.heap.size T ((PA.told c).flatMap PA.oneT ++ PA.text3 c) w6) := hW6.out
        have hTL : (PA.told c).length ≤ 192 := by unfold PA.told; simp only [List.length_append]; omega
        generalize PA.told c = TL at *
        clear hW6
        go_wp2_with fail
        go_loopg [73] TL.length (fun gg s73 wr => ∃ k : Nat, k ≤ TL.length ∧ TL.length - k ≤ gg ∧ s73 = .int .i64 k ∧ Hid (wr.ownsRow BB 3 1 (.slice to_ TL.length tcap) TL.length (TL.map (Value.int .i64))) ∧ Hid (Below w1.heap.size w1 wr) ∧ Hid (Wr w1.heap.size T ((TL.drop k).flatMap PA.oneT ++ PA.text3 c) wr))
        case atStart => exact ⟨0, Nat.zero_le _, by omega, rfl, HOW.out, hb6, by rw [List.drop_zero]; exact HW6⟩
        case round =>
          obtain ⟨k, hk, hg, rfl, how, hbr, hWr⟩ := hrel
          by_cases hlt : k < TL.length
          · have hInt : Ints wr (.slice to_ TL.length tcap) TL := ⟨Cells.of_owns how.out, fun x hx => by have := hrT.out x hx; unfold rng; omega⟩
            obtain ⟨b', off, rfl, hbs, hr0, c0⟩ := hInt.at_ k hlt
            have hmea : ∀ g : Nat, TL.length - k ≤ g → TL.length - (k + 1) < g := fun g h => by omega
            have hltz : (k : Int) < (TL.length : Int) := by omega
            obtain ⟨S, hS, hBI⟩ := hWr.out
            have hdr : Hid ((TL.drop k).flatMap PA.oneT ++ PA.text3 c = PA.lineT [] [TL[k]] ++ ((TL.drop (k + 1)).flatMap PA.oneT ++ PA.text3 c)) := by
              show _ = _
              rw [List.drop_eq_getElem_cons hlt, List.flatMap_cons, List.append_assoc]
              rfl
            have hSl : Hid (S.length ≤ 1000000000) := by
              have := congrArg List.length hS
              rw [List.length_append] at this
              have := HTL.out
              show _ ≤ _
              omega
            have HS := Lib.hid hS
            generalize TL[k] = xn at *
            have hBV := Lib.hid hBI
            have hVs : Hid (w1.heap.size ≤ wr.heap.size) := hbr.out.size
            clear hS hBI hWr hInt
            have hh := ints_new wr [xn] (by simp) (by simpa using hr0) #[.int .i64 xn] rfl
            have hl := Lib.hid (aLine_any w1.heap.size w1.heap.size S [xn] _ _ (bs_mono hBV.out ((Below.refl _ _).alloc (Nat.le_refl _) (.cells #[.int .i64 xn] 3))) hh (by simp [W]) (by simp) (by simp; have := hVs.out; omega) hSl.out)
            rw [← lineT_none'] at hl
            have hoa := Lib.hid (how.out.below2 ((Below.refl _ _).alloc (Nat.le_refl _) (.cells #[.int .i64 xn] 3)))
            have hba : Hid (Below w1.heap.size w1 (wr.alloc (.cells #[.int .i64 xn] 3))) := hbr.out.alloc hVs.out _
            clear hh hr0 how hbr
            go_wp2_with fail
            refine hl.out.mono ?_
            rintro e w5 ⟨rfl, hB5, hb5, hk5⟩
            have ho5 := Lib.hid (owns_others hoa.out hk5 (by decide) hBB.out)
            have hb6 : Hid (Below w1.heap.size w1 w5) := hba.out.trans hb5
            go_wp2_with fail
            go_roundg (TL.length - (k + 1))
            case measure => exact hmea _ hg
            case rel => exact ⟨k + 1, by omega, by omega, by go_num, ho5, hb6, Wr.step HS.out hdr.out hB5⟩
          · have hltz : ¬ (k : Int) < (TL.length : Int) := by omega
            obtain rfl : k = TL.length := by omega
            rw [List.drop_length, List.flatMap_nil, List.nil_append] at hWr
            have HB7 := Lib.hid hbr.out
            have HW7 : Hid (Wr w1.heap.size T (c.ands.flatMap PA.gatT ++ PA.text4 c) wr) := hWr.out
            have q := S1.out.mono hbr.out
            have q0 := q.cell 0 _ rfl
            have q1 := q.cell 1 _ rfl
            have q2 := q.cell 2 _ rfl
            have q3 := q.cell 3 _ rfl
            have q4 := q.cell 4 _ rfl
            have q5 := q.cell 5 _ rfl
            have q6 := q.cell 6 _ rfl
            have q7 := q.cell 7 _ rfl
            clear hWr how hk hg hlt
            go_wp2_with fail
            clear q q0 q1 q2 q3 q4 q5 q6 q7
            clear hbr
            go_loopg [85] c.ands.length (fun gg s85 wr => ∃ k : Nat, k ≤ c.ands.length ∧ c.ands.length - k ≤ gg ∧ s85 = .int .i64 k ∧ Hid (Below w1.heap.size w1 wr) ∧ Hid (Wr w1.heap.size T ((c.ands.drop k).flatMap PA.gatT ++ PA.text4 c) wr))
            case atStart => exact ⟨0, Nat.zero_le _, by omega, rfl, HB7, by rw [List.drop_zero]; exact HW7⟩
            case round =>
              obtain ⟨k, hk, hg, rfl, hbr, hWr⟩ := hrel
              by_cases hlt : k < c.ands.length
              · obtain ⟨b', off, rfl, hbs, ⟨hr0, hr1, hr2⟩, c0, c1, c2⟩ := HP.out.ands.at_ k hlt
                have hmea : ∀ g : Nat, c.ands.length - k ≤ g → c.ands.length - (k + 1) < g := fun g h => by omega
                have hBw := Below.of HB1.out hbr.out
                have c0 := (hBw.cell hbs).trans c0
                have c1 := (hBw.cell hbs).trans c1
                have c2 := (hBw.cell hbs).trans c2
                have hltz : (k : Int) < (c.ands.length : Int) := by omega
                obtain ⟨S, hS, hBI⟩ := hWr.out
                have hrg := PA.gat_rng HORD.out (List.getElem_mem hlt)
                have hdr : Hid ((c.ands.drop k).flatMap PA.gatT ++ PA.text4 c = (PA.grp (c.ands[k].lit - c.ands[k].left).toNat ++ PA.grp (c.ands[k].left - c.ands[k].right).toNat) ++ ((c.ands.drop (k + 1)).flatMap PA.gatT ++ PA.text4 c)) := by
                  show _ = _
                  rw [List.drop_eq_getElem_cons hlt, List.flatMap_cons, List.append_assoc]
                  rfl
                have hSl : Hid (S.length ≤ 700000) := by
                  have := congrArg List.length hS
                  rw [List.length_append] at this
                  have := HTL.out
                  show _ ≤ _
                  omega
                have HS := Lib.hid hS
                generalize c.ands[k].lit = x at *
                generalize c.ands[k].left = xl' at *
                generalize c.ands[k].right = xr' at *
                obtain ⟨g1, g2, g3, g4, g5, g6, g7, g8⟩ := hrg
                obtain ⟨V, hV⟩ : ∃ V, V = wr.alloc (.cells #[.int .i64 x, .int .i64 xl', .int .i64 xr'] 38) := ⟨_, rfl⟩
                have hrw : RowL 38 V wr.heap.size [.int .i64 x, .int .i64 xl', .int .i64 xr'] := by rw [hV]; exact RowL.new wr _
                have hBV : Hid (BIs 51 w1.heap.size w1.heap.size (Lib.byteCells S) V) := by rw [hV]; exact bs_mono hBI ((Below.refl _ _).alloc (Nat.le_refl _) _)
                have hbV : Hid (Below w1.heap.size w1 V) := by rw [hV]; exact hbr.out.alloc hbr.out.size _
                have hVs : Hid (w1.heap.size ≤ V.heap.size) := hbV.out.size
                have hbw := bs_lt hBI
                have hn1 := aNumber_any w1.heap.size w1.heap.size S (x - xl').toNat V hBV.out (by omega) hVs.out (by have := hSl.out; omega)
                rw [Int.toNat_of_nonneg g1] at hn1
                have hn2 : Hid (∀ y, BIs 51 w1.heap.size w1.heap.size (Lib.byteCells (S ++ PA.grp (x - xl').toNat)) y → w1.heap.size ≤ y.heap.size → _) := fun y h1 h2 => aNumber_any w1.heap.size w1.heap.size (S ++ PA.grp (x - xl').toNat) (xl' - xr').toNat y h1 (by omega) h2 (by
                  have := PA.grp_len (x - xl').toNat (by omega)
                  have := hSl.out
                  rw [List.length_append]; omega)
                have hn2 : Hid (∀ y, BIs 51 w1.heap.size w1.heap.size (Lib.byteCells (S ++ PA.grp (x - xl').toNat)) y → w1.heap.size ≤ y.heap.size → Calls Try.prog 17 #[.pointer (some ⟨w1.heap.size, 0, none⟩), .int .i64 (xl' - xr')] y fun e w' => e = .returned (.tuple #[]) ∧ BIs 51 w1.heap.size w1.heap.size (Lib.byteCells (S ++ PA.grp (x - xl').toNat ++ PA.grp (xl' - xr').toNat)) w' ∧ Below w1.heap.size y w' ∧ Lib.OthersKept 5 (some w1.heap.size) y w') := fun y h1 h2 => by
                  have := hn2.out y h1 h2
                  rw [Int.toNat_of_nonneg g3] at this
                  exact this
                rw [hV] at hn1
                have hn1 := Lib.hid hn1
                have HRW := Lib.hid hrw
                have HV := Lib.hid hV
                have e1 : IntKind.i64.wrap (x - xl') = x - xl' := IntWalk.i64_in _ (by omega)
                have e2 : IntKind.i64.wrap (xl' - xr') = xl' - xr' := IntWalk.i64_in _ (by omega)
                have hwn : Hid (wr.heap.size ≠ w1.heap.size) := by show _ ≠ _; omega
                clear hS hBI hbr hWr hBw hV hrw hr0 hr1 hr2
                go_wp2_with fail
                refine hn1.out.mono ?_
                rintro e w5 ⟨rfl, hB5, hb5, hk5⟩
                rw [← HV.out] at hb5 hk5
                have hrow5 := RowL.others HRW.out hk5 hwn.out gat_row_ne
                have d0 := hrow5.cell 0 _ rfl
                have d1 := hrow5.cell 1 _ rfl
                have d2 := hrow5.cell 2 _ rfl
                have hb6 : Hid (Below w1.heap.size w1 w5) := hbV.out.trans hb5
                have hn3 := Lib.hid (hn2.out w5 hB5 hb6.out.size)
                clear hb5 hk5 hB5
                go_wp2_with fail
                refine hn3.out.mono ?_
                rintro e w7 ⟨rfl, hB7, hb7, hk7⟩
                have hb8 : Hid (Below w1.heap.size w1 w7) := hb6.out.trans hb7
                rw [List.append_assoc] at hB7
                clear hrow5 d0 d1 d2
                go_wp2_with fail
                go_roundg (c.ands.length - (k + 1))
                case measure => exact hmea _ hg
                case rel => exact ⟨k + 1, by omega, by omega, by go_num, hb8, Wr.step HS.out hdr.out hB7⟩
              · have hltz : ¬ (k : Int) < (c.ands.length : Int) := by omega
                obtain rfl : k = c.ands.length := by omega
                rw [List.drop_length, List.flatMap_nil, List.nil_append] at hWr
                have HB8 := Lib.hid hbr.out
                have HW8 : Hid (Wr w1.heap.size T (c.names.flatMap PA.namT ++ []) wr) := by rw [List.append_nil]; exact hWr.out
                have q := S1.out.mono hbr.out
                have q0 := q.cell 0 _ rfl
                have q1 := q.cell 1 _ rfl
                have q2 := q.cell 2 _ rfl
                have q3 := q.cell 3 _ rfl
                have q4 := q.cell 4 _ rfl
                have q5 := q.cell 5 _ rfl
                have q6 := q.cell 6 _ rfl
                have q7 := q.cell 7 _ rfl
                have hnl := (PA.names_ok HCK.out).1
                clear hWr hk hg hlt
                go_wp2_with fail
                clear q q0 q1 q2 q3 q4 q5 q6 q7
                clear hbr
                go_loopg [107] c.names.length (fun gg s107 wr => ∃ k : Nat, k ≤ c.names.length ∧ c.names.length - k ≤ gg ∧ s107 = .int .i64 k ∧ Hid (Below w1.heap.size w1 wr) ∧ Hid (Wr w1.heap.size T ((c.names.drop k).flatMap PA.namT ++ []) wr))
                case atStart => exact ⟨0, Nat.zero_le _, by omega, rfl, HB8, by rw [List.drop_zero]; exact HW8⟩
                case round =>
                  obtain ⟨k, hk, hg, rfl, hbr, hWr⟩ := hrel
                  by_cases hlt : k < c.names.length
                  · obtain ⟨b', off, rfl, hbs, ⟨hr0, hr1, hr2⟩, c0, c1, c2⟩ := HP.out.names.at_ k hlt
                    have hmea : ∀ g : Nat, c.names.length - k ≤ g → c.names.length - (k + 1) < g := fun g h => by omega
                    have hBw := Below.of HB1.out hbr.out
                    have c0 := (hBw.cell hbs).trans c0
                    have c1 := (hBw.cell hbs).trans c1
                    have c2 := (hBw.cell hbs).trans c2
                    have hltz : (k : Int) < (c.names.length : Int) := by omega
                    obtain ⟨S, hS, hBI⟩ := hWr.out
                    have hnt := PA.namT_len HCK.out ((PA.names_ok HCK.out).2 _ (List.getElem_mem hlt))
                    have hdr : Hid ((c.names.drop k).flatMap PA.namT ++ [] = (c.names[k].kind ++ P01.decI c.names[k].at_ ++ [32] ++ c.names[k].text ++ [10]) ++ ((c.names.drop (k + 1)).flatMap PA.namT ++ [])) := by
                      show _ = _
                      rw [List.drop_eq_getElem_cons hlt, List.flatMap_cons, List.append_assoc]
                      rfl
                    have hSl : Hid (S.length ≤ 700000) := by
                      have := congrArg List.length hS
                      rw [List.length_append] at this
                      have := HTL.out
                      show _ ≤ _
                      omega
                    have HS := Lib.hid hS
                    unfold PA.namT at hnt
                    generalize c.names[k].kind = nk at *
                    generalize c.names[k].at_ = na at *
                    generalize c.names[k].text = nt at *
                    have hnP : ∀ y, _ := fun y => Print_any na y hr0.1 hr0.2
                    generalize hD : P01.decI na = D at *
                    obtain ⟨V, hV⟩ : ∃ V, V = wr.alloc (.cells #[.string ⟨nk.toArray⟩, .int .i64 na, .string ⟨nt.toArray⟩] 40) := ⟨_, rfl⟩
                    have hrw : RowL 40 V wr.heap.size [.string ⟨nk.toArray⟩, .int .i64 na, .string ⟨nt.toArray⟩] := by rw [hV]; exact RowL.new wr _
                    have hBV : Hid (BIs 51 w1.heap.size w1.heap.size (Lib.byteCells S) V) := by rw [hV]; exact bs_mono hBI ((Below.refl _ _).alloc (Nat.le_refl _) _)
                    have hbV : Hid (Below w1.heap.size w1 V) := by rw [hV]; exact hbr.out.alloc hbr.out.size _
                    have hVs : Hid (w1.heap.size ≤ V.heap.size) := hbV.out.size
                    have d0 : ∀ x : Later V, _ := fun x => (hrw.mono x.below).cell 0 _ rfl
                    have d1 : ∀ x : Later V, _ := fun x => (hrw.mono x.below).cell 1 _ rfl
                    have d2 : ∀ x : Later V, _ := fun x => (hrw.mono x.below).cell 2 _ rfl
                    have hPr : ∀ x : Later V, _ := fun x => hnP x.at_
                    simp only [List.length_append, List.length_cons, List.length_nil] at hnt
                    obtain ⟨M1, hM1⟩ : ∃ M, M = nk ++ D := ⟨_, rfl⟩
                    obtain ⟨M2, hM2⟩ : ∃ M, M = M1 ++ [32] := ⟨_, rfl⟩
                    obtain ⟨M3, hM3⟩ : ∃ M, M = M2 ++ nt := ⟨_, rfl⟩
                    obtain ⟨M4, hM4⟩ : ∃ M, M = M3 ++ [10] := ⟨_, rfl⟩
                    have k1 : (⟨nk.toArray⟩ : ByteArray) ++ ⟨D.toArray⟩ = ⟨M1.toArray⟩ := by rw [hM1]; exact cat_eq _ _
                    have k2 : (⟨M1.toArray⟩ : ByteArray) ++ ⟨#[32]⟩ = ⟨M2.toArray⟩ := by rw [hM2]; exact cat_eq _ [32]
                    have k3 : (⟨M2.toArray⟩ : ByteArray) ++ ⟨nt.toArray⟩ = ⟨M3.toArray⟩ := by rw [hM3]; exact cat_eq _ _
                    have k4 : (⟨M3.toArray⟩ : ByteArray) ++ ⟨#[10]⟩ = ⟨M4.toArray⟩ := by rw [hM4]; exact cat_eq _ [10]
                    have l1 : M1.length = nk.length + D.length := by rw [hM1]; simp
                    have l2 : M2.length = M1.length + 1 := by rw [hM2]; simp
                    have l3 : M3.length = M2.length + nt.length := by rw [hM3]; simp
                    have l4 : M4.length = M3.length + 1 := by rw [hM4]; simp
                    have m1 : ¬ 9223372036854775807 < nk.length + D.length := by omega
                    have m2 : ¬ 9223372036854775807 < M1.length + 1 := by omega
                    have m3 : ¬ 9223372036854775807 < M2.length + nt.length := by omega
                    have m4 : ¬ 9223372036854775807 < M3.length + 1 := by omega
                    have hJS : Hid (S.length + M4.length ≤ 140737488355328) := by
                      have := hSl.out
                      show _ ≤ _
                      omega
                    rw [show nk ++ D ++ [32] ++ nt ++ [10] = M4 by rw [hM4, hM3, hM2, hM1]] at hdr
                    clear hM1 hM2 hM3 hM4 l1 l2 l3 l4
                    have HV := Lib.hid hV
                    clear hS hBI hbr hWr hBw hV hrw hr0 hr1 hr2 hnP hD hnt
                    go_wp2_with fail
                    rw [← HV.out]
                    refine wp_region_later_tail 14 (by kernel_rfl) (by kernel_rfl) ?_; simp only [List.take_succ_cons, List.take_zero, List.drop_succ_cons, List.drop_zero]; (repeat (go_big_quiet_step ((go_at_call 19; with_reducible exact Calls.later (hPr _))))); refine wpQuiet_nil ?_; rintro w3 ⟨⟨_, hb3⟩, rfl⟩
                    clear d0 d1 d2 hPr k1 k2 k3 k4 m1 m2 m3 m4
                    go_wp2_with (go_at_call 18; refine (bWriteString_any 51 aig_lies aig_ne w1.heap.size w1.heap.size (Lib.byteCells S) M4 _ (bs_mono hBV.out hb3) (by rw [Lib.byteCells_length]; exact hJS.out) (Nat.le_trans hVs.out hb3.size)).mono ?_; rintro e w5 ⟨rfl, hB5, hb5, hk5⟩)
                    have hb6 : Hid (Below w1.heap.size w1 w5) := (hbV.out.trans (hb3.mono hVs.out)).trans hb5
                    rw [bytes_app] at hB5
                    go_roundg (c.names.length - (k + 1))
                    case measure => exact hmea _ hg
                    case rel => exact ⟨k + 1, by omega, by omega, by go_num, hb6, Wr.step HS.out hdr.out hB5⟩
                  · have hltz : ¬ (k : Int) < (c.names.length : Int) := by omega
                    obtain rfl : k = c.names.length := by omega
                    rw [List.drop_length, List.flatMap_nil, List.nil_append] at hWr
                    obtain ⟨S, hS, hBI⟩ := hWr.out
                    rw [List.append_nil] at hS
                    subst hS
                    have hSn : S ≠ [] := by
                      intro h
                      have := HT.out
                      rw [h] at this
                      have := congrArg List.length this
                      unfold PA.text PA.lineT at this
                      simp at this
                    have hst := Lib.hid (bString_any 51 w1.heap.size w1.heap.size S wr hBI hSn)
                    have HB9 := Lib.hid (hbr.out)
                    have HB10 := Lib.hid HB1.out
                    clear hWr hBI hSn hk hg hlt hbr
                    have kb := fun w => run_bytes_of_string (P := Try.prog) w 9 29 5 ⟨S.toArray⟩ Try.underlying9 Try.underlying29 Try.underlying5
                    go_wp2_with fail
                    refine hst.out.mono ?_
                    rintro e w8 ⟨rfl, hb8⟩
                    have HB11 := Lib.hid (HB10.out.trans ((HB9.out.trans hb8).mono HB10.out.size))
                    clear hb8
                    go_wp2_with fail
                    go_ret2
                    refine ⟨_, by rw [HORD.out]; rfl, fun _ => ?_, (fun h => (by rw [HORD.out] at h; cases h)), ?_⟩
                    · rw [← HT.out]
                      exact OctsA.conv _ _ _ _ _ _
                    · exact (HB11.out.drew.alloc HB11.out.size _)

end Go.Proofs.Ytjcaejdokillgaa
