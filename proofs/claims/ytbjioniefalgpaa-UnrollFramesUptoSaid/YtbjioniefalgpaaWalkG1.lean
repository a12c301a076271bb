/- Contract: which variables are something. -/
import Derived.Test.YtbjioniefalgpaaWalkT3
import Derived.Test.YtbjioniefalgpaaPlainG
import Derived.Deep.OwnRows
namespace Go.Proofs.Ytbjioniefalgpaa
open Go.RowKit Go.Shelf

/-- a block of truths -/
def Bools (w : World) (g n : Nat) (f : Nat → Bool) : Prop := g < w.heap.size ∧ (∀ i, i < n → w.cell? ⟨g, i, none⟩ = some (.bool (f i))) ∧ ∀ i, w.frozen? ⟨g, i, none⟩ = false

theorem Bools.mono {w w' : World} {g n : Nat} {f : Nat → Bool} (h : Bools w g n f) (hb : Below w.heap.size w w') : Bools w' g n f :=
  ⟨Nat.lt_of_lt_of_le h.1 hb.size, fun i hi => (hb.cell h.1).trans (h.2.1 i hi), fun i => (hb.frozen h.1).trans (h.2.2 i)⟩

theorem Bools.set {w : World} {g n : Nat} {f : Nat → Bool} (h : Bools w g n f) (v : Nat) (hv : v < n) : Bools (w.setCell ⟨g, v, none⟩ (.bool true)) g n (fun i => f i || v == i) := by
  refine ⟨by simp [World.setCell]; exact h.1, fun i hi => ?_, fun i => ?_⟩
  · by_cases e : v = i
    · subst e
      rw [World.cell?_setCell_same _ _ _ (h.2.1 v hv)]
      simp
    · have hne : (⟨g, v, none⟩ : Addr) ≠ ⟨g, i, none⟩ := fun hh => e (by injection hh)
      rw [World.cell?_setCell_other (h := hne), h.2.1 i hi]
      have : (v == i) = false := by simpa using e
      show some (Value.bool (f i)) = some (Value.bool (f i || v == i))
      rw [this, Bool.or_false]
  · rw [World.frozen?_setCell]; exact h.2.2 i

theorem Bools.congr {w : World} {g n : Nat} {f f' : Nat → Bool} (h : Bools w g n f) (e : ∀ i, f i = f' i) : Bools w g n f' := ⟨h.1, fun i hi => by rw [h.2.1 i hi, e], h.2.2⟩

theorem Bools.new (w : World) (n : Nat) : Bools (w.alloc (.cells (madeCells #[.bool false] n) 4)) w.heap.size n (fun _ => false) := by
  refine ⟨by simp, fun i hi => ?_, fun i => by go_simp⟩
  rw [World.cell?_alloc_mark]
  simp [madeCells, hi, Nat.mod_one]

theorem info_bool : (Try.prog.info? 4).map (fun i => (i.zero, i.size, i.bytes)) = some (some (.bool false), 1, 1) := by kernel_rfl

theorem Box8.under {w w' : World} {b B : Nat} {x0 x1 x2 x3 x4 x5 x6 x7 : Value} (h : Box8 w b x0 x1 x2 x3 x4 x5 x6 x7) (hb : Below B w w') (hl : b < B) : Box8 w' b x0 x1 x2 x3 x4 x5 x6 x7 := by
  obtain ⟨h0, h1, h2, h3, h4, h5, h6, h7⟩ := h
  exact ⟨(hb.cell hl).trans h0, (hb.cell hl).trans h1, (hb.cell hl).trans h2, (hb.cell hl).trans h3, (hb.cell hl).trans h4, (hb.cell hl).trans h5, (hb.cell hl).trans h6, (hb.cell hl).trans h7⟩

set_option maxRecDepth 100000 in
set_option maxHeartbeats 4000000 in
theorem tdefined_any (c : PC.Circ) (vc : Value) (w : World) (h : IsCirc w vc c) (hR : PC.Right c) :
    Calls Try.prog 44 #[vc] w fun e w' => ∃ g, e = .returned (.slice (some ⟨g, 0, none⟩) (c.max.toNat + 1) (c.max.toNat + 1)) ∧ Bools w' g (c.max.toNat + 1) (PC.isDef c) ∧ Below w.heap.size w w' := by
  have hRt := Lib.hid hR
  obtain ⟨hm0, hm1⟩ : 0 ≤ c.max ∧ c.max ≤ 2048 := ⟨hR.max0, hR.max1⟩
  clear hR
  obtain ⟨vi, vl, vo, vb, vv, va, vn, rfl, hp, hm⟩ := h
  obtain ⟨ai, capi, rfl, hi1, hi2, hi3⟩ := hp.inputs.open_
  obtain ⟨al, capl, rfl, hl1, hl2, hl3⟩ := hp.latches.open_
  obtain ⟨aa, capa, rfl, ha1, ha2, ha3⟩ := hp.ands.open_
  clear hp
  have HI := Lib.hid hi3
  have HL := Lib.hid hl3
  have HG := Lib.hid ha3
  clear hi3 hl3 ha3
  have hb0 : Below w.heap.size w (w.alloc (.cells #[.int .i64 c.max, .slice ai c.inputs.length capi, .slice al c.latches.length capl, vo, vb, vv, .slice aa c.ands.length capa, vn] 27)) := (Below.refl _ _).alloc (Nat.le_refl _) _
  have hbx := Lib.hid (Box8.new w (.int .i64 c.max) (.slice ai c.inputs.length capi) (.slice al c.latches.length capl) vo vb vv (.slice aa c.ands.length capa) vn 27)
  obtain ⟨N, hNe⟩ : ∃ N, N = c.max.toNat + 1 := ⟨_, rfl⟩
  rw [← hNe]
  have HNE := Lib.hid hNe
  clear hNe
  have hNz : c.max + 1 = (N : Int) := by have := HNE.out; omega
  have hNb : N ≤ 2049 := by have := HNE.out; omega
  have e1 : IntKind.i64.wrap (c.max + 1) = (N : Int) := by rw [hNz]; exact IntWalk.i64_in _ (by omega)
  have e2 : wrap64 (c.max + 1) = (N : Int) := by rw [hNz]; unfold wrap64; omega
  have hmk : ∀ w1 : World, (Instr.makeSlice 75 (.int .i64 (N : Int)) (.int .i64 (N : Int))).run Try.prog w1 = .ok (.slice (some ⟨w1.heap.size, 0, none⟩) N N) (w1.alloc (.cells (madeCells #[.bool false] N) 4)) :=
    fun w1 => run_make_row' 75 4 (.bool false) 1 Try.underlying75 info_bool rfl .i64 .i64 N (by omega) (by omega) w1
  clear hNz hNb
  go_enter Try.func44, Try.ntmps44
  go_wp2_with fail
  obtain ⟨W1, hW1⟩ : ∃ W1, W1 = w.alloc (.cells #[.int .i64 c.max, .slice ai c.inputs.length capi, .slice al c.latches.length capl, vo, vb, vv, .slice aa c.ands.length capa, vn] 27) := ⟨_, rfl⟩
  have hW1s : w.heap.size + 1 = W1.heap.size := by rw [hW1]; simp
  rw [← hW1]
  rw [← hW1] at hb0 hbx
  try rw [hW1s]
  clear hW1 hmk
  have hBn := Bools.new W1 N
  obtain ⟨W2, hW2⟩ : ∃ W2, W2 = W1.alloc (.cells (madeCells #[.bool false] N) 4) := ⟨_, rfl⟩
  have hb12 : Below W1.heap.size W1 W2 := by rw [hW2]; exact (Below.refl _ _).alloc (Nat.le_refl _) _
  rw [← hW2] at hBn ⊢
  clear hW2
  obtain ⟨g, hg0⟩ : ∃ g, g = W1.heap.size := ⟨_, rfl⟩
  rw [← hg0] at hBn hb12 ⊢
  have hgw : w.heap.size < g := by omega
  have hgw : w.heap.size + 1 ≤ g := by omega
  clear hg0 hW1s
  have hbx2 := Lib.hid (hbx.out.under hb12 (show w.heap.size < g by omega))
  have hbw2 : Below w.heap.size w W2 := hb0.trans (hb12.mono (by omega))
  have hgs : g < W2.heap.size := hBn.1
  clear hb0 hbx hb12
  go_loopg [17] c.inputs.length (fun gg s17 wr => ∃ k : Nat, k ≤ c.inputs.length ∧ c.inputs.length - k ≤ gg ∧ s17 = .int .i64 k ∧ Below g W2 wr ∧ Aside (Bools wr g N (PC.dfI c k)))
  case atStart => exact ⟨0, Nat.zero_le _, by omega, rfl, Below.refl _ _, hBn.congr fun i => (PC.dfI_zero c i).symm⟩
  case round =>
    obtain ⟨k, hk, hg, rfl, hbr, hB⟩ := hrel
    obtain ⟨q0, q1, q2, q3, q4, q5, q6, q7⟩ := hbx2.out.under hbr (show w.heap.size < g by omega)
    have hbwr := hbw2.trans (hbr.mono (show w.heap.size ≤ g by omega))
    by_cases hlt : k < c.inputs.length
    · obtain ⟨b, off, rfl, hbs, hxr, c0⟩ := HI.out k hlt
      have hmea : ∀ g : Nat, c.inputs.length - k ≤ g → c.inputs.length - (k + 1) < g := fun g h => by omega
      have c0 := (hbwr.cell hbs).trans c0
      have hxd := hRt.out.defs _ (PC.mem_defs_in c _ (List.getElem_mem hlt))
      have hst := Lib.hid fun v => PC.dfI_succ c k v hlt
      have hV := fun w => litsVar_any c.inputs[k] w hxr
      have hvN : PC.varOf c.inputs[k] < N := by have := HNE.out; unfold PC.varOf; omega
      generalize PC.varOf c.inputs[k] = v at *
      generalize c.inputs[k] = x at *
      have hbA := Lib.hid hbr
      have hltz : (k : Int) < (c.inputs.length : Int) := by omega
      clear hxd hxr
      have hset := Lib.hid (hB.out.set v hvN)
      have hcell := hB.out.2.1 v hvN
      have hfroz := hB.out.2.2 v
      have hvz : (v : Int) < (N : Int) := by omega
      go_wp2_with (go_at_call 56; refine (hV _).mono ?_; rintro e w5 ⟨rfl, rfl⟩)
      go_roundg (c.inputs.length - (k + 1))
      case measure => exact hmea _ hg
      case rel =>
        refine ⟨k + 1, by omega, by omega, by go_num, hbA.out.setCell (Nat.le_refl _) _, hset.out.congr fun i => ?_⟩
        exact (hst.out i).symm
    · have hltz : ¬ (k : Int) < (c.inputs.length : Int) := by omega
      obtain rfl : k = c.inputs.length := by omega
      have hB2 := hB.out.congr fun i => PC.dfI_end c i
      clear HI
      go_wp2_with fail
      go_loopg [29] c.latches.length (fun gg s29 wr => ∃ k : Nat, k ≤ c.latches.length ∧ c.latches.length - k ≤ gg ∧ s29 = .int .i64 k ∧ Below g W2 wr ∧ Aside (Bools wr g N (PC.dfL c k)))
      case atStart => exact ⟨0, Nat.zero_le _, by omega, rfl, hbr, hB2⟩
      case round =>
        clear hbr hB hB2 hbwr q0 q1 q2 q3 q4 q5 q6 q7 hg hk hlt hltz
        obtain ⟨k, hk, hg, rfl, hbr, hB⟩ := hrel
        obtain ⟨q0, q1, q2, q3, q4, q5, q6, q7⟩ := hbx2.out.under hbr (show w.heap.size < g by omega)
        have hbwr := hbw2.trans (hbr.mono (show w.heap.size ≤ g by omega))
        by_cases hlt : k < c.latches.length
        · obtain ⟨b, off, rfl, hbs, ⟨hxr, _, _⟩, c0, c1, c2⟩ := HL.out k hlt
          have hmea : ∀ g : Nat, c.latches.length - k ≤ g → c.latches.length - (k + 1) < g := fun g h => by omega
          have c0 := (hbwr.cell hbs).trans c0
          have c1 := (hbwr.cell hbs).trans c1
          have c2 := (hbwr.cell hbs).trans c2
          have hxd := hRt.out.defs _ (PC.mem_defs_lat c _ (List.getElem_mem hlt))
          have hst := Lib.hid fun v => PC.dfL_succ c k v hlt
          have hV := fun w => litsVar_any c.latches[k].lit w hxr
          have hvN : PC.varOf c.latches[k].lit < N := by have := HNE.out; unfold PC.varOf; omega
          generalize PC.varOf c.latches[k].lit = v at *
          generalize c.latches[k].lit = x at *
          generalize c.latches[k].next = xn at *
          generalize c.latches[k].reset = xr at *
          have hgb : g ≤ wr.heap.size := Nat.le_trans (Nat.le_of_lt hgs) hbr.size
          obtain ⟨wA, hwA⟩ : ∃ wA, wA = wr.alloc (.cells #[.int .i64 x, .int .i64 xn, .int .i64 xr] 63) := ⟨_, rfl⟩
          have hbA : Hid (Below g W2 wA) := by rw [hwA]; exact hbr.alloc hgb _
          have hB : Hid (Bools wA g N (PC.dfL c k)) := by rw [hwA]; exact hB.out.mono ((Below.refl _ _).alloc (Nat.le_refl _) _)
          subst hwA
          have hltz : (k : Int) < (c.latches.length : Int) := by omega
          clear hxd hxr
          have hset := Lib.hid (hB.out.set v hvN)
          have hcell := hB.out.2.1 v hvN
          have hfroz := hB.out.2.2 v
          have hvz : (v : Int) < (N : Int) := by omega
          go_wp2_with (go_at_call 56; refine (hV _).mono ?_; rintro e w5 ⟨rfl, rfl⟩)
          go_roundg (c.latches.length - (k + 1))
          case measure => exact hmea _ hg
          case rel =>
            refine ⟨k + 1, by omega, by omega, by go_num, hbA.out.setCell (Nat.le_refl _) _, hset.out.congr fun i => ?_⟩
            exact (hst.out i).symm
        · have hltz : ¬ (k : Int) < (c.latches.length : Int) := by omega
          obtain rfl : k = c.latches.length := by omega
          have hB2 := hB.out.congr fun i => PC.dfL_end c i
          clear HL
          go_wp2_with fail
          go_loopg [42] c.ands.length (fun gg s42 wr => ∃ k : Nat, k ≤ c.ands.length ∧ c.ands.length - k ≤ gg ∧ s42 = .int .i64 k ∧ Below g W2 wr ∧ Aside (Bools wr g N (PC.dfG c k)))
          case atStart => exact ⟨0, Nat.zero_le _, by omega, rfl, hbr, hB2⟩
          case round =>
            clear hbr hB hB2 hbwr q0 q1 q2 q3 q4 q5 q6 q7 hg hk hlt hltz
            obtain ⟨k, hk, hg, rfl, hbr, hB⟩ := hrel
            obtain ⟨q0, q1, q2, q3, q4, q5, q6, q7⟩ := hbx2.out.under hbr (show w.heap.size < g by omega)
            have hbwr := hbw2.trans (hbr.mono (show w.heap.size ≤ g by omega))
            by_cases hlt : k < c.ands.length
            · obtain ⟨b, off, rfl, hbs, ⟨hxr, _, _⟩, c0, c1, c2⟩ := HG.out k hlt
              have hmea : ∀ g : Nat, c.ands.length - k ≤ g → c.ands.length - (k + 1) < g := fun g h => by omega
              have c0 := (hbwr.cell hbs).trans c0
              have c1 := (hbwr.cell hbs).trans c1
              have c2 := (hbwr.cell hbs).trans c2
              have hxd := hRt.out.defs _ (PC.mem_defs_gat c _ (List.getElem_mem hlt))
              have hst := Lib.hid fun v => PC.dfG_succ c k v hlt
              have hV := fun w => litsVar_any c.ands[k].lit w hxr
              have hvN : PC.varOf c.ands[k].lit < N := by have := HNE.out; unfold PC.varOf; omega
              generalize PC.varOf c.ands[k].lit = v at *
              generalize c.ands[k].lit = x at *
              generalize c.ands[k].left = xn at *
              generalize c.ands[k].right = xr at *
              have hgb : g ≤ wr.heap.size := Nat.le_trans (Nat.le_of_lt hgs) hbr.size
              obtain ⟨wA, hwA⟩ : ∃ wA, wA = wr.alloc (.cells #[.int .i64 x, .int .i64 xn, .int .i64 xr] 65) := ⟨_, rfl⟩
              have hbA : Hid (Below g W2 wA) := by rw [hwA]; exact hbr.alloc hgb _
              have hB : Hid (Bools wA g N (PC.dfG c k)) := by rw [hwA]; exact hB.out.mono ((Below.refl _ _).alloc (Nat.le_refl _) _)
              subst hwA
              have hltz : (k : Int) < (c.ands.length : Int) := by omega
              clear hxd hxr
              have hset := Lib.hid (hB.out.set v hvN)
              have hcell := hB.out.2.1 v hvN
              have hfroz := hB.out.2.2 v
              have hvz : (v : Int) < (N : Int) := by omega
              go_wp2_with (go_at_call 56; refine (hV _).mono ?_; rintro e w5 ⟨rfl, rfl⟩)
              go_roundg (c.ands.length - (k + 1))
              case measure => exact hmea _ hg
              case rel =>
                refine ⟨k + 1, by omega, by omega, by go_num, hbA.out.setCell (Nat.le_refl _) _, hset.out.congr fun i => ?_⟩
                exact (hst.out i).symm
            · have hltz : ¬ (k : Int) < (c.ands.length : Int) := by omega
              obtain rfl : k = c.ands.length := by omega
              have hB2 := hB.out.congr fun i => PC.dfG_end c i
              go_wp2
              go_ret
              exact ⟨g, rfl, hB2, hbwr⟩

end Go.Proofs.Ytbjioniefalgpaa
