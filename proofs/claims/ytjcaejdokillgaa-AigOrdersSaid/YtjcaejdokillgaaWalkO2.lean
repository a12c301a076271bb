/- Contracts: the variables of a circuit, numbered by their places. -/
import Derived.Test.YtjcaejdokillgaaWalkO1
import Derived.Test.YtjcaejdokillgaaLibQ
import Derived.Deep.OwnRows
namespace Go.Proofs.Ytjcaejdokillgaa
open Go.RowKit Go.Shelf
attribute [local simp] mk_get

/-- the counter, the list's variable, the list -/
structure Num (gn go gt : Nat) (k : Int) (O : List Int) (w : World) : Prop where
  n : RowL 3 w gn [.int .i64 k]
  o : RowL 63 w go [.slice (some ⟨gt, 0, none⟩) O.length O.length]
  t : RowL 3 w gt (O.map (Value.int .i64))
  ne1 : gn ≠ go
  ne2 : gn ≠ gt
  ne3 : go ≠ gt

theorem Num.mono {gn go gt : Nat} {k : Int} {O : List Int} {w w' : World} (h : Num gn go gt k O w) (hb : Below w.heap.size w w') : Num gn go gt k O w' := ⟨h.n.mono hb, h.o.mono hb, h.t.mono hb, h.ne1, h.ne2, h.ne3⟩

theorem RowL.far {T : TypeId} {w : World} {g : Nat} {l : List Value} (h : RowL T w g l) (p : Addr) (v : Value) (hp : g ≠ p.block) : RowL T (w.setCell p v) g l := by
  have := Below.heap_setCell w p v g hp
  exact h.keep this

set_option maxRecDepth 100000 in
set_option maxHeartbeats 2000000 in
theorem put_any (gn go gt B : Nat) (k l : Int) (O : List Int) (w : World) (h : Num gn go gt k O w) (hr : rng l) (hv : PC.varOf l < O.length) (_hO : O.length ≤ 100000) (k0 : 0 ≤ k) (k1 : k ≤ 100000) (hB : B ≤ gn ∧ B ≤ gt) :
    Calls Try.prog 46 #[.int .i64 l, .pointer (some ⟨gn, 0, none⟩), .pointer (some ⟨go, 0, none⟩)] w fun e w' => e = .returned (.tuple #[]) ∧ Num gn go gt (k + 1) (O.set (PC.varOf l) (k + 1)) w' ∧ Below B w w' := by
  have c0 := h.n.cell 0 _ rfl
  have f0 := h.n.frozen 0
  have hk1 : k + 1 ≤ 9223372036854775807 := by omega
  have hk2 : -9223372036854775808 ≤ k + 1 := by omega
  obtain ⟨w1, hw1⟩ : ∃ w1, w1 = w.setCell ⟨gn, 0, none⟩ (.int .i64 (k + 1)) := ⟨_, rfl⟩
  have hN1 : Num gn go gt (k + 1) O w1 := by
    rw [hw1]
    exact ⟨h.n.set 0 _, h.o.far _ _ (Ne.symm h.ne1), h.t.far _ _ (Ne.symm h.ne2), h.ne1, h.ne2, h.ne3⟩
  have hb1 : Below B w w1 := by rw [hw1]; exact (Below.refl _ _).setCell (p := ⟨gn, 0, none⟩) hB.1 _
  have HW1 := Lib.hid hw1
  clear hw1
  have d0 : ∀ x : Later w1, _ := fun x => (hN1.n.mono x.below).cell 0 _ rfl
  have d1 : ∀ x : Later w1, _ := fun x => (hN1.o.mono x.below).cell 0 _ rfl
  have hV : ∀ x : Later w1, _ := fun x => litsVar_any l x.at_ hr
  have HN1 := Lib.hid hN1
  have HB := Lib.hid hB
  have HB1 := Lib.hid hb1
  generalize PC.varOf l = v at *
  have hvz : (v : Int) < (O.length : Int) := by omega
  have Hv := Lib.hid hv
  clear hr hv k0 k1 hB h hN1 hb1
  go_enter Try.func46, Try.ntmps46
  go_wp2_with fail
  rw [← HW1.out]
  clear c0 f0
  refine wp_region_later_tail 5 (by kernel_rfl) (by kernel_rfl) ?_; simp only [List.take_succ_cons, List.take_zero, List.drop_succ_cons, List.drop_zero]; (repeat (go_big_quiet_step ((go_at_call 47; with_reducible exact Calls.later_same (hV _))))); refine wpQuiet_nil ?_; rintro w3 ⟨⟨_, hb3⟩, rfl⟩
  clear d0 d1 hV
  have hN3 := HN1.out.mono hb3
  have e0 := hN3.t.cell v (.int .i64 (O[v]'Hv.out)) (by rw [List.getElem?_map, List.getElem?_eq_getElem Hv.out]; rfl)
  have f0 := hN3.t.frozen v
  go_wp2_with fail
  go_end0
  have hset := hN3.t.set v (.int .i64 (k + 1))
  refine ⟨rfl, ⟨hN3.n.far _ _ hN3.ne2, ?_, ?_, hN3.ne1, hN3.ne2, hN3.ne3⟩, ?_⟩
  · rw [List.length_set]
    exact hN3.o.far _ _ hN3.ne3
  · rw [List.map_set]
    exact hset
  · have hlt := hN3.n.lt
    exact (HB1.out.trans (hb3.mono (Nat.le_trans HB.out.1 (Nat.le_of_lt HN1.out.n.lt)))).setCell (p := ⟨gt, v, none⟩) HB.out.2 _

theorem place_snoc : ∀ (l : List Int) (d : Int) (v : Nat), PA.place (l ++ [d]) v = if PA.place l v ≠ 0 then PA.place l v else if PC.varOf d = v then l.length + 1 else 0 := by
  intro l
  induction l with
  | nil => intro d v; simp [PA.place]
  | cons x r ih =>
    intro d v
    simp only [List.cons_append, PA.place, List.length_cons]
    by_cases e : PC.varOf x = v
    · simp [e]
    · simp only [e, if_false, ih]
      cases hp : PA.place r v with
      | zero =>
        by_cases e2 : PC.varOf d = v <;> simp [e2]
      | succ k => simp

/-- the list behind k of them -/
def numL (c : PC.Circ) (k : Nat) : List Int := (List.range (c.max.toNat + 1)).map fun v => (PA.place (c.defs.take k) v : Int)
theorem numL_len (c : PC.Circ) (k : Nat) : (numL c k).length = c.max.toNat + 1 := by simp [numL]
theorem numL_zero (c : PC.Circ) : numL c 0 = List.replicate (c.max.toNat + 1) 0 := by
  unfold numL
  rw [List.take_zero]
  refine List.ext_getElem (by simp) fun i h1 h2 => ?_
  simp [PA.place]
theorem numL_end (c : PC.Circ) : numL c c.defs.length = tab c := by unfold numL tab; rw [List.take_length]
theorem numL_succ (c : PC.Circ) (h : PC.Right c) (k : Nat) (hk : k < c.defs.length) : (numL c k).set (PC.varOf c.defs[k]) ((k : Int) + 1) = numL c (k + 1) := by
  refine List.ext_getElem (by simp [numL]) fun v h1 h2 => ?_
  rw [List.getElem_set]
  simp only [numL, List.getElem_map, List.getElem_range]
  rw [List.take_succ_eq_append_getElem hk, place_snoc]
  have hlt : (c.defs.take k).length = k := by rw [List.length_take]; omega
  by_cases e : PC.varOf c.defs[k] = v
  · rw [if_pos e, if_pos e, PA.place_none _ v fun d hd e2 => ?_]
    · simp [hlt]
    · obtain ⟨j, hj, rfl⟩ := List.getElem_of_mem hd
      rw [List.getElem_take] at e2
      have hp := List.pairwise_iff_getElem.1 (PA.defs_vars c h) j k (by simp; omega) (by simpa using hk) (by omega)
      simp only [List.getElem_map] at hp
      exact hp (e2.trans e.symm)
  · rw [if_neg e, if_neg e]
    by_cases h0 : PA.place (c.defs.take k) v = 0 <;> simp [h0]

theorem in_index (c : PC.Circ) (k : Nat) (hk : k < c.inputs.length) : ∃ hj : k < c.defs.length, c.defs[k] = c.inputs[k] := by
  have hlen : c.defs.length = c.inputs.length + c.latches.length + c.ands.length := by unfold PC.Circ.defs; simp only [List.length_append, List.length_map]
  refine ⟨by omega, ?_⟩
  simp only [PC.Circ.defs]
  rw [List.getElem_append_left (by simp only [List.length_append, List.length_map]; omega), List.getElem_append_left hk]
theorem lat_index (c : PC.Circ) (k : Nat) (hk : k < c.latches.length) : ∃ hj : c.inputs.length + k < c.defs.length, c.defs[c.inputs.length + k] = c.latches[k].lit := by
  have hlen : c.defs.length = c.inputs.length + c.latches.length + c.ands.length := by unfold PC.Circ.defs; simp only [List.length_append, List.length_map]
  refine ⟨by omega, ?_⟩
  simp only [PC.Circ.defs]
  rw [List.getElem_append_left (by simp only [List.length_append, List.length_map]; omega), List.getElem_append_right (by omega)]
  simp

set_option maxRecDepth 100000 in
set_option maxHeartbeats 8000000 in
theorem aNumbered_any (c : PC.Circ) (vc : Value) (w : World) (h : IsCirc w vc c) (hR : PC.Right c) :
    Calls Try.prog 24 #[vc] w fun e w' => ∃ u, e = .returned (.tuple #[u, .int .i64 (c.defs.length : Int)]) ∧ Ints w' u (tab c) ∧ Below w.heap.size w w' := by
  have hmf : ∀ (fn : Fn) (first cap : Array Value) (w : World), (Instr.makeFunc fn first cap).run Try.prog w = .ok (.func fn first cap) w := fun _ _ _ _ => rfl
  obtain ⟨vi, vl, vo, vb, vv, va, vn, rfl, hp, hm⟩ := h
  obtain ⟨ai, capi, rfl, hi1, hi2, hi3⟩ := hp.inputs.open_
  obtain ⟨al, capl, rfl, hl1, hl2, hl3⟩ := hp.latches.open_
  obtain ⟨aa, capa, rfl, ha1, ha2, ha3⟩ := hp.ands.open_
  have HI := Lib.hid hi3
  have HL := Lib.hid hl3
  have HN := Lib.hid ha3
  clear hp hi3 hl3 ha3 hm
  have hm0 := hR.max0
  have hm1 := hR.max1
  obtain ⟨N, hNe⟩ : ∃ N, N = c.max.toNat + 1 := ⟨_, rfl⟩
  have hNz : c.max + 1 = (N : Int) := by omega
  have hNb : N ≤ 2049 := by omega
  have e1 : IntKind.i64.wrap (c.max + 1) = (N : Int) := by rw [hNz]; exact IntWalk.i64_in _ (by omega)
  have e2 : wrap64 (c.max + 1) = (N : Int) := by rw [hNz]; unfold wrap64; omega
  have hmk : ∀ w1 : World, (Instr.makeSlice 63 (.int .i64 (N : Int)) (.int .i64 (N : Int))).run Try.prog w1 = .ok (.slice (some ⟨w1.heap.size, 0, none⟩) N N) (w1.alloc (.cells (madeCells #[.int .i64 0] N) 3)) :=
    fun w1 => run_make_row' 63 3 (.int .i64 0) 8 Try.underlying63 infoI' rfl .i64 .i64 N (by omega) (by omega) w1
  have HNE := Lib.hid hNe
  clear hNe hNz hm0 hm1
  have hbx := Box8.new w (.int .i64 c.max) (.slice ai c.inputs.length capi) (.slice al c.latches.length capl) vo vb vv (.slice aa c.ands.length capa) vn 27
  have hb0 : Below w.heap.size w (w.alloc (.cells #[.int .i64 c.max, .slice ai c.inputs.length capi, .slice al c.latches.length capl, vo, vb, vv, .slice aa c.ands.length capa, vn] 27)) := (Below.refl _ _).alloc (Nat.le_refl _) _
  go_enter Try.func24, Try.ntmps24
  go_wp2_with fail
  have hlen : c.defs.length = c.inputs.length + c.latches.length + c.ands.length := by unfold PC.Circ.defs; simp only [List.length_append, List.length_map]
  have hdf := defs_few c hR
  obtain ⟨W, hW⟩ : ∃ W, W = (((w.alloc (.cells #[.int .i64 c.max, .slice ai c.inputs.length capi, .slice al c.latches.length capl, vo, vb, vv, .slice aa c.ands.length capa, vn] 27)).alloc (.cells (madeCells #[.int .i64 0] N) 3)).alloc (.cells #[.slice (some ⟨w.heap.size + 1, 0, none⟩) N N] 63)).alloc (.cells #[.int .i64 0] 3) := ⟨_, rfl⟩
  have hNum0 : Num (w.heap.size + 1 + 1 + 1) (w.heap.size + 1 + 1) (w.heap.size + 1) 0 (numL c 0) W := by
    have hL0 : (numL c 0).length = N := by rw [numL_len, HNE.out]
    have b1 := (Below.refl (w.heap.size + 1 + 1 + 1) (((w.alloc (.cells #[.int .i64 c.max, .slice ai c.inputs.length capi, .slice al c.latches.length capl, vo, vb, vv, .slice aa c.ands.length capa, vn] 27)).alloc (.cells (madeCells #[.int .i64 0] N) 3)).alloc (.cells #[.slice (some ⟨w.heap.size + 1, 0, none⟩) N N] 63))).alloc (by simp) (.cells #[.int .i64 0] 3)
    have b2 := (Below.refl (w.heap.size + 1 + 1) ((w.alloc (.cells #[.int .i64 c.max, .slice ai c.inputs.length capi, .slice al c.latches.length capl, vo, vb, vv, .slice aa c.ands.length capa, vn] 27)).alloc (.cells (madeCells #[.int .i64 0] N) 3))).alloc (by simp) (.cells #[.slice (some ⟨w.heap.size + 1, 0, none⟩) N N] 63)
    rw [hW]
    refine ⟨?_, ?_, ?_, by omega, by omega, by omega⟩
    · have := RowL.new (T := 3) (((w.alloc (.cells #[.int .i64 c.max, .slice ai c.inputs.length capi, .slice al c.latches.length capl, vo, vb, vv, .slice aa c.ands.length capa, vn] 27)).alloc (.cells (madeCells #[.int .i64 0] N) 3)).alloc (.cells #[.slice (some ⟨w.heap.size + 1, 0, none⟩) N N] 63)) [.int .i64 0]
      simp only [World.size_alloc] at this
      exact this
    · have := RowL.new (T := 63) ((w.alloc (.cells #[.int .i64 c.max, .slice ai c.inputs.length capi, .slice al c.latches.length capl, vo, vb, vv, .slice aa c.ands.length capa, vn] 27)).alloc (.cells (madeCells #[.int .i64 0] N) 3)) [.slice (some ⟨w.heap.size + 1, 0, none⟩) N N]
      simp only [World.size_alloc] at this
      rw [hL0]
      exact this.keep (b1.block _ (by omega))
    · have := RowL.new (T := 3) (w.alloc (.cells #[.int .i64 c.max, .slice ai c.inputs.length capi, .slice al c.latches.length capl, vo, vb, vv, .slice aa c.ands.length capa, vn] 27)) ((numL c 0).map (Value.int .i64))
      simp only [World.size_alloc] at this
      have e : ((numL c 0).map (Value.int .i64)).toArray = madeCells #[.int .i64 0] N := by
        rw [numL_zero, List.map_replicate, ← HNE.out]
        apply Array.ext
        · simp [size_madeCells]
        · intro j h1 h2
          simp [madeCells, Nat.mod_one]
      rw [e] at this
      exact (this.keep (b2.block _ (by omega))).keep (b1.block _ (by omega))
  have hbW : Below (w.heap.size + 1) (w.alloc (.cells #[.int .i64 c.max, .slice ai c.inputs.length capi, .slice al c.latches.length capl, vo, vb, vv, .slice aa c.ands.length capa, vn] 27)) W := by
    rw [hW]
    exact (((Below.refl _ _).alloc (by simp) _).alloc (by simp) _).alloc (by simp) _
  rw [← hW]
  have hbW2 : Hid (Below (w.heap.size + 1) W W) := Below.refl _ _
  have HBX : Hid (∀ y, Below (w.heap.size + 1) W y → Box8 y w.heap.size (.int .i64 c.max) (.slice ai c.inputs.length capi) (.slice al c.latches.length capl) vo vb vv (.slice aa c.ands.length capa) vn) := fun y hy => hbx.mono (by simp only [World.size_alloc]; exact hbW.trans hy)
  have HB0 : Hid (Below w.heap.size w W) := hb0.trans (hbW.mono (Nat.le_succ _))
  have HNum0 := Lib.hid hNum0
  have hdv := Lib.hid fun k hk => PC.def_lt c hR c.defs[k] (List.getElem_mem hk)
  have hdr := Lib.hid fun k hk => hR.defs c.defs[k] (List.getElem_mem hk)
  have hnsu := Lib.hid fun k hk => numL_succ c hR k hk
  have hm1 := hR.max1
  have hil := hR.ins
  have hll := hR.lats
  have hal := PC.ands_len c hR
  clear hW hmk hb0 hbx hbW hNum0 e1 e2
  go_loopg [21] c.inputs.length (fun gg s21 wr => ∃ k : Nat, k ≤ c.inputs.length ∧ c.inputs.length - k ≤ gg ∧ s21 = .int .i64 k ∧ Hid (Below (w.heap.size + 1) W wr) ∧ Hid (Num (w.heap.size + 1 + 1 + 1) (w.heap.size + 1 + 1) (w.heap.size + 1) (k : Int) (numL c k) wr))
  case atStart => exact ⟨0, Nat.zero_le _, by omega, rfl, hbW2, HNum0⟩
  case round =>
    obtain ⟨k, hk, hg, rfl, hbr, hnm⟩ := hrel
    have hBw := Lib.hid (HB0.out.trans (hbr.out.mono (Nat.le_succ _)))
    obtain ⟨q0, q1, q2, q3, q4, q5, q6, q7⟩ := HBX.out wr hbr.out
    by_cases hlt : k < c.inputs.length
    · obtain ⟨b', off, rfl, hbs, hxr, hc⟩ := HI.out k hlt
      have hmea : ∀ g : Nat, c.inputs.length - k ≤ g → c.inputs.length - (k + 1) < g := fun g h => by omega
      have hc := (hBw.out.cell hbs).trans hc
      have hltz : (k : Int) < (c.inputs.length : Int) := by omega
      obtain ⟨hj, ej⟩ := in_index c k hlt
      have hxv := hdv.out k hj
      have hns := hnsu.out k hj
      rw [ej] at hxv hns
      clear ej
      generalize c.inputs[k] = x at *
      have hNV := hnm.out
      have hp5 := put_any (w.heap.size + 1 + 1 + 1) (w.heap.size + 1 + 1) (w.heap.size + 1) (w.heap.size + 1) ((k : Nat) : Int) x (numL c (k)) wr hNV hxr (by rw [numL_len]; exact hxv) (by rw [numL_len]; omega) (by omega) (by omega) ⟨by omega, Nat.le_refl _⟩
      rw [hns] at hp5
      have hp5 := Lib.hid hp5
      clear hxr hxv hns hNV
      go_wp2_with (go_at_call 46; refine hp5.out.mono ?_; rintro e w5 ⟨rfl, hn5, hb5⟩)
      have hb6 : Hid (Below (w.heap.size + 1) W w5) := hbr.out.trans hb5
      have hn6 : Hid (Num (w.heap.size + 1 + 1 + 1) (w.heap.size + 1 + 1) (w.heap.size + 1) ((k + 1 : Nat) : Int) (numL c (k + 1)) w5) := hn5
      go_roundg (c.inputs.length - (k + 1))
      case measure => exact hmea _ hg
      case rel => exact ⟨k + 1, by omega, by omega, by go_num, hb6, hn6⟩
    · have hltz : ¬ (k : Int) < (c.inputs.length : Int) := by omega
      obtain rfl : k = c.inputs.length := by omega
      have hnm2 : Hid (Num (w.heap.size + 1 + 1 + 1) (w.heap.size + 1 + 1) (w.heap.size + 1) ((c.inputs.length + 0 : Nat) : Int) (numL c (c.inputs.length + 0)) wr) := hnm
      clear hg hk hlt
      go_wp2_with fail
      clear q0 q1 q2 q3 q4 q5 q6 q7 hltz
      obtain ⟨W2, hW2⟩ : ∃ Y, Y = wr := ⟨_, rfl⟩
      subst hW2
      go_loopg [32] c.latches.length (fun gg s32 wr => ∃ k : Nat, k ≤ c.latches.length ∧ c.latches.length - k ≤ gg ∧ s32 = .int .i64 k ∧ Hid (Below (w.heap.size + 1) W wr) ∧ Hid (Num (w.heap.size + 1 + 1 + 1) (w.heap.size + 1 + 1) (w.heap.size + 1) ((c.inputs.length + k : Nat) : Int) (numL c (c.inputs.length + k)) wr))
      case atStart => exact ⟨0, Nat.zero_le _, by omega, rfl, hbr.out, hnm2⟩
      case round =>
        clear hbr hnm hnm2 hBw
        obtain ⟨k, hk, hg, rfl, hbr, hnm⟩ := hrel
        have hBw := Lib.hid (HB0.out.trans (hbr.out.mono (Nat.le_succ _)))
        obtain ⟨q0, q1, q2, q3, q4, q5, q6, q7⟩ := HBX.out wr hbr.out
        by_cases hlt : k < c.latches.length
        · obtain ⟨b', off, rfl, hbs, ⟨hxr, _, _⟩, c0, c1, c2⟩ := HL.out k hlt
          have hmea : ∀ g : Nat, c.latches.length - k ≤ g → c.latches.length - (k + 1) < g := fun g h => by omega
          have c0 := (hBw.out.cell hbs).trans c0
          have c1 := (hBw.out.cell hbs).trans c1
          have c2 := (hBw.out.cell hbs).trans c2
          have hltz : (k : Int) < (c.latches.length : Int) := by omega
          obtain ⟨hj, ej⟩ := lat_index c k hlt
          have hxv := hdv.out _ hj
          have hns := hnsu.out _ hj
          rw [ej] at hxv hns
          clear ej
          generalize c.latches[k].lit = x at *
          generalize c.latches[k].next = xn at *
          generalize c.latches[k].reset = xr' at *
          have hba : Below wr.heap.size wr (wr.alloc (.cells #[.int .i64 x, .int .i64 xn, .int .i64 xr'] 36)) := (Below.refl _ _).alloc (Nat.le_refl _) _
          have hNV := hnm.out.mono hba
          have hgs : w.heap.size + 1 ≤ wr.heap.size := Nat.le_of_lt hnm.out.t.lt
          have hbV := Lib.hid (hbr.out.alloc hgs (.cells #[.int .i64 x, .int .i64 xn, .int .i64 xr'] 36))
          have hp5 := put_any (w.heap.size + 1 + 1 + 1) (w.heap.size + 1 + 1) (w.heap.size + 1) (w.heap.size + 1) ((c.inputs.length + k : Nat) : Int) x (numL c (c.inputs.length + k)) (wr.alloc (.cells #[.int .i64 x, .int .i64 xn, .int .i64 xr'] 36)) hNV hxr (by rw [numL_len]; exact hxv) (by rw [numL_len]; omega) (by omega) (by omega) ⟨by omega, Nat.le_refl _⟩
          rw [hns] at hp5
          have hp5 := Lib.hid hp5
          clear hxr hxv hns hNV hba hgs
          go_wp2_with (go_at_call 46; refine hp5.out.mono ?_; rintro e w5 ⟨rfl, hn5, hb5⟩)
          have hb6 : Hid (Below (w.heap.size + 1) W w5) := hbV.out.trans hb5
          have hn6 : Hid (Num (w.heap.size + 1 + 1 + 1) (w.heap.size + 1 + 1) (w.heap.size + 1) ((c.inputs.length + (k + 1) : Nat) : Int) (numL c (c.inputs.length + (k + 1))) w5) := hn5
          go_roundg (c.latches.length - (k + 1))
          case measure => exact hmea _ hg
          case rel => exact ⟨k + 1, by omega, by omega, by go_num, hb6, hn6⟩
        · have hltz : ¬ (k : Int) < (c.latches.length : Int) := by omega
          obtain rfl : k = c.latches.length := by omega
          have hnm2 : Hid (Num (w.heap.size + 1 + 1 + 1) (w.heap.size + 1 + 1) (w.heap.size + 1) ((c.inputs.length + c.latches.length + 0 : Nat) : Int) (numL c (c.inputs.length + c.latches.length + 0)) wr) := hnm
          clear hg hk hlt
          go_wp2_with fail
          clear q0 q1 q2 q3 q4 q5 q6 q7 hltz
          obtain ⟨W3, hW3⟩ : ∃ Y, Y = wr := ⟨_, rfl⟩
          subst hW3
          go_loopg [44] c.ands.length (fun gg s44 wr => ∃ k : Nat, k ≤ c.ands.length ∧ c.ands.length - k ≤ gg ∧ s44 = .int .i64 k ∧ Hid (Below (w.heap.size + 1) W wr) ∧ Hid (Num (w.heap.size + 1 + 1 + 1) (w.heap.size + 1 + 1) (w.heap.size + 1) ((c.inputs.length + c.latches.length + k : Nat) : Int) (numL c (c.inputs.length + c.latches.length + k)) wr))
          case atStart => exact ⟨0, Nat.zero_le _, by omega, rfl, hbr.out, hnm2⟩
          case round =>
            clear hbr hnm hnm2 hBw
            obtain ⟨k, hk, hg, rfl, hbr, hnm⟩ := hrel
            have hBw := Lib.hid (HB0.out.trans (hbr.out.mono (Nat.le_succ _)))
            obtain ⟨q0, q1, q2, q3, q4, q5, q6, q7⟩ := HBX.out wr hbr.out
            by_cases hlt : k < c.ands.length
            · obtain ⟨b', off, rfl, hbs, ⟨hxr, _, _⟩, c0, c1, c2⟩ := HN.out k hlt
              have hmea : ∀ g : Nat, c.ands.length - k ≤ g → c.ands.length - (k + 1) < g := fun g h => by omega
              have c0 := (hBw.out.cell hbs).trans c0
              have c1 := (hBw.out.cell hbs).trans c1
              have c2 := (hBw.out.cell hbs).trans c2
              have hltz : (k : Int) < (c.ands.length : Int) := by omega
              obtain ⟨hj, ej⟩ := PA.gat_index c k hlt
              have hxv := hdv.out _ hj
              have hns := hnsu.out _ hj
              rw [ej] at hxv hns
              clear ej
              generalize c.ands[k].lit = x at *
              generalize c.ands[k].left = xn at *
              generalize c.ands[k].right = xr' at *
              have hba : Below wr.heap.size wr (wr.alloc (.cells #[.int .i64 x, .int .i64 xn, .int .i64 xr'] 38)) := (Below.refl _ _).alloc (Nat.le_refl _) _
              have hNV := hnm.out.mono hba
              have hgs : w.heap.size + 1 ≤ wr.heap.size := Nat.le_of_lt hnm.out.t.lt
              have hbV := Lib.hid (hbr.out.alloc hgs (.cells #[.int .i64 x, .int .i64 xn, .int .i64 xr'] 38))
              have hp5 := put_any (w.heap.size + 1 + 1 + 1) (w.heap.size + 1 + 1) (w.heap.size + 1) (w.heap.size + 1) ((c.inputs.length + c.latches.length + k : Nat) : Int) x (numL c (c.inputs.length + c.latches.length + k)) (wr.alloc (.cells #[.int .i64 x, .int .i64 xn, .int .i64 xr'] 38)) hNV hxr (by rw [numL_len]; exact hxv) (by rw [numL_len]; omega) (by omega) (by omega) ⟨by omega, Nat.le_refl _⟩
              rw [hns] at hp5
              have hp5 := Lib.hid hp5
              clear hxr hxv hns hNV hba hgs
              go_wp2_with (go_at_call 46; refine hp5.out.mono ?_; rintro e w5 ⟨rfl, hn5, hb5⟩)
              have hb6 : Hid (Below (w.heap.size + 1) W w5) := hbV.out.trans hb5
              have hn6 : Hid (Num (w.heap.size + 1 + 1 + 1) (w.heap.size + 1 + 1) (w.heap.size + 1) ((c.inputs.length + c.latches.length + (k + 1) : Nat) : Int) (numL c (c.inputs.length + c.latches.length + (k + 1))) w5) := hn5
              go_roundg (c.ands.length - (k + 1))
              case measure => exact hmea _ hg
              case rel => exact ⟨k + 1, by omega, by omega, by go_num, hb6, hn6⟩
            · have hltz : ¬ (k : Int) < (c.ands.length : Int) := by omega
              obtain rfl : k = c.ands.length := by omega
              have hnE : Num (w.heap.size + 1 + 1 + 1) (w.heap.size + 1 + 1) (w.heap.size + 1) (c.defs.length : Int) (tab c) wr := by
                rw [← numL_end, hlen]; exact hnm.out
              have HnE := Lib.hid hnE
              have r0 : ∀ x : Later wr, _ := fun x => (hnE.n.mono x.below).cell 0 _ rfl
              have r1 : ∀ x : Later wr, _ := fun x => (hnE.o.mono x.below).cell 0 _ rfl
              clear hg hk hlt hnm hbr hnE
              go_wp2_with fail
              refine wp_region_later (by kernel_rfl) (by kernel_rfl) ?_; (repeat (go_big_quiet_step ((fail)))); refine wpQuiet_nil ?_; rintro w3 ⟨⟨_, hb3⟩, rfl⟩
              clear q0 q1 q2 q3 q4 q5 q6 q7 hltz r0 r1
              go_wp2_with fail
              go_ret2
              have hn3 := HnE.out.mono hb3
              refine ⟨_, (by rw [show (c.defs.length : Int) = (c.inputs.length : Int) + c.latches.length + c.ands.length by omega]; rfl), ⟨⟨_, _, rfl, Nat.le_refl _, by rw [tab_len]; omega, (fun h => by cases h), by simp, fun j hj => ⟨w.heap.size + 1, 0, rfl, hn3.t.lt, ?_⟩⟩, fun x hx => ?_⟩, hBw.out.trans (hb3.mono hBw.out.size)⟩
              · rw [Nat.zero_add]
                exact hn3.t.cell j _ (List.getElem?_eq_getElem hj)
              · obtain ⟨v, hv, rfl⟩ := List.mem_map.1 hx
                have := place_le c.defs v
                unfold rng; omega

end Go.Proofs.Ytjcaejdokillgaa
