/- Contract: a circuit's clauses. -/
import Derived.Test.YtbjioniefalgpaaWalkG1
namespace Go.Proofs.Ytbjioniefalgpaa
open Go.RowKit Go.Shelf

namespace PC
def undefs (c : Circ) (b : Int) (k : Nat) : List (List Int) := ((List.range k).filter fun v => !isDef c v).map fun (v : Nat) => [-(b + (v : Int) + 1)]
theorem undefs_succ (c : Circ) (b : Int) (k : Nat) : undefs c b (k + 1) = undefs c b k ++ (if isDef c k then [] else [[-(b + (k : Int) + 1)]]) := by
  unfold undefs
  rw [List.range_succ, List.filter_append, List.map_append]
  cases h : isDef c k <;> simp [h]
theorem undefs_len (c : Circ) (b : Int) (k : Nat) : (undefs c b k).length ≤ k := by
  unfold undefs
  rw [List.length_map]
  have := List.length_filter_le (fun v => !isDef c v) (List.range k)
  rw [List.length_range] at this
  exact this
theorem gates_succ (c : Circ) (b : Int) (k : Nat) (h : k < c.ands.length) : (c.ands.take (k + 1)).flatMap (gateClauses b) = (c.ands.take k).flatMap (gateClauses b) ++ gateClauses b c.ands[k] := by
  rw [List.take_succ_eq_append_getElem h, List.flatMap_append]; simp
theorem gates_len (c : Circ) (b : Int) (k : Nat) : ((c.ands.take k).flatMap (gateClauses b)).length ≤ 3 * k := by
  induction k with
  | zero => simp
  | succ k ih =>
    by_cases h : k < c.ands.length
    · rw [gates_succ c b k h, List.length_append]
      have e : (gateClauses b c.ands[k]).length = 3 := rfl
      rw [e]; omega
    · rw [List.take_of_length_le (by omega)]
      rw [List.take_of_length_le (by omega)] at ih
      omega
theorem gatesT_eq (c : Circ) (b : Int) : gatesT c b = undefs c b (c.max.toNat + 1) ++ c.ands.flatMap (gateClauses b) := rfl
end PC

set_option maxRecDepth 100000 in
set_option maxHeartbeats 4000000 in
theorem tGates_bad (c : PC.Circ) (vc : Value) (b : Int) (w : World) (h : IsCirc w vc c) (hE : rightE c b ≠ 0) :
    Calls Try.prog 20 #[vc, .int .i64 b] w fun e w' => e = .returned (.tuple #[.slice none 0 0, .int .i64 (rightE c b)]) ∧ Below w.heap.size w w' := by
  have hC := fun w1 (hb : Below w.heap.size w w1) => tright_any c vc b w1 (h.mono hb)
  obtain ⟨vi, vl, vo, vb, vv, va', vn, rfl, hp, hm⟩ := h
  clear hp
  have hb0 : Below w.heap.size w (w.alloc (.cells #[.int .i64 c.max, vi, vl, vo, vb, vv, va', vn] 27)) := (Below.refl _ _).alloc (Nat.le_refl _) _
  generalize rightE c b = E at *
  go_enter Try.func20, Try.ntmps20
  go_wp2_with (go_at_call 33; refine (hC _ (by exact hb0)).mono ?_; rintro e w1 ⟨rfl, hb1⟩)
  go_ret2
  exact ⟨rfl, Below.of hb0 hb1⟩

set_option maxRecDepth 100000 in
set_option maxHeartbeats 8000000 in
theorem tGates_good (c : PC.Circ) (vc : Value) (b : Int) (w : World) (h : IsCirc w vc c) (hE : rightE c b = 0) :
    Calls Try.prog 20 #[vc, .int .i64 b] w fun e w' => ∃ u, e = .returned (.tuple #[u, .int .i64 0]) ∧ OutI w' w.heap.size u (PC.gatesT c b) ∧ Below w.heap.size w w' := by
  have hC := fun w1 (hb : Below w.heap.size w w1) => tright_any c vc b w1 (h.mono hb)
  rw [hE] at hC
  have hck : PC.chk c = true := by
    cases hck : PC.chk c with
    | true => rfl
    | false => unfold rightE at hE; rw [if_pos hck] at hE; cases hE
  have hRt := Lib.hid (PC.right_of c hck)
  have hb0 : 0 ≤ b ∧ b ≤ 262144 := by
    unfold rightE at hE
    rw [if_neg (by rw [hck]; decide)] at hE
    by_cases hb : b < 0 ∨ 262144 < b
    · rw [if_pos hb] at hE; cases hE
    · omega
  obtain ⟨hb0, hb1⟩ := hb0
  have hD := Lib.hid fun w1 (hb : Below w.heap.size w w1) => tdefined_any c vc w1 (h.mono hb) hRt.out
  clear hE hck
  obtain ⟨vi, vl, vo, vb, vv, va', vn, rfl, hp, hm⟩ := h
  obtain ⟨aa, capa, rfl, ha1, ha2, ha3⟩ := hp.ands.open_
  clear hp
  have HG := Lib.hid ha3
  clear ha3
  have hal := PC.ands_len c hRt.out
  have hbw : Below w.heap.size w (w.alloc (.cells #[.int .i64 c.max, vi, vl, vo, vb, vv, .slice aa c.ands.length capa, vn] 27)) := (Below.refl _ _).alloc (Nat.le_refl _) _
  have hbx := Lib.hid (Box8.new w (.int .i64 c.max) vi vl vo vb vv (.slice aa c.ands.length capa) vn 27)
  obtain ⟨N, hNe⟩ : ∃ N, N = c.max.toNat + 1 := ⟨_, rfl⟩
  rw [← hNe] at hD
  have HNE := Lib.hid hNe
  have hNb : N ≤ 2049 := by have := hRt.out.max1; omega
  clear hNe
  go_enter Try.func20, Try.ntmps20
  go_wp2_with (first | (go_at_call 33; refine (hC _ (by exact hbw)).mono ?_; rintro e w1 ⟨rfl, hb1'⟩; have hbw1 := Below.of hbw hb1'; obtain ⟨q0, q1, q2, q3, q4, q5, q6, q7⟩ := hbx.out.mono hb1') | (go_at_call 44; refine (hD.out _ (by exact hbw1)).mono ?_; rintro e w2 ⟨g, rfl, hBo, hb2⟩))
  have hbw2 := Below.of hbw1 hb2
  have hbx2 := Lib.hid ((hbx.out.mono hb1').mono hb2)
  have hBoH := Lib.hid hBo
  clear hC hD hbw hbx hb1' hbw1 hb2 hBo q0 q1 q2 q3 q4 q5 q6 q7
  go_loopg [8, 26] N (fun gg s8 s26 wr => ∃ k : Nat, k ≤ N ∧ N - k ≤ gg ∧ s26 = .int .i64 k ∧ Below w2.heap.size w2 wr ∧ Aside (OutI wr w2.heap.size s8 (PC.undefs c b k)))
  case atStart => exact ⟨0, Nat.zero_le _, by omega, rfl, Below.refl _ _, OutI.nil _ _⟩
  case round =>
    obtain ⟨k, hk, hg, rfl, hbr, hout⟩ := hrel
    by_cases hlt : k < N
    · have hmea : ∀ g : Nat, N - k ≤ g → N - (k + 1) < g := fun g h => by omega
      have hstep := Lib.hid (PC.undefs_succ c b k)
      have hlen := PC.undefs_len c b k
      have hcell := (hBoH.out.mono hbr).2.1 k hlt
      have hltz : (k : Int) < (N : Int) := by omega
      cases hd : PC.isDef c k with
      | true =>
        rw [hd] at hcell
        have hst : Hid (PC.undefs c b (k + 1) = PC.undefs c b k) := by show _ = _; rw [hstep.out, hd, if_pos rfl, List.append_nil]
        clear hd hstep
        go_wp2_with fail
        go_roundg (N - (k + 1))
        case measure => exact hmea _ hg
        case rel => exact ⟨k + 1, by omega, by omega, by go_num, hbr, (show Aside _ from by rw [hst.out]; exact hout)⟩
      | false =>
        rw [hd] at hcell
        obtain ⟨r, hr⟩ : ∃ r, r = b + (k : Int) + 1 := ⟨_, rfl⟩
        have hst : Hid (PC.undefs c b (k + 1) = PC.undefs c b k ++ [[-r]]) := by show _ = _; rw [hstep.out, hd, hr]; rfl
        have hO := fun w => tof_any b (k : Int) w hb0 hb1 (by omega) (by omega)
        rw [← hr] at hO
        have hwr : IntKind.i64.wrap (-r) = -r := IntWalk.i64_in _ (by omega)
        have hrr : -300000 ≤ -r ∧ -r ≤ 300000 := by omega
        clear hd hstep hr
        have hr1 := RowI.new wr [-r] (by intro x hx; simp at hx; subst hx; unfold rng; omega) (by simp)
        have hba : Below wr.heap.size wr (wr.alloc (.cells #[.int .i64 (-r)] 3)) := (Below.refl _ _).alloc (Nat.le_refl _) _
        have hrows := Lib.hid ((RowsI.nil _).push hr1)
        have hout1 := Lib.hid (hout.out.mono hba)
        clear hr1 hba
        go_wp2_with (first | (go_at_call 45; refine (hO _).mono ?_; rintro e w3 ⟨rfl, rfl⟩) | (at_builtin; refine app_rows rfl _ _ rfl (w0 := w2) (B0 := w2.heap.size) rfl hout1.out (us := #[.slice (some ⟨wr.heap.size, 0, none⟩) 1 1]) (ms := [[-r]]) (by exact hrows.out) (hbr.alloc hbr.size _) (Nat.le_refl _) (by simp; have := hbr.size; omega) 1 1 rfl (by first | rfl | (simp only [World.size_alloc]; rfl)) (by omega) ?_; intro v3 w3 hout3 hb3 hbs3))
        go_roundg (N - (k + 1))
        case measure => exact hmea _ hg
        case rel =>
          refine ⟨k + 1, by omega, by omega, by go_num, hb3, ?_⟩
          rw [hst.out]
          exact hout3
    · have hltz : ¬ (k : Int) < (N : Int) := by omega
      obtain rfl : k = N := by omega
      have hulen := PC.undefs_len c b k
      obtain ⟨U, hU⟩ : ∃ U, U = PC.undefs c b k := ⟨_, rfl⟩
      rw [← hU] at hulen hout
      have HU := Lib.hid hU
      clear hU hBoH
      obtain ⟨q0, q1, q2, q3, q4, q5, q6, q7⟩ := hbx2.out.mono hbr
      go_wp2_with fail
      clear q0 q1 q2 q3 q4 q5 q6 q7
      go_loopg [8, 45] c.ands.length (fun gg s8 s45 wr => ∃ j : Nat, j ≤ c.ands.length ∧ c.ands.length - j ≤ gg ∧ s45 = .int .i64 j ∧ Below w2.heap.size w2 wr ∧ Aside (OutI wr w2.heap.size s8 (U ++ (c.ands.take j).flatMap (PC.gateClauses b))))
      case atStart => exact ⟨0, Nat.zero_le _, by omega, rfl, hbr, by simpa [Aside] using hout.out⟩
      case round =>
        clear hbr hout hg hlt hltz
        obtain ⟨j, hj, hg, rfl, hbr, hout⟩ := hrel
        by_cases hlt : j < c.ands.length
        · obtain ⟨b', off, rfl, hbs, ⟨hx0, hx1, hx2⟩, c0, c1, c2⟩ := HG.out j hlt
          have hmea : ∀ g : Nat, c.ands.length - j ≤ g → c.ands.length - (j + 1) < g := fun g h => by omega
          have hbwr := Below.of hbw2 hbr
          have c0 := (hbwr.cell hbs).trans c0
          have c1 := (hbwr.cell hbs).trans c1
          have c2 := (hbwr.cell hbs).trans c2
          have hstep := Lib.hid (PC.gates_succ c b j hlt)
          have hglen := PC.gates_len c b j
          obtain ⟨g1, g2, g3, g4⟩ := hRt.out.gats _ (List.getElem_mem hlt)
          have hdf := hRt.out.defs _ (PC.mem_defs_gat c _ (List.getElem_mem hlt))
          have hmx1 := hRt.out.max1
          have hGC : Hid (PC.gateClauses b c.ands[j] = [[-PC.litT b c.ands[j].lit, PC.litT b c.ands[j].left], [-PC.litT b c.ands[j].lit, PC.litT b c.ands[j].right], [PC.litT b c.ands[j].lit, -PC.litT b c.ands[j].left, -PC.litT b c.ands[j].right]]) := rfl
          have hLx := fun w => tlit_any b c.ands[j].lit w hb0 hb1 hx0 (by omega)
          have hLy := fun w => tlit_any b c.ands[j].left w hb0 hb1 hx1 (by omega)
          have hLz := fun w => tlit_any b c.ands[j].right w hb0 hb1 hx2 (by omega)
          have sx := PC.litT_small b c.ands[j].lit hb0 hb1
          have sy := PC.litT_small b c.ands[j].left hb0 hb1
          have sz := PC.litT_small b c.ands[j].right hb0 hb1
          clear g1 g2 g3 g4 hdf hmx1 hx0 hx1 hx2
          generalize PC.litT b c.ands[j].lit = X at *
          generalize PC.litT b c.ands[j].left = Y at *
          generalize PC.litT b c.ands[j].right = Z at *
          generalize c.ands[j] = a at *
          obtain ⟨x, y, z⟩ := a
          simp only at hLx hLy hLz c0 c1 c2
          have hltz : (j : Int) < (c.ands.length : Int) := by omega
          go_wp2_with fail
          obtain ⟨wA, hwA⟩ : ∃ wA, wA = wr.alloc (.cells #[.int .i64 x, .int .i64 y, .int .i64 z] 65) := ⟨_, rfl⟩
          have hbA : Below w2.heap.size w2 wA := by rw [hwA]; exact hbr.alloc hbr.size _
          have houtA : Hid (OutI wA w2.heap.size u8 (U ++ (c.ands.take j).flatMap (PC.gateClauses b))) := by rw [hwA]; exact hout.out.mono ((Below.refl _ _).alloc (Nat.le_refl _) _)
          have hY : Box3 wA wr.heap.size (.int .i64 x) (.int .i64 y) (.int .i64 z) := by rw [hwA]; exact Box3.new _ _ _ _ _
          rw [← hwA]
          clear hwA c0 c1 c2
          obtain ⟨m0, m1, m2⟩ := hY.later
          have kX : ∀ x1 : Later wA, _ := fun x1 => hLx x1.at_
          have kY : ∀ x1 : Later wA, _ := fun x1 => hLy x1.at_
          have kZ : ∀ x1 : Later wA, _ := fun x1 => hLz x1.at_
          clear hLx hLy hLz hY
          refine wp_region_later (by kernel_rfl) (by kernel_rfl) ?_; (repeat (go_big_quiet_step (first | (go_at_call 34; with_reducible exact Calls.later_same (kX _)) | (go_at_call 34; with_reducible exact Calls.later_same (kY _)) | (go_at_call 34; with_reducible exact Calls.later_same (kZ _))))); refine wpQuiet_nil ?_; rintro w3 ⟨⟨_, hb3⟩, rfl⟩
          obtain ⟨V, hV⟩ : ∃ V, V = w3 := ⟨_, rfl⟩
          subst hV
          clear m0 m1 m2 kX kY kZ
          have hbV := Below.of hbA hb3
          have hwx : IntKind.i64.wrap (-X) = -X := IntWalk.i64_in _ (by omega)
          have hwy : IntKind.i64.wrap (-Y) = -Y := IntWalk.i64_in _ (by omega)
          have hwz : IntKind.i64.wrap (-Z) = -Z := IntWalk.i64_in _ (by omega)
          have r1 := RowI.new V [-X, Y] (by intro x hx; simp at hx; unfold rng; rcases hx with rfl | rfl <;> omega) (by simp)
          obtain ⟨V1, hV1⟩ : ∃ V1, V1 = V.alloc (.cells #[.int .i64 (-X), .int .i64 Y] 3) := ⟨_, rfl⟩
          have r2 := RowI.new V1 [-X, Z] (by intro x hx; simp at hx; unfold rng; rcases hx with rfl | rfl <;> omega) (by simp)
          obtain ⟨V2, hV2⟩ : ∃ V2, V2 = V1.alloc (.cells #[.int .i64 (-X), .int .i64 Z] 3) := ⟨_, rfl⟩
          have r3 := RowI.new V2 [X, -Y, -Z] (by intro x hx; simp at hx; unfold rng; rcases hx with rfl | rfl | rfl <;> omega) (by simp)
          obtain ⟨V3, hV3⟩ : ∃ V3, V3 = V2.alloc (.cells #[.int .i64 X, .int .i64 (-Y), .int .i64 (-Z)] 3) := ⟨_, rfl⟩
          have b1 : Below V.heap.size V V1 := by rw [hV1]; exact (Below.refl _ _).alloc (Nat.le_refl _) _
          have b2 : Below V1.heap.size V1 V2 := by rw [hV2]; exact (Below.refl _ _).alloc (Nat.le_refl _) _
          have b3 : Below V2.heap.size V2 V3 := by rw [hV3]; exact (Below.refl _ _).alloc (Nat.le_refl _) _
          have s1 : V1.heap.size = V.heap.size + 1 := by rw [hV1]; simp
          have s2 : V2.heap.size = V.heap.size + 1 + 1 := by rw [hV2]; simp [s1]
          have s3 : V3.heap.size = V.heap.size + 1 + 1 + 1 := by rw [hV3]; simp [s2]
          have r1 : RowI V1 (.slice (some ⟨V.heap.size, 0, none⟩) 2 2) [-X, Y] := by rw [hV1]; exact r1
          have r2 : RowI V2 (.slice (some ⟨V.heap.size + 1, 0, none⟩) 2 2) [-X, Z] := by rw [← s1, hV2]; exact r2
          have r3 : RowI V3 (.slice (some ⟨V.heap.size + 1 + 1, 0, none⟩) 3 3) [X, -Y, -Z] := by rw [← s2, hV3]; exact r3
          have hrows := Lib.hid ((((RowsI.nil V3).push ((r1.mono b2).mono b3)).push (r2.mono b3)).push r3)
          have hbV3 := Lib.hid (Below.of (Below.of (Below.of hbV b1) b2) b3)
          have hout3 := Lib.hid ((((houtA.out.mono hb3).mono b1).mono b2).mono b3)
          have hVV : V3 = ((V.alloc (.cells #[.int .i64 (-X), .int .i64 Y] 3)).alloc (.cells #[.int .i64 (-X), .int .i64 Z] 3)).alloc (.cells #[.int .i64 X, .int .i64 (-Y), .int .i64 (-Z)] 3) := by rw [hV3, hV2, hV1]
          have hll : (U ++ (c.ands.take j).flatMap (PC.gateClauses b)).length ≤ 2049 + 3 * 2048 := by rw [List.length_append]; omega
          have S3 := Lib.hid s3
          have HVV := Lib.hid hVV
          have HLL := Lib.hid hll
          clear r1 r2 r3 b1 b2 b3 s1 s2 s3 hV1 hV2 hV3 hVV hll sx sy sz
          go_wp2_with (at_builtin; rw [← HVV.out]; refine app_rows rfl _ _ rfl (w0 := w2) (B0 := w2.heap.size) rfl hout3.out (us := #[.slice (some ⟨V.heap.size, 0, none⟩) 2 2, .slice (some ⟨V.heap.size + 1, 0, none⟩) 2 2, .slice (some ⟨V.heap.size + 1 + 1, 0, none⟩) 3 3]) (ms := [[-X, Y], [-X, Z], [X, -Y, -Z]]) (by exact hrows.out) hbV3.out (Nat.le_refl _) hbV3.out.size 3 3 rfl (by rw [S3.out]; rfl) (by have := HLL.out; omega) ?_; intro v5 w5 hout5 hb5 hbs5)
          go_roundg (c.ands.length - (j + 1))
          case measure => exact hmea _ hg
          case rel =>
            refine ⟨j + 1, by omega, by omega, by go_num, hb5, ?_⟩
            rw [hstep.out, hGC.out, ← List.append_assoc]
            exact hout5
        · have hltz : ¬ (j : Int) < (c.ands.length : Int) := by omega
          obtain rfl : j = c.ands.length := by omega
          rw [List.take_length] at hout
          have hfin : U ++ c.ands.flatMap (PC.gateClauses b) = PC.gatesT c b := by rw [PC.gatesT_eq, ← HNE.out, HU.out]
          rw [hfin] at hout
          go_wp2
          go_ret2
          exact ⟨_, rfl, hout.out.weaken hbw2.size, Below.of hbw2 hbr⟩

end Go.Proofs.Ytbjioniefalgpaa
