/- Contracts: at which step two circuits differ; the page's example of miters; a circuit never differs from itself. -/
import Derived.Test.YtpkaoabpifeigaaGreatDoorWalkZ9
import Derived.Test.YtpkaoabpifeigaaGreatDoorWalkZ7
import Derived.Test.YtpkaoabpifeigaaGreatDoorPlainZ3
import Derived.Test.YtpkaoabpifeigaaGreatDoorWalkV2
namespace Go.Proofs.YtpkaoabpifeigaaGreatDoor
open Go.RowKit Go.Shelf
attribute [local simp] mk_get

theorem fst0_ok (c : PC.Circ) (h : PC.chk c = true) : PC.bitsOk (fst0 c) c.latches.length = true ∧ fst0 c = firstR c (List.replicate c.latches.length 48) := by
  have hb : PC.bitsOk (List.replicate c.latches.length 48) c.latches.length = true := by
    simp only [PC.bitsOk, Bool.and_eq_true, List.all_eq_true, List.length_replicate, decide_true, and_true]
    intro b hb
    rw [List.eq_of_mem_replicate hb]; rfl
  have hE : firstE c (List.replicate c.latches.length 48) = 0 := by unfold firstE; rw [if_neg (by rw [h]; decide), if_neg (by rw [hb]; decide)]
  have hf : fst0 c = firstR c (List.replicate c.latches.length 48) := by unfold fst0 firstS; rw [if_pos hE]
  refine ⟨?_, hf⟩
  rw [hf]
  unfold firstR
  simp only [PC.bitsOk, Bool.and_eq_true, List.all_eq_true, List.length_map, List.length_zip, List.length_replicate, Nat.min_self, decide_true, and_true]
  intro b hb2
  obtain ⟨p, hp, rfl⟩ := List.mem_map.1 hb2
  have := List.eq_of_mem_replicate (List.of_mem_zip hp).2
  unfold rst
  split
  · rw [this]; rfl
  · split <;> rfl

theorem enters_mDiffer1 : ∀ args w, (callFunc 38 args).run Tryz.prog w = .ok (.enter 38 args) w := enters_of Tryz.func38 (by kernel_rfl) rfl

theorem mDiffer1_any (s : List UInt8) (x : Option Addr) (n c P : Nat) (w : World) (hs : s.length ≤ 9223372036854775807) (hn : n ≤ 9223372036854775807) (hc : w.cell? ⟨P, 1, none⟩ = some (.slice x n c)) :
    Calls Tryz.prog 38 (#[.string ⟨s.toArray⟩] ++ #[.pointer (some ⟨P, 0, none⟩)]) w fun e w' => e = .returned (.bool (!PC.bitsOk s n)) ∧ Below w.heap.size w w' := by
  show Calls Tryz.prog 38 #[.string ⟨s.toArray⟩, .pointer (some ⟨P, 0, none⟩)] w _
  have hB := Lib.hid (simBits_any s n w hs hn)
  cases hb : PC.bitsOk s n with
  | true =>
    rw [hb] at hB
    go_enter Tryz.func38, Tryz.ntmps38
    go_wp2_with (go_at_call 39; refine hB.out.mono ?_; rintro e w1 ⟨rfl, hb1⟩)
    go_ret
    exact ⟨rfl, hb1⟩
  | false =>
    rw [hb] at hB
    go_enter Tryz.func38, Tryz.ntmps38
    go_wp2_with (go_at_call 39; refine hB.out.mono ?_; rintro e w1 ⟨rfl, hb1⟩)
    go_ret
    exact ⟨rfl, hb1⟩

def difV (a b : PC.Circ) (ins : List (List UInt8)) : Int := if PC.difE a b ins ≠ 0 then 0 else PC.difN a b (fst0 a) (fst0 b) ins 0

set_option maxRecDepth 100000 in
set_option maxHeartbeats 8000000 in
theorem mDiffer_any (a b : PC.Circ) (va vb vs : Value) (ins : List (List UInt8)) (w : World) (ha : IsCirc w va a) (hb : IsCirc w vb b) (hs : Strs w vs ins) :
    Calls Tryz.prog 12 #[va, vb, vs] w fun e w' => e = .returned (.tuple #[.int .i64 (difV a b ins), .int .i64 (PC.difE a b ins)]) ∧ Below w.heap.size w w' := by
  have HA := Lib.hid ha
  have HB := Lib.hid hb
  have HSt := Lib.hid hs
  obtain ⟨xi, xj, xl, xm, xo, xp, xb, xc, xv, xw, xa, xq, xn, xr, rfl, hpa⟩ := row_slices ha
  obtain ⟨yi, yj, yl, ym, yo, yp, yb, yc, yv, yw, ya, yq, yn, yr, rfl, hpb⟩ := row_slices hb
  have hil : a.inputs.length ≤ 9223372036854775807 := by
    obtain ⟨_, _, _, h1, h2, _⟩ := hpa.inputs.open_
    omega
  obtain ⟨so, sc, rfl, hs1, hs2, hs3⟩ := hs.open_
  have HS3 := Lib.hid hs3
  clear ha hb hpa hpb hs hs3
  have r1 := (RowL.new (T := 27) w [.int .i64 a.max, .slice xi a.inputs.length xj, .slice xl a.latches.length xm, .slice xo a.outputs.length xp, .slice xb a.bads.length xc, .slice xv a.invars.length xw, .slice xa a.ands.length xq, .slice xn a.names.length xr]).mono ((Below.refl _ _).alloc (Nat.le_refl _) (.cells #[.int .i64 b.max, .slice yi b.inputs.length yj, .slice yl b.latches.length ym, .slice yo b.outputs.length yp, .slice yb b.bads.length yc, .slice yv b.invars.length yw, .slice ya b.ands.length yq, .slice yn b.names.length yr] 27))
  have r2 := RowL.new (T := 27) (w.alloc (.cells #[.int .i64 a.max, .slice xi a.inputs.length xj, .slice xl a.latches.length xm, .slice xo a.outputs.length xp, .slice xb a.bads.length xc, .slice xv a.invars.length xw, .slice xa a.ands.length xq, .slice xn a.names.length xr] 27)) [.int .i64 b.max, .slice yi b.inputs.length yj, .slice yl b.latches.length ym, .slice yo b.outputs.length yp, .slice yb b.bads.length yc, .slice yv b.invars.length yw, .slice ya b.ands.length yq, .slice yn b.names.length yr]
  rw [World.size_alloc] at r2
  have hb0 := ((Below.refl w.heap.size w).alloc (Nat.le_refl _) (.cells #[.int .i64 a.max, .slice xi a.inputs.length xj, .slice xl a.latches.length xm, .slice xo a.outputs.length xp, .slice xb a.bads.length xc, .slice xv a.invars.length xw, .slice xa a.ands.length xq, .slice xn a.names.length xr] 27)).alloc (by simp) (.cells #[.int .i64 b.max, .slice yi b.inputs.length yj, .slice yl b.latches.length ym, .slice yo b.outputs.length yp, .slice yb b.bads.length yc, .slice yv b.invars.length yw, .slice ya b.ands.length yq, .slice yn b.names.length yr] 27)
  obtain ⟨W, hW⟩ : ∃ W, W = (w.alloc (.cells #[.int .i64 a.max, .slice xi a.inputs.length xj, .slice xl a.latches.length xm, .slice xo a.outputs.length xp, .slice xb a.bads.length xc, .slice xv a.invars.length xw, .slice xa a.ands.length xq, .slice xn a.names.length xr] 27)).alloc (.cells #[.int .i64 b.max, .slice yi b.inputs.length yj, .slice yl b.latches.length ym, .slice yo b.outputs.length yp, .slice yb b.bads.length yc, .slice yv b.invars.length yw, .slice ya b.ands.length yq, .slice yn b.names.length yr] 27) := ⟨_, rfl⟩
  rw [← hW] at r1 r2 hb0
  have HW := Lib.hid hW
  have R1 := Lib.hid r1
  have R2 := Lib.hid r2
  have HB0 := Lib.hid hb0
  clear hW r1 r2 hb0
  have hTg := Lib.hid (mTogether_any a b _ _ W (HA.out.mono HB0.out) (HB.out.mono HB0.out))
  go_enter Tryz.func12, Tryz.ntmps12
  go_wp2_with fail
  rw [← HW.out]
  refine hTg.out.mono ?_
  rintro e w1 ⟨rfl, hb1⟩
  have HB1 := Lib.hid (Below.of HB0.out hb1)
  have S1 := Lib.hid (R1.out.mono hb1)
  have S2 := Lib.hid (R2.out.mono hb1)
  clear hb1 R1 R2 HB0 HW hTg
  obtain ⟨E, hE⟩ : ∃ E : Int, E = PC.togE a b := ⟨_, rfl⟩
  rw [← hE]
  by_cases hz : E = 0
  case neg =>
    have eE : Hid (PC.difE a b ins = E) := by show _ = _; rw [PC.difE, if_pos (by rw [← hE]; exact hz), hE]
    have eV : Hid (difV a b ins = 0) := by show _ = _; rw [difV, eE.out, if_pos hz]
    have hzb : (E != 0) = true := by simpa using hz
    clear hE hz
    go_wp2_with fail
    go_ret2
    exact ⟨by rw [eE.out, eV.out]; rfl, HB1.out⟩
  case pos =>
    have hzb : (E != 0) = false := by simpa using hz
    have hT : PC.togE a b = 0 := hE.symm.trans hz
    have HT := Lib.hid hT
    have HO := Lib.hid (PC.tog_ok hT)
    clear hE hT
    subst hz
    have hCF := Lib.hid (ContainsFuncS_any (fun s => !PC.bitsOk s a.inputs.length) 38 #[.pointer (some ⟨w.heap.size, 0, none⟩)] w1 enters_mDiffer1 (fun s y hs hy => mDiffer1_any s xi a.inputs.length xj w.heap.size y hs hil ((S1.out.mono hy).cell 1 _ rfl)) ins _ (HSt.out.mono HB1.out))
    have eIns : Hid ((ins.any fun s => !PC.bitsOk s a.inputs.length) = PC.badIns a.inputs.length ins) := rfl
    rw [eIns.out] at hCF
    cases hbi : PC.badIns a.inputs.length ins with
    | true =>
      have eE : Hid (PC.difE a b ins = 5) := by show _ = _; rw [PC.difE, if_neg (by rw [HT.out]; decide), if_pos hbi]
      have eV : Hid (difV a b ins = 0) := by show _ = _; rw [difV, eE.out, if_pos (by decide)]
      rw [hbi] at hCF
      clear hbi
      have hmf : ∀ (fn : Fn) (first cap : Array Value) (w : World), (Instr.makeFunc fn first cap).run Tryz.prog w = .ok (.func fn first cap) w := fun _ _ _ _ => rfl
      go_wp2_with fail
      refine hCF.out.mono ?_
      rintro e w2 ⟨rfl, hb2⟩
      go_wp2_with fail
      go_ret2
      exact ⟨by rw [eE.out, eV.out]; rfl, Below.of HB1.out hb2⟩
    | false =>
      have eE : Hid (PC.difE a b ins = 0) := by show _ = _; rw [PC.difE, if_neg (by rw [HT.out]; decide), if_neg (by rw [hbi]; decide)]
      have eV : Hid (difV a b ins = PC.difN a b (fst0 a) (fst0 b) ins 0) := by show _ = _; rw [difV, eE.out, if_neg (by decide)]
      have hIn : Hid (∀ s ∈ ins, PC.bitsOk s a.inputs.length = true) := fun s hs => by
        have := List.any_eq_false.1 hbi s hs
        simpa using this
      rw [hbi] at hCF
      clear hbi
      have hmf : ∀ (fn : Fn) (first cap : Array Value) (w : World), (Instr.makeFunc fn first cap).run Tryz.prog w = .ok (.func fn first cap) w := fun _ _ _ _ => rfl
      go_wp2_with fail
      refine hCF.out.mono ?_
      rintro e w2 ⟨rfl, hb2⟩
      have HB2 := Lib.hid (Below.of HB1.out hb2)
      have T1 := Lib.hid (S1.out.mono hb2)
      have T2 := Lib.hid (S2.out.mono hb2)
      clear hb2 S1 S2 HB1 hCF hmf
      go_wp2_with fail
      refine wp_region_makes 3 [isV (.agg #[.int .i64 a.max, .slice xi a.inputs.length xj, .slice xl a.latches.length xm, .slice xo a.outputs.length xp, .slice xb a.bads.length xc, .slice xv a.invars.length xw, .slice xa a.ands.length xq, .slice xn a.names.length xr]), (fun v y => ∃ g, v = .pointer (some ⟨g, 0, none⟩) ∧ w2.heap.size ≤ g ∧ RowL 106 y g [.int .i64 a.max, .slice xi a.inputs.length xj, .slice xl a.latches.length xm, .slice xo a.outputs.length xp, .slice xb a.bads.length xc, .slice xv a.invars.length xw, .slice xa a.ands.length xq, .slice xn a.names.length xr, .string ⟨(fst0 a).toArray⟩]), isV (.agg #[.int .i64 b.max, .slice yi b.inputs.length yj, .slice yl b.latches.length ym, .slice yo b.outputs.length yp, .slice yb b.bads.length yc, .slice yv b.invars.length yw, .slice ya b.ands.length yq, .slice yn b.names.length yr])] [some 22, some 23, some 24] (by kernel_rfl) (by kernel_rfl) rfl (by
        intro q hq
        simp only [List.mem_cons, List.mem_nil_iff, or_false] at hq
        rcases hq with rfl | rfl | rfl <;> first | exact isV_keeps _ | exact fun _ _ _ hb ⟨g, e, h1, h2⟩ => ⟨g, e, h1, h2.mono hb⟩) ?_ ?_
      · refine ⟨fun vs y hy hd => ?_, fun vs y hy hd => ?_, fun vs y hy hd => ?_, trivial⟩
        · have q := T1.out.mono hy
          have q0 := q.cell 0 _ rfl
          have q1 := q.cell 1 _ rfl
          have q2 := q.cell 2 _ rfl
          have q3 := q.cell 3 _ rfl
          have q4 := q.cell 4 _ rfl
          have q5 := q.cell 5 _ rfl
          have q6 := q.cell 6 _ rfl
          have q7 := q.cell 7 _ rfl
          (simp only [opens]; try simp only [Nat.reduceAdd])
          go_wp2_with fail
          exact ⟨_, rfl, Below.refl _ _, rfl⟩
        · have g0 : vs 0 = .agg #[.int .i64 a.max, .slice xi a.inputs.length xj, .slice xl a.latches.length xm, .slice xo a.outputs.length xp, .slice xb a.bads.length xc, .slice xv a.invars.length xw, .slice xa a.ands.length xq, .slice xn a.names.length xr] := hd 0 (by decide) (by kernel_rfl)
          have hX := Lib.hid (mBegun_any a _ _ _ _ _ _ _ _ y (HA.out.mono (Below.of HB2.out hy)) (PC.right_of a HO.out.1).lats)
          (simp only [opens]; try simp only [Nat.reduceAdd])
          rw [g0]
          go_wp2_with (go_at_call 40; refine hX.out.mono ?_; rintro e w4 ⟨g, rfl, hg, hrow, hb4⟩)
          exact ⟨_, rfl, hb4, _, rfl, Nat.le_trans hy.size hg, hrow⟩
        · have q := T2.out.mono hy
          have q0 := q.cell 0 _ rfl
          have q1 := q.cell 1 _ rfl
          have q2 := q.cell 2 _ rfl
          have q3 := q.cell 3 _ rfl
          have q4 := q.cell 4 _ rfl
          have q5 := q.cell 5 _ rfl
          have q6 := q.cell 6 _ rfl
          have q7 := q.cell 7 _ rfl
          (simp only [opens]; try simp only [Nat.reduceAdd])
          go_wp2_with fail
          exact ⟨_, rfl, Below.refl _ _, rfl⟩
      intro vs y hy hf
      obtain ⟨g1, e1, hg1, hr1⟩ : ∃ g, vs 1 = .pointer (some ⟨g, 0, none⟩) ∧ w2.heap.size ≤ g ∧ RowL 106 y g [.int .i64 a.max, .slice xi a.inputs.length xj, .slice xl a.latches.length xm, .slice xo a.outputs.length xp, .slice xb a.bads.length xc, .slice xv a.invars.length xw, .slice xa a.ands.length xq, .slice xn a.names.length xr, .string ⟨(fst0 a).toArray⟩] := hf 1 (by decide)
      have e2 : vs 2 = .agg #[.int .i64 b.max, .slice yi b.inputs.length yj, .slice yl b.latches.length ym, .slice yo b.outputs.length yp, .slice yb b.bads.length yc, .slice yv b.invars.length yw, .slice ya b.ands.length yq, .slice yn b.names.length yr] := hf 2 (by decide)
      have hX := Lib.hid (mBegun_any b _ _ _ _ _ _ _ _ y (HB.out.mono (Below.of HB2.out hy)) (PC.right_of b HO.out.2.1).lats)
      have HY := Lib.hid hy
      have HR1 := Lib.hid hr1
      have HG1 := Lib.hid hg1
      (simp only [opens]; try simp only [Nat.reduceAdd])
      rw [e1, e2]
      generalize vs 0 = z0
      clear e1 e2 hf hy hr1 hg1 T1 T2
      go_wp2_with (go_at_call 40; refine hX.out.mono ?_; rintro e w4 ⟨g2, rfl, hg2, hr2, hb4⟩; have HG2 := Lib.hid hg2; have HR2 := Lib.hid hr2; have HB4 := Lib.hid hb4; clear hg2 hr2 hb4)
      have hne : Hid (g1 ≠ g2 ∧ w.heap.size ≤ g1 ∧ w.heap.size ≤ g2) := by
        have h1 := HR1.out.lt
        have h2 := HG2.out
        have h3 := HG1.out
        have h4 := HB2.out.size
        have h5 := HY.out.size
        exact ⟨by omega, by omega, by omega⟩
      have HBw := Lib.hid (Below.of (Below.of HB2.out HY.out) HB4.out)
      have HR1w := Lib.hid (HR1.out.mono HB4.out)
      have hf1 := Lib.hid (fst0_ok a HO.out.1).1
      have hf2 := Lib.hid (fst0_ok b HO.out.2.1).1
      clear HB4 HR1 HB2 HY hX
      go_loopg [28] ins.length (fun gg s28 wr => ∃ (k : Nat) (x y : List UInt8), k ≤ ins.length ∧ ins.length - k ≤ gg ∧ s28 = .int .i64 k ∧ Hid (RowL 106 wr g1 [.int .i64 a.max, .slice xi a.inputs.length xj, .slice xl a.latches.length xm, .slice xo a.outputs.length xp, .slice xb a.bads.length xc, .slice xv a.invars.length xw, .slice xa a.ands.length xq, .slice xn a.names.length xr, .string ⟨x.toArray⟩]) ∧ Hid (RowL 106 wr g2 [.int .i64 b.max, .slice yi b.inputs.length yj, .slice yl b.latches.length ym, .slice yo b.outputs.length yp, .slice yb b.bads.length yc, .slice yv b.invars.length yw, .slice ya b.ands.length yq, .slice yn b.names.length yr, .string ⟨y.toArray⟩]) ∧ Hid (Below w.heap.size w wr) ∧ Hid (PC.bitsOk x a.latches.length = true ∧ PC.bitsOk y b.latches.length = true) ∧ Hid (PC.difN a b (fst0 a) (fst0 b) ins 0 = PC.difN a b x y (ins.drop k) k))
      case atStart => exact ⟨0, _, _, Nat.zero_le _, by omega, rfl, HR1w.out, HR2.out, HBw.out, ⟨hf1.out, hf2.out⟩, by show _ = _; rw [List.drop_zero]⟩
      case round =>
        obtain ⟨k, x, y, hk, hg, rfl, hr1, hr2, hbw, hbt, hdf⟩ := hrel
        by_cases hlt : k < ins.length
        · have hmea : ∀ g : Nat, ins.length - k ≤ g → ins.length - (k + 1) < g := fun g h => by omega
          obtain ⟨b', off, rfl, hl1, hyl, hc1⟩ := HS3.out k hlt
          have hc1 := (hbw.out.cell hl1).trans hc1
          have hdr : Hid (ins.drop k = ins[k] :: ins.drop (k + 1)) := List.drop_eq_getElem_cons hlt
          have hib := hIn.out _ (List.getElem_mem hlt)
          generalize ins[k] = s at *
          have hSA := Lib.hid (mStep_any a xi xl xo xb xv xa xn xj xm xp xc xw xq xr x s g1 w wr HA.out hbw.out hne.out.2.1 HO.out.1 hbt.out.1 hib hr1.out)
          have hSB : Hid (∀ w5, wr.grownBy w5 (some g1) → _) := fun w5 h5 => mStep_any b yi yl yo yb yv ya yn yj ym yp yc yw yq yr y s g2 w w5 HB.out (hbw.out.grown h5 hbw.out.size fun j e => by cases e; exact hne.out.2.1) hne.out.2.2 HO.out.2.1 hbt.out.2 (by rw [← HO.out.2.2.1]; exact hib) (hr2.out.grown h5 fun e => hne.out.1 (Option.some.inj e).symm)
          have hst : Hid (PC.difN a b x y (s :: ins.drop (k + 1)) k = if outB a (PC.vals a x s) = outB b (PC.vals b y s) then PC.difN a b (PC.nexts a (PC.vals a x s)) (PC.nexts b (PC.vals b y s)) (ins.drop (k + 1)) (k + 1) else k) := rfl
          have hnA := Lib.hid (PC.nexts_bits a (PC.vals a x s))
          have hnB := Lib.hid (PC.nexts_bits b (PC.vals b y s))
          generalize PC.nexts a (PC.vals a x s) = NA at *
          generalize PC.nexts b (PC.vals b y s) = NB at *
          generalize outB a (PC.vals a x s) = OA at *
          generalize outB b (PC.vals b y s) = OB at *
          have hltz : (k : Int) < (ins.length : Int) := by omega
          clear hib hyl
          cases hq : (OA == OB) with
          | true =>
            have hq2 : OA = OB := by simpa using hq
            have hqn : (OA != OB) = false := by simp [bne, hq]
            have hq3 : Hid (OA = OB) := hq2
            clear hq2
            go_wp2_with fail
            refine hSA.out.mono ?_
            rintro e w5 ⟨rfl, hr5, hg5⟩
            have HG5 := Lib.hid hg5
            have HR5 := Lib.hid hr5
            have hSB2 := Lib.hid (hSB.out w5 hg5)
            clear hr5 hg5 hc1
            go_wp2_with fail
            refine hSB2.out.mono ?_
            rintro e w6 ⟨rfl, hr6, hg6⟩
            have HG6 := Lib.hid hg6
            have HR6 := Lib.hid hr6
            clear hr6 hg6
            go_wp2_with fail
            go_roundg (ins.length - (k + 1))
            case measure => exact hmea _ hg
            case rel =>
              refine ⟨k + 1, NA, NB, by omega, by omega, by go_num, HR5.out.grown HG6.out fun e => hne.out.1 (Option.some.inj e), HR6.out, ?_, ⟨hnA.out, hnB.out⟩, ?_⟩
              · exact (hbw.out.grown HG5.out hbw.out.size fun j e => by cases e; exact hne.out.2.1).grown HG6.out (Nat.le_trans hbw.out.size HG5.out.size) fun j e => by cases e; exact hne.out.2.2
              · show _ = _
                rw [hdf.out, hdr.out, hst.out, if_pos hq3.out]
          | false =>
            have hqn : (OA != OB) = true := by simp [bne, hq]
            have hq3 : Hid (¬ OA = OB) := fun h => by rw [h] at hq; simp at hq
            go_wp2_with fail
            refine hSA.out.mono ?_
            rintro e w5 ⟨rfl, hr5, hg5⟩
            have HG5 := Lib.hid hg5
            have hSB2 := Lib.hid (hSB.out w5 hg5)
            clear hr5 hg5 hc1
            go_wp2_with fail
            refine hSB2.out.mono ?_
            rintro e w6 ⟨rfl, hr6, hg6⟩
            have HG6 := Lib.hid hg6
            clear hr6 hg6
            go_wp2_with fail
            go_ret2
            refine ⟨?_, (hbw.out.grown HG5.out hbw.out.size fun j e => by cases e; exact hne.out.2.1).grown HG6.out (Nat.le_trans hbw.out.size HG5.out.size) fun j e => by cases e; exact hne.out.2.2⟩
            rw [eE.out, eV.out, hdf.out, hdr.out, hst.out, if_neg hq3.out]
            rfl
        · have hltz : ¬ (k : Int) < (ins.length : Int) := by omega
          obtain rfl : k = ins.length := by omega
          go_wp2_with fail
          go_ret2
          refine ⟨?_, hbw.out⟩
          rw [eE.out, eV.out, hdf.out, List.drop_length]
          rfl

end Go.Proofs.YtpkaoabpifeigaaGreatDoor

namespace Go.Proofs.YtpkaoabpifeigaaGreatDoor
open Go.RowKit Go.Shelf
attribute [local simp] mk_get

theorem num36_any (x : Int) (w : World) : Calls Tryz.prog 15 #[.int .i64 x] w fun e w' => e = .returned (.int .i64 x) ∧ w = w' := by
  go_enter Tryz.func15, Tryz.ntmps15
  go_wp2
  go_ret
  exact ⟨rfl, rfl⟩

theorem row_ints {y : World} {b : Nat} {x : Int} (h : RowL 3 y b [.int .i64 x]) (hr : rng x) : Ints y (.slice (some ⟨b, 0, none⟩) 1 1) [x] := by
  refine ⟨⟨_, _, rfl, Nat.le_refl _, by decide, (fun h => by cases h), rfl, fun j hj => ⟨b, 0, rfl, h.lt, ?_⟩⟩, fun z hz => ?_⟩
  · have : j = 0 := by simpa using hj
    subst this
    exact h.cell 0 _ rfl
  · have : z = x := by simpa using hz
    rw [this]; exact hr

theorem row_strs {y : World} {b : Nat} {s : List UInt8} (h : RowL 9 y b [.string ⟨s.toArray⟩]) (hr : s.length ≤ 9223372036854775807) : Strs y (.slice (some ⟨b, 0, none⟩) 1 1) [s] := by
  refine ⟨⟨_, _, rfl, Nat.le_refl _, by decide, (fun h => by cases h), rfl, fun j hj => ⟨b, 0, rfl, h.lt, ?_⟩⟩, fun z hz => ?_⟩
  · have : j = 0 := by simpa using hj
    subst this
    exact h.cell 0 _ rfl
  · have : z = s := by simpa using hz
    rw [this]; exact hr

def exM : PC.Circ := ⟨1, [2], [], [2], [], [], [], []⟩
theorem exM_facts : PC.difE exM exM [[49]] = 0 ∧ difV exM exM [[49]] = -1 ∧ PC.joinE exM exM = 0 ∧ (PC.joinD exM exM).bads.length = 1 := by
  refine ⟨?_, ?_, ?_, ?_⟩ <;> decide +kernel

theorem nil_ints (w : World) : Ints w (.slice none 0 0) [] := ⟨Cells.nil _ _, fun x hx => by cases hx⟩

set_option maxRecDepth 100000 in
set_option maxHeartbeats 2000000 in
theorem alive36_any (w : World) : Calls Tryz.prog 7 #[] w fun e w' => e = .returned (.bool true) ∧ Below w.heap.size w w' := by
  have ha : RowL 3 (w.alloc (.cells #[.int .i64 2] 3)) w.heap.size [.int .i64 2] := RowL.new w _
  have hb : RowL 3 ((w.alloc (.cells #[.int .i64 2] 3)).alloc (.cells #[.int .i64 2] 3)) (w.heap.size + 1) [.int .i64 2] := by
    have := RowL.new (T := 3) (w.alloc (.cells #[.int .i64 2] 3)) [.int .i64 2]
    rw [World.size_alloc] at this
    exact this
  have hc : RowL 27 (((w.alloc (.cells #[.int .i64 2] 3)).alloc (.cells #[.int .i64 2] 3)).alloc (.cells #[.int .i64 1, .slice (some ⟨w.heap.size, 0, none⟩) 1 1, .slice none 0 0, .slice (some ⟨w.heap.size + 1, 0, none⟩) 1 1, .slice none 0 0, .slice none 0 0, .slice none 0 0, .slice none 0 0] 27)) (w.heap.size + 1 + 1) [.int .i64 1, .slice (some ⟨w.heap.size, 0, none⟩) 1 1, .slice none 0 0, .slice (some ⟨w.heap.size + 1, 0, none⟩) 1 1, .slice none 0 0, .slice none 0 0, .slice none 0 0, .slice none 0 0] := by
    have := RowL.new (T := 27) ((w.alloc (.cells #[.int .i64 2] 3)).alloc (.cells #[.int .i64 2] 3)) [.int .i64 1, .slice (some ⟨w.heap.size, 0, none⟩) 1 1, .slice none 0 0, .slice (some ⟨w.heap.size + 1, 0, none⟩) 1 1, .slice none 0 0, .slice none 0 0, .slice none 0 0, .slice none 0 0]
    rw [World.size_alloc, World.size_alloc] at this
    exact this
  have ha := (ha.mono ((Below.refl _ _).alloc (Nat.le_refl _) (.cells #[.int .i64 2] 3))).mono ((Below.refl _ _).alloc (Nat.le_refl _) (.cells #[.int .i64 1, .slice (some ⟨w.heap.size, 0, none⟩) 1 1, .slice none 0 0, .slice (some ⟨w.heap.size + 1, 0, none⟩) 1 1, .slice none 0 0, .slice none 0 0, .slice none 0 0, .slice none 0 0] 27))
  have hb := hb.mono ((Below.refl _ _).alloc (Nat.le_refl _) (.cells #[.int .i64 1, .slice (some ⟨w.heap.size, 0, none⟩) 1 1, .slice none 0 0, .slice (some ⟨w.heap.size + 1, 0, none⟩) 1 1, .slice none 0 0, .slice none 0 0, .slice none 0 0, .slice none 0 0] 27))
  have hw : Below w.heap.size w (((w.alloc (.cells #[.int .i64 2] 3)).alloc (.cells #[.int .i64 2] 3)).alloc (.cells #[.int .i64 1, .slice (some ⟨w.heap.size, 0, none⟩) 1 1, .slice none 0 0, .slice (some ⟨w.heap.size + 1, 0, none⟩) 1 1, .slice none 0 0, .slice none 0 0, .slice none 0 0, .slice none 0 0] 27)) := (((Below.refl _ _).alloc (Nat.le_refl _) _).alloc (by simp) _).alloc (by simp; omega) _
  have hS : ∀ W : World, RowL 9 (W.alloc (.cells #[.string ⟨#[49]⟩] 9)) W.heap.size [.string ⟨([49] : List UInt8).toArray⟩] := fun W => RowL.new W _
  obtain ⟨V, hV⟩ : ∃ V, V = ((w.alloc (.cells #[.int .i64 2] 3)).alloc (.cells #[.int .i64 2] 3)).alloc (.cells #[.int .i64 1, .slice (some ⟨w.heap.size, 0, none⟩) 1 1, .slice none 0 0, .slice (some ⟨w.heap.size + 1, 0, none⟩) 1 1, .slice none 0 0, .slice none 0 0, .slice none 0 0, .slice none 0 0] 27) := ⟨_, rfl⟩
  rw [← hV] at ha hb hc hw
  have hVs : V.heap.size = w.heap.size + 1 + 1 + 1 := by rw [hV]; simp
  have hI : Hid (∀ y, Below V.heap.size V y → IsCirc y (.agg #[.int .i64 1, .slice (some ⟨w.heap.size, 0, none⟩) 1 1, .slice none 0 0, .slice (some ⟨w.heap.size + 1, 0, none⟩) 1 1, .slice none 0 0, .slice none 0 0, .slice none 0 0, .slice none 0 0]) exM) := fun y hy =>
    ⟨_, _, _, _, _, _, _, rfl, ⟨row_ints (ha.mono hy) (by unfold rng; decide), ⟨Cells.nil _ _, fun x hx => by cases hx⟩, row_ints (hb.mono hy) (by unfold rng; decide), nil_ints _, nil_ints _, ⟨Cells.nil _ _, fun x hx => by cases hx⟩, ⟨Cells.nil _ _, fun x hx => by cases hx⟩⟩, by unfold rng exM; decide⟩
  have hbS := (Below.refl V.heap.size V).alloc (Nat.le_refl _) (.cells #[.string ⟨#[49]⟩] 9)
  obtain ⟨x1, x2, x3, x4⟩ := exM_facts
  have hS1 := hS V
  rw [hVs] at hS1
  have hD := mDiffer_any exM exM _ _ _ [[49]] _ (hI.out _ hbS) (hI.out _ hbS) (row_strs hS1 (by decide))
  rw [x1, x2] at hD
  have HD := Lib.hid hD
  have HC := Lib.hid hc
  have HWb := Lib.hid hw
  have HBS := Lib.hid hbS
  have HV := Lib.hid hV
  obtain ⟨JD, hJD⟩ : ∃ D, D = PC.joinD exM exM := ⟨_, rfl⟩
  obtain ⟨JE, hJE⟩ : ∃ D, D = PC.joinE exM exM := ⟨_, rfl⟩
  have hJ : Hid (∀ y, Below V.heap.size V y → Calls Tryz.prog 13 #[.agg #[.int .i64 1, .slice (some ⟨w.heap.size, 0, none⟩) 1 1, .slice none 0 0, .slice (some ⟨w.heap.size + 1, 0, none⟩) 1 1, .slice none 0 0, .slice none 0 0, .slice none 0 0, .slice none 0 0], .agg #[.int .i64 1, .slice (some ⟨w.heap.size, 0, none⟩) 1 1, .slice none 0 0, .slice (some ⟨w.heap.size + 1, 0, none⟩) 1 1, .slice none 0 0, .slice none 0 0, .slice none 0 0, .slice none 0 0]] y (CircE y JE JD)) := fun y hy => by
    rw [hJE, hJD]
    exact mJoin_any exM exM _ _ y (hI.out y hy) (hI.out y hy)
  rw [← hJD] at x4
  rw [← hJE] at x3
  subst x3
  have HX4 := Lib.hid x4
  clear hJD hJE
  clear hV ha hb hc hw hS hS1 hbS hD x1 x2 x4 hVs hI
  go_enter Tryz.func7, Tryz.ntmps7
  go_wp2_with fail
  rw [← HV.out]
  have q := HC.out
  have q0 := q.cell 0 _ rfl
  have q1 := q.cell 1 _ rfl
  have q2 := q.cell 2 _ rfl
  have q3 := q.cell 3 _ rfl
  have q4 := q.cell 4 _ rfl
  have q5 := q.cell 5 _ rfl
  have q6 := q.cell 6 _ rfl
  have q7 := q.cell 7 _ rfl
  go_wp2_with fail
  refine HD.out.mono ?_
  rintro e w1 ⟨rfl, hb1⟩
  have HB1 := Lib.hid (Below.of HBS.out hb1)
  clear q q0 q1 q2 q3 q4 q5 q6 q7 hb1
  have q := HC.out.mono HB1.out
  have q0 := q.cell 0 _ rfl
  have q1 := q.cell 1 _ rfl
  have q2 := q.cell 2 _ rfl
  have q3 := q.cell 3 _ rfl
  have q4 := q.cell 4 _ rfl
  have q5 := q.cell 5 _ rfl
  have q6 := q.cell 6 _ rfl
  have q7 := q.cell 7 _ rfl
  go_wp2_with fail
  refine (hJ.out w1 HB1.out).mono ?_
  rintro e w2 ⟨u, rfl, hu, hb2⟩
  obtain ⟨i, j, l, m, o, p, b, d, vv, ww, a, qq, n, r, rfl, hpu⟩ := row_slices hu
  have HB2 := Lib.hid (Below.of HWb.out (Below.of HB1.out hb2))
  rw [HX4.out]
  clear q q0 q1 q2 q3 q4 q5 q6 q7 hb2 hu hpu
  have hb4 : ∀ o, Below w.heap.size w (w2.alloc o) := fun o => HB2.out.alloc HB2.out.size o
  go_wp2_with fail
  go_ret
  exact ⟨rfl, hb4 _⟩

set_option maxRecDepth 100000 in
set_option maxHeartbeats 2000000 in
theorem mSelf_walk (c : PC.Circ) (vc vs : Value) (ins : List (List UInt8)) (w : World) (h : IsCirc w vc c) (hf : Fits c) (hs : Strs w vs ins) :
    Calls Tryz.prog 4 #[vc, vs] w fun e w' => e = .returned (.bool true) ∧ Below w.heap.size w w' := by
  have HI := Lib.hid h
  have HSt := Lib.hid hs
  obtain ⟨xi, xj, xl, xm, xo, xp, xb, xc, xv, xw, xa, xq, xn, xr, rfl, hpa⟩ := row_slices h
  obtain ⟨so, sc, rfl, hs1, hs2, hs3⟩ := hs.open_
  clear h hs hpa hs3
  have r1 := RowL.new (T := 27) w [.int .i64 c.max, .slice xi c.inputs.length xj, .slice xl c.latches.length xm, .slice xo c.outputs.length xp, .slice xb c.bads.length xc, .slice xv c.invars.length xw, .slice xa c.ands.length xq, .slice xn c.names.length xr]
  have hb0 := (Below.refl w.heap.size w).alloc (Nat.le_refl _) (.cells #[.int .i64 c.max, .slice xi c.inputs.length xj, .slice xl c.latches.length xm, .slice xo c.outputs.length xp, .slice xb c.bads.length xc, .slice xv c.invars.length xw, .slice xa c.ands.length xq, .slice xn c.names.length xr] 27)
  have R1 := Lib.hid r1
  have HB0 := Lib.hid hb0
  clear r1 hb0
  go_enter Tryz.func4, Tryz.ntmps4
  go_wp2_with fail
  refine (alive36_any _).mono ?_
  rintro e w1 ⟨rfl, hb1⟩
  have HB1 := Lib.hid (Below.of HB0.out hb1)
  have S1 := Lib.hid (R1.out.mono hb1)
  clear R1 HB0 hb1
  have q := S1.out
  have q0 := q.cell 0 _ rfl
  have q1 := q.cell 1 _ rfl
  have q2 := q.cell 2 _ rfl
  have q3 := q.cell 3 _ rfl
  have q4 := q.cell 4 _ rfl
  have q5 := q.cell 5 _ rfl
  have q6 := q.cell 6 _ rfl
  have q7 := q.cell 7 _ rfl
  have hD := Lib.hid (mDiffer_any c c _ _ _ ins w1 (HI.out.mono HB1.out) (HI.out.mono HB1.out) (HSt.out.mono HB1.out))
  have hE : PC.difE c c ins = 0 → difV c c ins = -1 := fun h => by rw [difV, h, if_neg (by decide)]; exact PC.difN_self c ins _ _
  have hV0 : PC.difE c c ins ≠ 0 → difV c c ins = 0 := fun h => by rw [difV, if_pos h]
  have hE5 : PC.difE c c ins ≠ 0 → PC.difE c c ins = 5 ∨ (PC.difE c c ins = 9 ∧ PC.chk c = false) := fun h => by
    unfold PC.difE PC.togE at h ⊢
    cases hc : PC.chk c with
    | false => right; simp
    | true =>
      left
      simp [hc] at h ⊢
      exact h
  obtain ⟨E, hEE⟩ : ∃ E, E = PC.difE c c ins := ⟨_, rfl⟩
  obtain ⟨V, hVV⟩ : ∃ V, V = difV c c ins := ⟨_, rfl⟩
  rw [← hEE, ← hVV] at hE hV0
  rw [← hEE] at hE5
  rw [← hEE, ← hVV] at hD
  clear hEE hVV q
  by_cases hz : E = 0
  · have hv := hE hz
    have hzb : (E != 0) = false := by simpa using hz
    clear hE hV0 hE5
    subst hz
    subst hv
    go_wp2_with fail
    refine hD.out.mono ?_
    rintro e w2 ⟨rfl, hb2⟩
    go_wp2_with fail
    go_ret
    exact ⟨rfl, Below.of HB1.out hb2⟩
  · have hv := hV0 hz
    have hzb : (E != 0) = true := by simpa using hz
    rcases hE5 hz with h5 | ⟨h9, hck⟩
    · clear hE hV0 hE5 hz
      subst h5
      subst hv
      go_wp2_with fail
      refine hD.out.mono ?_
      rintro e w2 ⟨rfl, hb2⟩
      go_wp2_with fail
      go_ret
      exact ⟨rfl, Below.of HB1.out hb2⟩
    · clear hE hV0 hE5 hz
      subst h9
      subst hv
      have hRC := Lib.hid fun y (hy : Below w1.heap.size w1 y) => rCheck_any c _ y (HI.out.mono (Below.of HB1.out hy)) hf
      rw [hck] at hRC
      go_wp2_with fail
      refine hD.out.mono ?_
      rintro e w2 ⟨rfl, hb2⟩
      have hR2 := Lib.hid (hRC.out w2 hb2)
      have q := S1.out.mono hb2
      clear q0 q1 q2 q3 q4 q5 q6 q7
      have q0 := q.cell 0 _ rfl
      have q1 := q.cell 1 _ rfl
      have q2 := q.cell 2 _ rfl
      have q3 := q.cell 3 _ rfl
      have q4 := q.cell 4 _ rfl
      have q5 := q.cell 5 _ rfl
      have q6 := q.cell 6 _ rfl
      have q7 := q.cell 7 _ rfl
      go_wp2_with (go_at_call 9; refine hR2.out.mono ?_; rintro e w3 ⟨rfl, hb3⟩)
      go_ret
      exact ⟨rfl, Below.of (Below.of HB1.out hb2) hb3⟩

end Go.Proofs.YtpkaoabpifeigaaGreatDoor
