/- Contracts: slices.ContainsFunc at texts; a circuit on its way: at first, a step of it. -/
import Derived.Test.YtpkaoabpifeigaaGreatDoorWalkF
import Derived.Test.YtpkaoabpifeigaaGreatDoorWalkZ6
import Derived.Test.YtpkaoabpifeigaaGreatDoorShelfR
import Derived.BigRegion
namespace Go.Proofs.YtpkaoabpifeigaaGreatDoor
open Go.RowKit Go.Shelf

set_option maxHeartbeats 1000000 in
theorem IndexFuncS_any (p : List UInt8 → Bool) (g : Nat) (lb : Array Value) (W : World) (eg : ∀ args w, (callFunc g args).run Tryz.prog w = .ok (.enter g args) w)
    (hp : ∀ (x : List UInt8) w, x.length ≤ 9223372036854775807 → Below W.heap.size W w → Calls Tryz.prog g (#[.string ⟨x.toArray⟩] ++ lb) w fun e w' => e = .returned (.bool (p x)) ∧ Below w.heap.size w w')
    (l : List (List UInt8)) (v : Value) (hv : Strs W v l) :
    Calls Tryz.prog 64 #[v, .func (.func g) #[] lb] W fun e w' => e = .returned (.int .i64 (idx p l)) ∧ Below W.heap.size W w' := by
  obtain ⟨ao, cap, rfl, h1, h2, hc⟩ := hv.open_
  go_enter Tryz.func64, Tryz.ntmps64
  go_wp2
  go_loopg [5, 8] l.length (fun gg _ s8 wr => ∃ k : Nat, k ≤ l.length ∧ l.length - k ≤ gg ∧ s8 = .int .i64 k ∧ Below W.heap.size W wr ∧ Aside (∀ j (hj : j < k) (h : j < l.length), p l[j] = false))
  case atStart => exact ⟨0, Nat.zero_le _, by omega, rfl, Below.refl _ _, fun j hj => absurd hj (Nat.not_lt_zero _)⟩
  case round =>
    obtain ⟨k, hk, hg, rfl, hbr, A⟩ := hrel
    by_cases hlt : k < l.length
    · obtain ⟨b, off, rfl, hbs, hry, hcell⟩ := hc k hlt
      have hcell := (hbr.cell hbs).trans hcell
      clear hc
      generalize hy : l[k] = y at *
      have B : Aside (l[k] = y) := hy
      clear hy
      have hcall := hp y wr hry hbr
      clear hp
      have hltz : (k : Int) < (l.length : Int) := by omega
      cases hq : p y with
      | true =>
        rw [hq] at hcall
        go_wp2_with (go_at_fn g; refine (hcall).mono ?_; rintro e w' ⟨rfl, hb'⟩)
        go_ret
        refine ⟨?_, Below.of hbr hb'⟩
        rw [idx_hit p l k hlt (fun j hj => A.out j hj (by omega)) (by rw [B.out]; exact hq)]; rfl
      | false =>
        rw [hq] at hcall
        go_wp2_with (go_at_fn g; refine (hcall).mono ?_; rintro e w' ⟨rfl, hb'⟩)
        go_roundg (l.length - (k + 1))
        case measure => omega
        case rel =>
          refine ⟨k + 1, by omega, by omega, by go_num, Below.of hbr hb', (show Aside _ from fun j hj h => ?_)⟩
          by_cases e : j = k
          · subst e; rw [B.out]; exact hq
          · exact A.out j (by omega) h
    · have hltz : ¬ (k : Int) < (l.length : Int) := by omega
      go_wp2
      go_ret
      refine ⟨?_, hbr⟩
      rw [idx_miss p l (fun j hj => A.out j (by omega) hj)]; rfl

set_option maxHeartbeats 1000000 in
theorem ContainsFuncS_any (p : List UInt8 → Bool) (g : Nat) (lb : Array Value) (W : World) (eg : ∀ args w, (callFunc g args).run Tryz.prog w = .ok (.enter g args) w)
    (hp : ∀ (x : List UInt8) w, x.length ≤ 9223372036854775807 → Below W.heap.size W w → Calls Tryz.prog g (#[.string ⟨x.toArray⟩] ++ lb) w fun e w' => e = .returned (.bool (p x)) ∧ Below w.heap.size w w')
    (l : List (List UInt8)) (v : Value) (hv : Strs W v l) :
    Calls Tryz.prog 37 #[v, .func (.func g) #[] lb] W fun e w' => e = .returned (.bool (l.any p)) ∧ Below W.heap.size W w' := by
  rw [← idx_nonneg]
  go_enter Tryz.func37, Tryz.ntmps37
  go_wp2_with (go_at_call 64; refine (IndexFuncS_any p g lb W eg hp l v hv).mono ?_; rintro e w' ⟨rfl, hb⟩)
  go_ret
  exact ⟨rfl, hb⟩

end Go.Proofs.YtpkaoabpifeigaaGreatDoor

namespace Go.Proofs.YtpkaoabpifeigaaGreatDoor
open Go.RowKit Go.Shelf
attribute [local simp] mk_get

theorem repeat_0 (n : Nat) : Lib.repeatL [48] n = List.replicate n 48 := by
  induction n with
  | zero => rfl
  | succ n ih => simp [Lib.repeatL, List.replicate_succ] at ih ⊢; try exact ih

theorem Repeat_0 (n : Nat) (w : World) (hn : n ≤ 4096) : Calls Tryz.prog 67 #[.string ⟨#[48]⟩, .int .i64 n] w fun e w' => e = .returned (.string ⟨(List.replicate n 48 : List UInt8).toArray⟩) ∧ Below w.heap.size w w' := by
  have h := Tryz.strings_Repeat ⟨#[48]⟩ n w (by omega) (by show 1 * n ≤ _; omega)
  have e : Lib.repeatL (⟨#[48]⟩ : ByteArray).data.toList n = List.replicate n 48 := repeat_0 n
  rw [e] at h
  exact h

/-- the first state, with 0 where any may be -/
def fst0 (c : PC.Circ) : List UInt8 := firstS c (List.replicate c.latches.length 48)

/-- a circuit on its way -/
def Mach (w : World) (g : Nat) (cs : List Value) (st : List UInt8) : Prop := cs.length = 8 ∧ RowL 106 w g (cs ++ [.string ⟨st.toArray⟩])

set_option maxRecDepth 100000 in
set_option maxHeartbeats 4000000 in
theorem mBegun_any (c : PC.Circ) (v0 v1 v2 v3 v4 v5 v6 v7 : Value) (w : World) (h : IsCirc w (.agg #[v0, v1, v2, v3, v4, v5, v6, v7]) c) (hl : c.latches.length ≤ 64) :
    Calls Tryz.prog 40 #[.agg #[v0, v1, v2, v3, v4, v5, v6, v7]] w fun e w' => ∃ g, e = .returned (.pointer (some ⟨g, 0, none⟩)) ∧ w.heap.size ≤ g ∧ RowL 106 w' g [v0, v1, v2, v3, v4, v5, v6, v7, .string ⟨(fst0 c).toArray⟩] ∧ Below w.heap.size w w' := by
  have HI := Lib.hid h
  obtain ⟨vi, vl, vo, vb, vv, va, vn, he, hp, hm⟩ := h
  obtain ⟨xi, ci, rfl, _⟩ := hp.inputs.open_
  obtain ⟨xl, cl, rfl, _⟩ := hp.latches.open_
  obtain ⟨xo, co, rfl, _⟩ := hp.outputs.open_
  obtain ⟨xb, cb, rfl, _⟩ := hp.bads.open_
  obtain ⟨xv, cv, rfl, _⟩ := hp.invars.open_
  obtain ⟨xa, ca, rfl, _⟩ := hp.ands.open_
  obtain ⟨xn, cn, rfl, _⟩ := hp.names.open_
  simp only [Value.agg.injEq, Array.mk.injEq, List.cons.injEq, and_true] at he
  obtain ⟨rfl, rfl, rfl, rfl, rfl, rfl, rfl, rfl⟩ := he
  clear hp
  have hb0 := (Below.refl w.heap.size w).alloc (Nat.le_refl _) (.cells #[.int .i64 c.max, .slice xi c.inputs.length ci, .slice xl c.latches.length cl, .slice xo c.outputs.length co, .slice xb c.bads.length cb, .slice xv c.invars.length cv, .slice xa c.ands.length ca, .slice xn c.names.length cn] 27)
  have hbx := RowL.new (T := 27) w [.int .i64 c.max, .slice xi c.inputs.length ci, .slice xl c.latches.length cl, .slice xo c.outputs.length co, .slice xb c.bads.length cb, .slice xv c.invars.length cv, .slice xa c.ands.length ca, .slice xn c.names.length cn]
  obtain ⟨W, hW⟩ : ∃ W, W = w.alloc (.cells #[.int .i64 c.max, .slice xi c.inputs.length ci, .slice xl c.latches.length cl, .slice xo c.outputs.length co, .slice xb c.bads.length cb, .slice xv c.invars.length cv, .slice xa c.ands.length ca, .slice xn c.names.length cn] 27) := ⟨_, rfl⟩
  rw [← hW] at hbx hb0
  have l0 : ∀ x : Later W, _ := fun x => (hbx.mono x.below).cell 0 _ rfl
  have l1 : ∀ x : Later W, _ := fun x => (hbx.mono x.below).cell 1 _ rfl
  have l2 : ∀ x : Later W, _ := fun x => (hbx.mono x.below).cell 2 _ rfl
  have l3 : ∀ x : Later W, _ := fun x => (hbx.mono x.below).cell 3 _ rfl
  have l4 : ∀ x : Later W, _ := fun x => (hbx.mono x.below).cell 4 _ rfl
  have l5 : ∀ x : Later W, _ := fun x => (hbx.mono x.below).cell 5 _ rfl
  have l6 : ∀ x : Later W, _ := fun x => (hbx.mono x.below).cell 6 _ rfl
  have l7 : ∀ x : Later W, _ := fun x => (hbx.mono x.below).cell 7 _ rfl
  have hR : ∀ x : Later W, _ := fun x => Repeat_0 c.latches.length x.at_ (by omega)
  have hF : ∀ x : Later W, _ := fun x => simFirst_any c _ (List.replicate c.latches.length 48) x.at_ (HI.out.mono (Below.of hb0 x.below)) (by simp; omega)
  have hF0 : Hid (fst0 c = firstS c (List.replicate c.latches.length 48)) := rfl
  rw [hF0.out]
  generalize firstS c (List.replicate c.latches.length 48) = FS at *
  generalize firstE c (List.replicate c.latches.length 48) = FE at *
  generalize (List.replicate c.latches.length 48 : List UInt8) = RP at *
  have HW := Lib.hid hW
  have HB := Lib.hid hb0
  have HX := Lib.hid hbx
  have hWs : Hid (w.heap.size ≤ W.heap.size) := hb0.size
  clear hW hb0 hbx HI
  go_enter Tryz.func40, Tryz.ntmps40
  go_wp2_with fail
  rw [← HW.out]
  refine wp_region_later (by kernel_rfl) (by kernel_rfl) ?_; (repeat (go_big_quiet_step ((first | (go_at_call 67; with_reducible exact Calls.later (hR _)) | (go_at_call 66; with_reducible exact Calls.later (hF _)))))); refine wpQuiet_nil ?_; rintro w3 ⟨⟨_, hb3⟩, rfl⟩
  have q := HX.out.mono hb3
  have q0 := q.cell 0 _ rfl
  have q1 := q.cell 1 _ rfl
  have q2 := q.cell 2 _ rfl
  have q3 := q.cell 3 _ rfl
  have q4 := q.cell 4 _ rfl
  have q5 := q.cell 5 _ rfl
  have q6 := q.cell 6 _ rfl
  have q7 := q.cell 7 _ rfl
  have HB3 := Lib.hid (Below.of HB.out hb3)
  clear q l0 l1 l2 l3 l4 l5 l6 l7 hR hF hb3
  go_wp2_with fail
  go_ret
  exact ⟨_, rfl, HB3.out.size, RowL.new w3 _, Below.of HB3.out ((Below.refl _ _).alloc (Nat.le_refl _) _)⟩

end Go.Proofs.YtpkaoabpifeigaaGreatDoor

namespace Go.Proofs.YtpkaoabpifeigaaGreatDoor
open Go.RowKit Go.Shelf
attribute [local simp] mk_get

/-- outputs, told -/
def outB (c : PC.Circ) (v : List UInt8) : List UInt8 := c.outputs.map fun l => PC.bitB (PC.tru v l)

set_option maxRecDepth 100000 in
set_option maxHeartbeats 8000000 in
theorem mStep_any (c : PC.Circ) (xi xl xo xb xv xa xn : Option Addr) (ci cl co cb cv ca cn : Nat) (st inp : List UInt8) (g : Nat) (w0 w : World) (h : IsCirc w0 (.agg #[.int .i64 c.max, .slice xi c.inputs.length ci, .slice xl c.latches.length cl, .slice xo c.outputs.length co, .slice xb c.bads.length cb, .slice xv c.invars.length cv, .slice xa c.ands.length ca, .slice xn c.names.length cn]) c) (h0 : Below w0.heap.size w0 w) (hg : w0.heap.size ≤ g)
    (hck : PC.chk c = true) (hs : PC.bitsOk st c.latches.length = true) (hi : PC.bitsOk inp c.inputs.length = true) (hrow : RowL 106 w g [.int .i64 c.max, .slice xi c.inputs.length ci, .slice xl c.latches.length cl, .slice xo c.outputs.length co, .slice xb c.bads.length cb, .slice xv c.invars.length cv, .slice xa c.ands.length ca, .slice xn c.names.length cn, .string ⟨st.toArray⟩]) :
    Calls Tryz.prog 41 #[.pointer (some ⟨g, 0, none⟩), .string ⟨inp.toArray⟩] w fun e w' => e = .returned (.string ⟨(outB c (PC.vals c st inp)).toArray⟩) ∧ RowL 106 w' g [.int .i64 c.max, .slice xi c.inputs.length ci, .slice xl c.latches.length cl, .slice xo c.outputs.length co, .slice xb c.bads.length cb, .slice xv c.invars.length cv, .slice xa c.ands.length ca, .slice xn c.names.length cn, .string ⟨(PC.nexts c (PC.vals c st inp)).toArray⟩] ∧ w.grownBy w' (some g) := by
  have hR := PC.right_of c hck
  have hE : PC.valuesE c st inp = 0 := by unfold PC.valuesE; rw [if_neg (by rw [hck]; decide), if_neg (by rw [hs, hi]; decide)]
  have hsl := (PC.bitsOk_mem hs).2
  have hil := (PC.bitsOk_mem hi).2
  have hVb := PC.vals_bits c st inp (PC.bitsOk_mem hs).1 (PC.bitsOk_mem hi).1
  have hll := hR.lats
  have hll2 := hR.ins
  have HC := Lib.hid h
  have hO : Hid (∀ j (hj : j < c.outputs.length), ∃ b off, xo = some ⟨b, off, none⟩ ∧ b < w0.heap.size ∧ rng c.outputs[j] ∧ w0.cell? ⟨b, off + j, none⟩ = some (.int .i64 c.outputs[j])) := by
    obtain ⟨vi, vl, vo, vb, vv, va, vn, he, hp, hm⟩ := h
    simp only [Value.agg.injEq, Array.mk.injEq, List.cons.injEq, and_true] at he
    obtain ⟨_, rfl, rfl, rfl, rfl, rfl, rfl, rfl⟩ := he
    obtain ⟨_, _, e, _, _, hh⟩ := hp.outputs.open_
    cases e
    exact hh
  have hV : ∀ x : Later w, _ := fun x => simValues_any c _ st inp x.at_ (HC.out.mono (Below.of h0 x.below)) (by omega) (by omega)
  have hN : Hid (∀ y, Below w.heap.size w y → _) := fun y hy => simNext_any c _ st inp y (HC.out.mono (Below.of h0 hy)) (by omega) (by omega)
  have eV : PC.valuesS c st inp = PC.vals c st inp := by unfold PC.valuesS; rw [if_pos hE]
  have eN : nextS c st inp = PC.nexts c (PC.vals c st inp) := by unfold nextS; rw [if_pos hE]
  rw [eV, hE] at hV
  rw [eN, hE] at hN
  have hvl : (PC.vals c st inp).length ≤ 9223372036854775807 := by rw [PC.vals_length]; have := hR.max1; omega
  have hou := hR.outs
  generalize PC.nexts c (PC.vals c st inp) = NS at *
  obtain ⟨OUT, hOUT⟩ : ∃ O, O = outB c (PC.vals c st inp) := ⟨_, rfl⟩
  have hol : OUT.length = c.outputs.length := by rw [hOUT]; simp [outB]
  have hog : Hid (∀ k (hk : k < c.outputs.length) (hk2 : k < OUT.length), OUT[k] = PC.bitB (PC.tru (PC.vals c st inp) c.outputs[k])) := fun k hk hk2 => by subst hOUT; simp [outB]
  rw [← hOUT]
  clear hOUT
  generalize PC.vals c st inp = VS at *
  have HVb := Lib.hid hVb
  have HOL := Lib.hid hol
  have HR := Lib.hid hrow
  have H0 := Lib.hid h0
  have HG := Lib.hid hg
  have l0 : ∀ x : Later w, _ := fun x => (hrow.mono x.below).cell 0 _ rfl
  have l1 : ∀ x : Later w, _ := fun x => (hrow.mono x.below).cell 1 _ rfl
  have l2 : ∀ x : Later w, _ := fun x => (hrow.mono x.below).cell 2 _ rfl
  have l3 : ∀ x : Later w, _ := fun x => (hrow.mono x.below).cell 3 _ rfl
  have l4 : ∀ x : Later w, _ := fun x => (hrow.mono x.below).cell 4 _ rfl
  have l5 : ∀ x : Later w, _ := fun x => (hrow.mono x.below).cell 5 _ rfl
  have l6 : ∀ x : Later w, _ := fun x => (hrow.mono x.below).cell 6 _ rfl
  have l7 : ∀ x : Later w, _ := fun x => (hrow.mono x.below).cell 7 _ rfl
  have l8 : ∀ x : Later w, _ := fun x => (hrow.mono x.below).cell 8 _ rfl
  clear hrow h0 hg hck hs hi hE eV eN hVb hol hR hll hll2 hsl hil h
  go_enter Tryz.func41, Tryz.ntmps41
  go_wp2_with fail
  refine wp_region_later (by kernel_rfl) (by kernel_rfl) ?_; (repeat (go_big_quiet_step ((go_at_call 68; with_reducible exact Calls.later (hV _))))); refine wpQuiet_nil ?_; rintro w3 ⟨⟨_, hb3⟩, rfl⟩
  have HB3 := Lib.hid hb3
  have HR3 := Lib.hid (HR.out.mono hb3)
  clear l0 l1 l2 l3 l4 l5 l6 l7 l8 hV hb3 HR
  obtain ⟨X, hX⟩ : ∃ X, X = w3 := ⟨_, rfl⟩
  subst hX
  go_wp2_with fail
  have hD : ∃ D : List Bool → World → Prop, D = fun bs y => X.grownBy y (some g) ∧ (bs[0]? = some false → Below X.heap.size X y) ∧ (bs[0]? = some true → RowL 106 y g [.int .i64 c.max, .slice xi c.inputs.length ci, .slice xl c.latches.length cl, .slice xo c.outputs.length co, .slice xb c.bads.length cb, .slice xv c.invars.length cv, .slice xa c.ands.length ca, .slice xn c.names.length cn, .string ⟨NS.toArray⟩]) := ⟨_, rfl⟩
  obtain ⟨D, hD⟩ := hD
  have HD := Lib.hid hD
  clear hD
  refine wp_region_writes 17 [16] [isV (.pointer (some ⟨g, 0, none⟩)), isV (.pointer (some ⟨g, 0, none⟩)), isV (.pointer (some ⟨g, 0, none⟩)), isV (.pointer (some ⟨g, 0, none⟩)), isV (.agg #[.int .i64 c.max, .slice xi c.inputs.length ci, .slice xl c.latches.length cl, .slice xo c.outputs.length co, .slice xb c.bads.length cb, .slice xv c.invars.length cv, .slice xa c.ands.length ca, .slice xn c.names.length cn]), isV (.pointer (some ⟨g, 0, none⟩)), isV (.pointer (some ⟨g, 0, none⟩)), isV (.pointer (some ⟨g, 8, none⟩)), isV (.string ⟨st.toArray⟩), isV (.string ⟨inp.toArray⟩), isV (.tuple #[.string ⟨NS.toArray⟩, .int .i64 0]), isV (.tuple #[.string ⟨NS.toArray⟩, .int .i64 0]), isV (.string ⟨NS.toArray⟩), isV (.int .i64 0), isV (.pointer (some ⟨g, 0, none⟩)), isV (.pointer (some ⟨g, 8, none⟩)), (fun _ _ => True)] D
    [some 24, some 25, some 26, some 27, some 28, some 29, some 30, some 31, some 32, some 33, some 34, some 23, some 35, some 36, some 37, some 38, none] (by kernel_rfl) (by kernel_rfl) rfl (by
      intro q hq
      simp only [List.mem_cons, List.mem_nil_iff, or_false] at hq
      rcases hq with rfl | rfl | rfl | rfl | rfl | rfl | rfl | rfl | rfl | rfl | rfl | rfl | rfl | rfl | rfl | rfl | rfl <;> first | exact isV_keeps _ | exact fun _ _ _ _ h => h)
    (by rw [HD.out]; exact ⟨grownBy_drew (World.grownBy.refl _ _), fun _ => (Below.refl _ _).drew, fun h => by cases h⟩)
    (fun bs y y' hb hy => by rw [HD.out] at hy ⊢; obtain ⟨h1, h2, h3⟩ := hy; exact ⟨grownBy_below h1 hb, fun e => (h2 e).trans (hb.mono (h2 e).size), fun e => (h3 e).mono hb⟩)
    (by decide) ?_ ?_
  · refine ⟨fun s vs y hs hs1 hs2 hy hd => ?_, fun s vs y hs hs1 hs2 hy hd => ?_, fun s vs y hs hs1 hs2 hy hd => ?_, fun s vs y hs hs1 hs2 hy hd => ?_, fun s vs y hs hs1 hs2 hy hd => ?_, fun s vs y hs hs1 hs2 hy hd => ?_, fun s vs y hs hs1 hs2 hy hd => ?_, fun s vs y hs hs1 hs2 hy hd => ?_, fun s vs y hs hs1 hs2 hy hd => ?_, fun s vs y hs hs1 hs2 hy hd => ?_, fun s vs y hs hs1 hs2 hy hd => ?_, fun s vs y hs hs1 hs2 hy hd => ?_, fun s vs y hs hs1 hs2 hy hd => ?_, fun s vs y hs hs1 hs2 hy hd => ?_, fun s vs y hs hs1 hs2 hy hd => ?_, fun s vs y hs hs1 hs2 hy hd => ?_, fun s vs y hs hs1 hs2 hy hd => ?_, trivial⟩
    · (simp only [opens]; try simp only [Nat.reduceAdd])
      go_wp2_with fail
      exact ⟨_, rfl, rfl, Below.refl _ _⟩
    · (simp only [opens]; try simp only [Nat.reduceAdd])
      go_wp2_with fail
      exact ⟨_, rfl, rfl, Below.refl _ _⟩
    · have g0 : vs 1 = .pointer (some ⟨g, 0, none⟩) := hd 1 (by decide) (by kernel_rfl)
      (simp only [opens]; try simp only [Nat.reduceAdd])
      rw [g0]
      go_wp2_with fail
      exact ⟨_, rfl, rfl, Below.refl _ _⟩
    · have g0 : vs 2 = .pointer (some ⟨g, 0, none⟩) := hd 2 (by decide) (by kernel_rfl)
      (simp only [opens]; try simp only [Nat.reduceAdd])
      rw [g0]
      go_wp2_with fail
      exact ⟨_, rfl, rfl, Below.refl _ _⟩
    · have hsw : s 16 = false := hs2 16 (by decide) (by kernel_rfl)
      have hBy : Below X.heap.size X y := by rw [HD.out] at hy; exact hy.2.1 (by show [s 16][0]? = _; rw [hsw]; rfl)
      have q := HR3.out.mono hBy
      have q0 := q.cell 0 _ rfl
      have q1 := q.cell 1 _ rfl
      have q2 := q.cell 2 _ rfl
      have q3 := q.cell 3 _ rfl
      have q4 := q.cell 4 _ rfl
      have q5 := q.cell 5 _ rfl
      have q6 := q.cell 6 _ rfl
      have q7 := q.cell 7 _ rfl
      have g0 : vs 3 = .pointer (some ⟨g, 0, none⟩) := hd 3 (by decide) (by kernel_rfl)
      (simp only [opens]; try simp only [Nat.reduceAdd])
      rw [g0]
      go_wp2_with fail
      exact ⟨_, rfl, rfl, Below.refl _ _⟩
    · (simp only [opens]; try simp only [Nat.reduceAdd])
      go_wp2_with fail
      exact ⟨_, rfl, rfl, Below.refl _ _⟩
    · have g0 : vs 5 = .pointer (some ⟨g, 0, none⟩) := hd 5 (by decide) (by kernel_rfl)
      (simp only [opens]; try simp only [Nat.reduceAdd])
      rw [g0]
      go_wp2_with fail
      exact ⟨_, rfl, rfl, Below.refl _ _⟩
    · have g0 : vs 6 = .pointer (some ⟨g, 0, none⟩) := hd 6 (by decide) (by kernel_rfl)
      (simp only [opens]; try simp only [Nat.reduceAdd])
      rw [g0]
      go_wp2_with fail
      exact ⟨_, rfl, rfl, Below.refl _ _⟩
    · have hsw : s 16 = false := hs2 16 (by decide) (by kernel_rfl)
      have hBy : Below X.heap.size X y := by rw [HD.out] at hy; exact hy.2.1 (by show [s 16][0]? = _; rw [hsw]; rfl)
      have q := HR3.out.mono hBy
      have q8 := q.cell 8 _ rfl
      have g0 : vs 7 = .pointer (some ⟨g, 8, none⟩) := hd 7 (by decide) (by kernel_rfl)
      (simp only [opens]; try simp only [Nat.reduceAdd])
      rw [g0]
      go_wp2_with fail
      exact ⟨_, rfl, rfl, Below.refl _ _⟩
    · (simp only [opens]; try simp only [Nat.reduceAdd])
      go_wp2_with fail
      exact ⟨_, rfl, rfl, Below.refl _ _⟩
    · have hsw : s 16 = false := hs2 16 (by decide) (by kernel_rfl)
      have hBy : Below X.heap.size X y := by rw [HD.out] at hy; exact hy.2.1 (by show [s 16][0]? = _; rw [hsw]; rfl)
      have g0 : vs 4 = .agg #[.int .i64 c.max, .slice xi c.inputs.length ci, .slice xl c.latches.length cl, .slice xo c.outputs.length co, .slice xb c.bads.length cb, .slice xv c.invars.length cv, .slice xa c.ands.length ca, .slice xn c.names.length cn] := hd 4 (by decide) (by kernel_rfl)
      have g1 : vs 8 = .string ⟨st.toArray⟩ := hd 8 (by decide) (by kernel_rfl)
      have g2 : vs 9 = .string ⟨inp.toArray⟩ := hd 9 (by decide) (by kernel_rfl)
      have hZ := Lib.hid (hN.out y (Below.of HB3.out hBy))
      (simp only [opens]; try simp only [Nat.reduceAdd])
      rw [g0, g1, g2]
      go_wp2_with (go_at_call 69; refine hZ.out.mono ?_; rintro e w4 ⟨rfl, hb4⟩)
      exact ⟨_, rfl, rfl, hb4⟩
    · have g0 : vs 10 = .tuple #[.string ⟨NS.toArray⟩, .int .i64 0] := hd 10 (by decide) (by kernel_rfl)
      (simp only [opens]; try simp only [Nat.reduceAdd])
      rw [g0]
      go_wp2_with fail
      exact ⟨_, rfl, rfl, Below.refl _ _⟩
    · have g0 : vs 11 = .tuple #[.string ⟨NS.toArray⟩, .int .i64 0] := hd 11 (by decide) (by kernel_rfl)
      (simp only [opens]; try simp only [Nat.reduceAdd])
      rw [g0]
      go_wp2_with fail
      exact ⟨_, rfl, rfl, Below.refl _ _⟩
    · have g0 : vs 11 = .tuple #[.string ⟨NS.toArray⟩, .int .i64 0] := hd 11 (by decide) (by kernel_rfl)
      (simp only [opens]; try simp only [Nat.reduceAdd])
      rw [g0]
      go_wp2_with fail
      exact ⟨_, rfl, rfl, Below.refl _ _⟩
    · have g0 : vs 0 = .pointer (some ⟨g, 0, none⟩) := hd 0 (by decide) (by kernel_rfl)
      (simp only [opens]; try simp only [Nat.reduceAdd])
      rw [g0]
      go_wp2_with fail
      exact ⟨_, rfl, rfl, Below.refl _ _⟩
    · have g0 : vs 14 = .pointer (some ⟨g, 0, none⟩) := hd 14 (by decide) (by kernel_rfl)
      (simp only [opens]; try simp only [Nat.reduceAdd])
      rw [g0]
      go_wp2_with fail
      exact ⟨_, rfl, rfl, Below.refl _ _⟩
    · have g0 : vs 12 = .string ⟨NS.toArray⟩ := hd 12 (by decide) (by kernel_rfl)
      have g1 : vs 15 = .pointer (some ⟨g, 8, none⟩) := hd 15 (by decide) (by kernel_rfl)
      have hBy : X.grownBy y (some g) ∧ Below X.heap.size X y := by rw [HD.out] at hy; exact ⟨hy.1, hy.2.1 (by show [s 16][0]? = _; rw [hs]; rfl)⟩
      have hr := HR3.out.mono hBy.2
      have hc := hr.cell 8 _ rfl
      have hfz := hr.frozen 8
      have hR8 : Hid (RowL 106 (y.setCell ⟨g, 8, none⟩ (.string ⟨NS.toArray⟩)) g [.int .i64 c.max, .slice xi c.inputs.length ci, .slice xl c.latches.length cl, .slice xo c.outputs.length co, .slice xb c.bads.length cb, .slice xv c.invars.length cv, .slice xa c.ands.length ca, .slice xn c.names.length cn, .string ⟨NS.toArray⟩]) := hr.set 8 (.string ⟨NS.toArray⟩)
      have hG8 := set_grown' y g 8 (.string ⟨NS.toArray⟩)
      have HH : Hid (D [true] (y.setCell ⟨g, 8, none⟩ (.string ⟨NS.toArray⟩))) := by
        show D _ _
        rw [HD.out]
        exact ⟨grownBy_two hBy.1 hG8 fun j e => Or.inr (Option.some.inj e).symm, (fun h => by cases h), (fun _ => hR8.out)⟩
      have hbF : Hid (∀ j, j < 17 → j ≠ 16 → Facts [isV (.pointer (some ⟨g, 0, none⟩)), isV (.pointer (some ⟨g, 0, none⟩)), isV (.pointer (some ⟨g, 0, none⟩)), isV (.pointer (some ⟨g, 0, none⟩)), isV (.agg #[.int .i64 c.max, .slice xi c.inputs.length ci, .slice xl c.latches.length cl, .slice xo c.outputs.length co, .slice xb c.bads.length cb, .slice xv c.invars.length cv, .slice xa c.ands.length ca, .slice xn c.names.length cn]), isV (.pointer (some ⟨g, 0, none⟩)), isV (.pointer (some ⟨g, 0, none⟩)), isV (.pointer (some ⟨g, 8, none⟩)), isV (.string ⟨st.toArray⟩), isV (.string ⟨inp.toArray⟩), isV (.tuple #[.string ⟨NS.toArray⟩, .int .i64 0]), isV (.tuple #[.string ⟨NS.toArray⟩, .int .i64 0]), isV (.string ⟨NS.toArray⟩), isV (.int .i64 0), isV (.pointer (some ⟨g, 0, none⟩)), isV (.pointer (some ⟨g, 8, none⟩)), (fun _ _ => True)] j (vs j) y → Facts [isV (.pointer (some ⟨g, 0, none⟩)), isV (.pointer (some ⟨g, 0, none⟩)), isV (.pointer (some ⟨g, 0, none⟩)), isV (.pointer (some ⟨g, 0, none⟩)), isV (.agg #[.int .i64 c.max, .slice xi c.inputs.length ci, .slice xl c.latches.length cl, .slice xo c.outputs.length co, .slice xb c.bads.length cb, .slice xv c.invars.length cv, .slice xa c.ands.length ca, .slice xn c.names.length cn]), isV (.pointer (some ⟨g, 0, none⟩)), isV (.pointer (some ⟨g, 0, none⟩)), isV (.pointer (some ⟨g, 8, none⟩)), isV (.string ⟨st.toArray⟩), isV (.string ⟨inp.toArray⟩), isV (.tuple #[.string ⟨NS.toArray⟩, .int .i64 0]), isV (.tuple #[.string ⟨NS.toArray⟩, .int .i64 0]), isV (.string ⟨NS.toArray⟩), isV (.int .i64 0), isV (.pointer (some ⟨g, 0, none⟩)), isV (.pointer (some ⟨g, 8, none⟩)), (fun _ _ => True)] j (vs j) (y.setCell ⟨g, 8, none⟩ (.string ⟨NS.toArray⟩))) := fun j hj hne hfj => by
        obtain rfl | rfl | rfl | rfl | rfl | rfl | rfl | rfl | rfl | rfl | rfl | rfl | rfl | rfl | rfl | rfl := (by omega : j = 0 ∨ j = 1 ∨ j = 2 ∨ j = 3 ∨ j = 4 ∨ j = 5 ∨ j = 6 ∨ j = 7 ∨ j = 8 ∨ j = 9 ∨ j = 10 ∨ j = 11 ∨ j = 12 ∨ j = 13 ∨ j = 14 ∨ j = 15)
        all_goals exact hfj
      clear hr hBy hG8 hy hd
      (simp only [opens]; try simp only [Nat.reduceAdd])
      rw [g0, g1]
      go_wp2_with fail
      exact ⟨rfl, ⟨undef, trivial⟩, HH.out, hbF.out⟩
  intro vs y hy hf
  rw [HD.out] at hy
  obtain ⟨hy1, -, hy3⟩ := hy
  have hy3 := hy3 rfl
  (simp only [opens]; try simp only [Nat.reduceAdd])
  have HGy := Lib.hid hy1
  have HRy := Lib.hid hy3
  have HBy := Lib.hid (below_grown (Below.of H0.out HB3.out) hy1 (Below.of H0.out HB3.out).size HG.out)
  have hgy := hy3.lt
  have p3 : (y.alloc (.cells #[.pointer none, .slice none 0 0] 111)).cell? ⟨g, 3, none⟩ = some (.slice xo c.outputs.length co) := past1 (hy3.cell 3 _ rfl) _
  clear hf hy1 hy3 HD HR3
  simp only [List.drop_succ_cons, List.drop_zero, wpList]
  go_wp2_with fail
  go_loopg [45] c.outputs.length (fun gg s45 wr => ∃ k : Nat, k ≤ c.outputs.length ∧ c.outputs.length - k ≤ gg ∧ s45 = .int .i64 k ∧ Hid (Lib.IsBuilderF 111 5 y.heap.size y.heap.size (Lib.byteCells (OUT.take k)) wr) ∧ Hid (Below y.heap.size y wr))
  case atStart => exact ⟨0, Nat.zero_le _, by omega, rfl, builder_new y _ _, (Below.refl _ _).alloc (Nat.le_refl _) _⟩
  case round =>
    clear p3
    obtain ⟨k, hk, hgg, rfl, hbd, hbr⟩ := hrel
    have hBs : y.heap.size ≤ wr.heap.size := hbr.out.size
    by_cases hlt : k < c.outputs.length
    · have hmea : ∀ g : Nat, c.outputs.length - k ≤ g → c.outputs.length - (k + 1) < g := fun g h => by omega
      obtain ⟨b, off, rfl, hl1, hr1, hc1⟩ := hO.out k hlt
      have hBw := Below.of HBy.out hbr.out
      have hc1 := (hBw.cell hl1).trans hc1
      have hbt := Lib.hid (byteCells_take OUT k (by have := HOL.out; omega))
      have hOk := Lib.hid (hog.out k hlt (by have := HOL.out; omega))
      generalize c.outputs[k] = l at *
      have hT := Lib.hid (simTrue_any VS l wr HVb.out hr1 hvl)
      have hltz : (k : Int) < (c.outputs.length : Int) := by omega
      have hln : (Lib.byteCells (OUT.take k)).length ≤ 64 := by rw [Lib.byteCells_length, List.length_take]; have := HOL.out; omega
      have hwb : Hid (∀ (x : Int) w1, Below wr.heap.size wr w1 → _) := fun x w1 hb1 => Any.Builder_WriteByte_k Tryz.lays167 Tryz.Builder_Extra_167 y.heap.size y.heap.size (Lib.byteCells (OUT.take k)) x w1 (builder_mono hbd.out hb1) (by omega) (Nat.le_trans hBs hb1.size)
      have hk1 : Hid (k + 1 ≤ c.outputs.length) := hlt
      clear hr1 hln hBs hBw hbd
      cases ht : PC.tru VS l with
      | true =>
        rw [ht] at hT hOk
        go_wp2_with (first | (go_at_call 70; refine hT.out.mono ?_; rintro e w4 ⟨rfl, hb4⟩; have HB4 := Lib.hid hb4; clear hb4 hc1) | (go_at_call 71; refine (hwb.out 49 _ HB4.out).mono ?_; rintro e w5 ⟨rfl, hB5, hb5, _⟩))
        have hB6 : Hid (Lib.IsBuilderF 111 5 y.heap.size y.heap.size (Lib.byteCells (OUT.take (k + 1))) w5) := by
          rw [hbt.out, hOk.out]
          exact .inr hB5
        have hb6 : Hid (Below y.heap.size y w5) := (hbr.out.trans (HB4.out.mono hbr.out.size)).trans hb5
        clear hB5 hb5
        go_roundg (c.outputs.length - (k + 1))
        case measure => exact hmea _ hgg
        case rel => exact ⟨k + 1, hk1.out, Nat.le_refl _, by go_num, hB6, hb6⟩
      | false =>
        rw [ht] at hT hOk
        go_wp2_with (first | (go_at_call 70; refine hT.out.mono ?_; rintro e w4 ⟨rfl, hb4⟩; have HB4 := Lib.hid hb4; clear hb4 hc1) | (go_at_call 71; refine (hwb.out 48 _ HB4.out).mono ?_; rintro e w5 ⟨rfl, hB5, hb5, _⟩))
        have hB6 : Hid (Lib.IsBuilderF 111 5 y.heap.size y.heap.size (Lib.byteCells (OUT.take (k + 1))) w5) := by
          rw [hbt.out, hOk.out]
          exact .inr hB5
        have hb6 : Hid (Below y.heap.size y w5) := (hbr.out.trans (HB4.out.mono hbr.out.size)).trans hb5
        clear hB5 hb5
        go_roundg (c.outputs.length - (k + 1))
        case measure => exact hmea _ hgg
        case rel => exact ⟨k + 1, hk1.out, Nat.le_refl _, by go_num, hB6, hb6⟩
    · have hltz : ¬ (k : Int) < (c.outputs.length : Int) := by omega
      obtain rfl : k = c.outputs.length := by omega
      have hsr := hbd.out
      rw [← HOL.out, List.take_length] at hsr
      have hstr := Lib.hid (Tryz.Builder_String_any_k y.heap.size y.heap.size OUT wr hsr hBs)
      clear hsr
      go_wp2_with (go_at_call 72; refine hstr.out.mono ?_; rintro e w5 ⟨rfl, _, hb5, _⟩)
      go_ret
      have hby5 := hbr.out.trans hb5
      exact ⟨rfl, HRy.out.mono hby5, grownBy_below (grownBy_two (r := some g) ⟨HB3.out.os, HB3.out.tape, HB3.out.output, HB3.out.size, fun j hj _ => HB3.out.block j hj⟩ HGy.out fun j e => Or.inr (Option.some.inj e).symm) hby5⟩

end Go.Proofs.YtpkaoabpifeigaaGreatDoor
