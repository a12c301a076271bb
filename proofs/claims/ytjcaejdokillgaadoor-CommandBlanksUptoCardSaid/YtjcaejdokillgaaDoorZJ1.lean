/- Contracts: the reader of lines: the first line's numbers; so many numbers, a line each. -/
import Derived.Test.YtjcaejdokillgaaDoorZSH
import Derived.Test.YtjcaejdokillgaaDoorZL1
import Derived.Test.YtjcaejdokillgaaDoorZL2
import Derived.Test.YtjcaejdokillgaaDoorZP3
import Derived.WalkLawsBesides
import Derived.Defers
import Derived.Recover
import Derived.Test.YtjcaejdokillgaaDoorZW1
namespace Go.Proofs.YtjcaejdokillgaaDoor
open Go.RowKit Go.Shelf
attribute [local simp] mk_get

/-- a fault that is no 'all is well' -/
def fltV (v : Value) : Prop := ∃ at_ er, er ≠ 0 ∧ v = .iface 77 (.agg #[.int .i64 at_, .int .i64 er])
def flt (e : Ending) : Prop := ∃ v, fltV v ∧ e = .panicked [{ v := v, recovered := false }]

/-- the reader's variable -/
abbrev Rd (w : World) (r : Nat) (s : List UInt8) (at_ : Int) : Prop := RowL 81 w r [.string ⟨s.toArray⟩, .int .i64 at_]

theorem jNeed_ok (r : Value) (e0 : Int) (w : World) : Calls Tryd.prog 37 #[r, .bool true, .int .i64 e0] w fun e w' => e = .returned (.tuple #[]) ∧ w = w' := by
  go_enter Tryd.func37, Tryd.ntmps37
  go_wp2
  go_end0
  exact ⟨rfl, rfl⟩

theorem jNeed_no (r : Nat) (s : List UInt8) (at_ e0 : Int) (w : World) (h : Rd w r s at_) (he : e0 ≠ 0) : Calls Tryd.prog 37 #[.pointer (some ⟨r, 0, none⟩), .bool false, .int .i64 e0] w fun e w' => flt e ∧ w = w' := by
  have c0 := h.cell 0 _ rfl
  have c1 := h.cell 1 _ rfl
  go_enter Tryd.func37, Tryd.ntmps37
  go_wp2
  exact ⟨rfl, ⟨_, ⟨at_, e0, he, rfl⟩, rfl⟩, rfl⟩

theorem cut_one (c : UInt8) (s : List UInt8) : Lib.cut s [c] = match PR.at1 c s with
    | none => (s, [], false)
    | some (p, q) => (p, q, true) := by
  have key : ∀ s : List UInt8, match PR.at1 c s with
      | none => Lib.index s [c] = -1
      | some (p, q) => Lib.index s [c] = p.length ∧ s = p ++ c :: q := by
    intro s
    cases h : PR.at1 c s with
    | none =>
      have hn := PR.at1_none.1 h
      simp only
      rw [Lib.index_one]
      induction s with
      | nil => rfl
      | cons b l ih =>
        have hb : b ≠ c := fun e => hn (by simp [e])
        have ih := ih (PR.at1_none.2 fun x => hn (by simp [x])) fun x => hn (by simp [x])
        rw [Lib.indexByte, if_neg (by simpa using hb), ih]; rfl
    | some x =>
      obtain ⟨p, q⟩ := x
      obtain ⟨e1, e2⟩ := PR.at1_some h
      refine ⟨?_, e1⟩
      rw [Lib.index_one, e1]
      clear h e1
      induction p with
      | nil => rw [List.nil_append, Lib.indexByte, if_pos (by simp)]; rfl
      | cons b l ih =>
        have hb : b ≠ c := fun e => e2 (by simp [e])
        have ih := ih fun x => e2 (by simp [x])
        rw [List.cons_append, Lib.indexByte, if_neg (by simpa using hb), ih, if_neg (by simp)]
        simp
  have := key s
  unfold Lib.cut
  cases h : PR.at1 c s with
  | none =>
    rw [h] at this
    simp only at this
    rw [this]; rfl
  | some x =>
    obtain ⟨p, q⟩ := x
    rw [h] at this
    simp only at this
    obtain ⟨e1, e2⟩ := this
    rw [e1, if_pos (by omega), e2]
    simp

theorem Cut_one (c : UInt8) (s : List UInt8) (m : Int) (w : World) (hs : s.length ≤ 1048576) (hm : w.cell? ⟨0, 0, none⟩ = some (.int .i64 m)) :
    Calls Tryd.prog 48 #[.string ⟨s.toArray⟩, .string ⟨#[c]⟩] w fun e w' => Below w.heap.size w w' ∧ ((∃ p q, PR.at1 c s = some (p, q) ∧ e = .returned (.tuple #[.string ⟨p.toArray⟩, .string ⟨q.toArray⟩, .bool true])) ∨
      (PR.at1 c s = none ∧ e = .returned (.tuple #[.string ⟨s.toArray⟩, .string ⟨#[]⟩, .bool false]))) := by
  have hsz : (ByteArray.mk s.toArray).size = s.length := by simp [ByteArray.size]
  refine (Tryd.strings_Cut ⟨s.toArray⟩ ⟨#[c]⟩ m w (by omega) hm).mono ?_
  rintro e w' ⟨rfl, n, rfl⟩
  have e1 : (ByteArray.mk s.toArray).data.toList = s := by simp
  have e2 : (ByteArray.mk #[c]).data.toList = [c] := rfl
  rw [e1, e2, cut_one]
  refine ⟨below_drewN (Below.refl _ _) _, ?_⟩
  cases h : PR.at1 c s with
  | none => exact .inr ⟨rfl, rfl⟩
  | some x => exact .inl ⟨x.1, x.2, rfl, rfl⟩

set_option maxHeartbeats 1000000 in
theorem jLine_any (r : Nat) (s : List UInt8) (at_ m : Int) (w : World) (h : Rd w r s at_) (hs : s.length ≤ 65536) (hm : w.cell? ⟨0, 0, none⟩ = some (.int .i64 m)) :
    Calls Tryd.prog 72 #[.pointer (some ⟨r, 0, none⟩)] w fun e w' => w.grownBy w' (some r) ∧
      ((∃ p q, PR.at1 10 s = some (p, q) ∧ e = .returned (.string ⟨p.toArray⟩) ∧ Rd w' r q at_) ∨ (PR.at1 10 s = none ∧ flt e)) := by
  have c0 := h.cell 0 _ rfl
  have c1 := h.cell 1 _ rfl
  have HC := Lib.hid (Cut_one 10 s m w (by omega) hm)
  have H := Lib.hid h
  clear h
  go_enter Tryd.func72, Tryd.ntmps72
  go_wp2_with (go_at_call 48; refine HC.out.mono ?_; rintro e w1 ⟨hb, ⟨p, q, hp, rfl⟩ | ⟨hp, rfl⟩⟩)
  · have h1 := H.out.mono hb
    have d0 := h1.cell 0 _ rfl
    have f0 := h1.frozen 0
    have g1 := h1.set 0 (.string ⟨q.toArray⟩)
    have gg := grownBy_two (O := r) (r := some r) ⟨hb.os, hb.tape, hb.output, hb.size, fun j hj _ => hb.block j hj⟩ (set_grown' w1 r 0 (.string ⟨q.toArray⟩)) fun j e => .inr (Option.some.inj e.symm)
    have G := Lib.hid gg
    have G1 := Lib.hid g1
    clear h1 gg g1
    go_wp2_with (go_at_call 37; refine (jNeed_ok _ _ _).mono ?_; rintro e w2 ⟨rfl, rfl⟩)
    go_ret
    exact ⟨G.out, .inl ⟨p, q, hp, rfl, G1.out⟩⟩
  · have h1 := Lib.hid (H.out.mono hb)
    go_wp2_with (go_at_call 37; refine (jNeed_no r s at_ _ _ h1.out (by decide)).mono ?_; rintro e w2 ⟨⟨v, hv, rfl⟩, rfl⟩)
    trace_state
    exact ⟨rfl, ⟨hb.os, hb.tape, hb.output, hb.size, fun j hj _ => hb.block j hj⟩, .inr ⟨hp, v, hv, rfl⟩⟩

end Go.Proofs.YtjcaejdokillgaaDoor

namespace Go.Proofs.YtjcaejdokillgaaDoor
open Go.RowKit Go.Shelf
attribute [local simp] mk_get

set_option maxRecDepth 100000 in
set_option maxHeartbeats 4000000 in
theorem jParsed_any (r : Nat) (s : List UInt8) (at_ : Int) (l : List (List UInt8)) (vl : Value) (w : World) (h : Rd w r s at_) (hv : Strs w vl l) (hl : l.length ≤ 1000000) :
    Calls Tryd.prog 73 #[.pointer (some ⟨r, 0, none⟩), vl] w fun e w' => Below w.heap.size w w' ∧
      ((l.all PR.numOk = true ∧ ∃ v, e = .returned v ∧ OwnI w' w.heap.size v (l.map PR.numV)) ∨ (l.all PR.numOk = false ∧ flt e)) := by
  have HR := Lib.hid h
  obtain ⟨ao, cap, rfl, hi1, hi2, hi3⟩ := hv.open_
  have HI := Lib.hid hi3
  clear hi3 hv h
  go_enter Tryd.func73, Tryd.ntmps73
  go_wp2_with fail
  go_loopg [5, 12] l.length (fun gg s5 s12 wr => ∃ k : Nat, k ≤ l.length ∧ l.length - k ≤ gg ∧ s12 = .int .i64 k ∧ Hid (Below w.heap.size w wr) ∧ Hid ((l.take k).all PR.numOk = true) ∧ Aside (wr.ownsRow w.heap.size 3 1 s5 k (((l.take k).map PR.numV).map (Value.int .i64))))
  case atStart => exact ⟨0, Nat.zero_le _, by omega, rfl, Below.refl _ _, rfl, World.ownsRow_nil _ _ _ _⟩
  case round =>
    obtain ⟨k, hk, hg, rfl, hbr, hall, hown⟩ := hrel
    by_cases hlt : k < l.length
    · obtain ⟨b', off, rfl, hbs, hry, hc⟩ := HI.out k hlt
      have hmea : ∀ g : Nat, l.length - k ≤ g → l.length - (k + 1) < g := fun g h => by omega
      have hc := (hbr.out.cell hbs).trans hc
      have hstep : Hid (((l.take (k + 1)).map PR.numV).map (Value.int .i64) = ((l.take k).map PR.numV).map (Value.int .i64) ++ [Value.int .i64 (P01.parse l[k]).1]) := by
        show _ = _
        rw [List.take_succ_eq_append_getElem hlt]
        simp only [List.map_append, List.map_cons, List.map_nil]
        rfl
      have hltz : (k : Int) < (l.length : Int) := by omega
      have hkk : k ≤ 1000000 := by omega
      have hRw := HR.out.mono hbr.out
      by_cases hok : PR.numOk l[k] = true
      · have hnx : Hid ((l.take (k + 1)).all PR.numOk = true) := by
          show _ = _
          rw [List.take_succ_eq_append_getElem hlt, List.all_append, hall.out]
          simpa using hok
        obtain ⟨q1, q2⟩ := PR.numOk_iff.1 hok
        clear hok
        generalize l[k] = y at *
        have hP := Lib.hid (Parse_any y wr hry)
        generalize (P01.parse y).1 = z at *
        generalize (P01.parse y).2 = z2 at *
        subst q1
        clear hry
        have HRw := Lib.hid hRw
        clear hRw
        go_wp2_with (first | (go_at_call 95; refine hP.out.mono ?_; rintro e w2 ⟨rfl, hb2⟩; have hown2 := owns_below' hown.out hb2; have hbb := Below.of hbr.out hb2) | (go_at_call 37; refine (jNeed_ok _ _ _).mono ?_; rintro e w3 ⟨rfl, rfl⟩) | (at_builtin; refine app_new rfl _ _ 22 rfl 3 1 8 _ Tryd.underlying22 infoI' rfl (by decide) (w0 := w) (B0 := w.heap.size) rfl hown2 hbb (Nat.le_refl _) hbb.size _ 1 1 rfl (by intro u hu; simp at hu; subst hu; rfl) rfl (by omega) (by omega) ?_; intro v4 w4 hown4 hb4 hbs4 hgr4))
        go_roundg (l.length - (k + 1))
        case measure => exact hmea _ hg
        case rel =>
          refine ⟨k + 1, by omega, by omega, by go_num, hb4, hnx, ?_⟩
          rw [hstep.out]
          exact hown4
      · have hnot : Hid (l.all PR.numOk = false) := by
          show _ = _
          rw [Bool.eq_false_iff]
          intro ha
          exact hok (List.all_eq_true.1 ha _ (List.getElem_mem hlt))
        have hno : (decide ((P01.parse l[k]).2 = 0) && decide (0 ≤ (P01.parse l[k]).1)) = false := by
          unfold PR.numOk at hok
          simpa using hok
        clear hok hstep
        generalize l[k] = y at *
        have hP := Lib.hid (Parse_any y wr hry)
        generalize (P01.parse y).1 = z at *
        generalize (P01.parse y).2 = z2 at *
        clear hry
        have HRw := Lib.hid hRw
        clear hRw
        by_cases e0 : z2 = 0
        · subst e0
          have hz : decide (0 ≤ z) = false := by simpa using hno
          clear hno
          go_wp2_with (first | (go_at_call 95; refine hP.out.mono ?_; rintro e w2 ⟨rfl, hb2⟩; have hR2 := Lib.hid (HRw.out.mono hb2); have hbb := Lib.hid (Below.of hbr.out hb2)) | (go_at_call 37; refine (jNeed_no r s at_ _ _ hR2.out (by decide)).mono ?_; rintro e w3 ⟨⟨fv, hfv, rfl⟩, rfl⟩))
          exact ⟨rfl, hbb.out, .inr ⟨hnot.out, fv, hfv, rfl⟩⟩
        · clear hno
          go_wp2_with (first | (go_at_call 95; refine hP.out.mono ?_; rintro e w2 ⟨rfl, hb2⟩; have hR2 := Lib.hid (HRw.out.mono hb2); have hbb := Lib.hid (Below.of hbr.out hb2)) | (go_at_call 37; refine (jNeed_no r s at_ _ _ hR2.out (by decide)).mono ?_; rintro e w3 ⟨⟨fv, hfv, rfl⟩, rfl⟩))
          exact ⟨rfl, hbb.out, .inr ⟨hnot.out, fv, hfv, rfl⟩⟩
    · have hltz : ¬ (k : Int) < (l.length : Int) := by omega
      obtain rfl : k = l.length := by omega
      have hOut : Hid (l.all PR.numOk = true ∧ OwnI wr w.heap.size u5 (l.map PR.numV)) := by
        have ha := hall.out
        have ho := hown.out
        rw [List.take_length] at ha ho
        refine ⟨ha, by simpa using ho, fun x hx => ?_⟩
        obtain ⟨y, hy, rfl⟩ := List.mem_map.1 hx
        have := PR.numV_rng (List.all_eq_true.1 ha y hy)
        unfold rng; omega
      clear hown hg hk hlt
      go_wp2_with fail
      go_ret
      exact ⟨hbr.out, .inl ⟨by first | exact hOut.out.1 | exact List.all_eq_true.1 hOut.out.1, _, rfl, hOut.out.2⟩⟩

end Go.Proofs.YtjcaejdokillgaaDoor

namespace Go.Proofs.YtjcaejdokillgaaDoor
open Go.RowKit Go.Shelf
attribute [local simp] mk_get

theorem splitB_cut (c : UInt8) (s : List UInt8) : (Lib.splitB ⟨#[c]⟩ 0 (Lib.countB ⟨s.toArray⟩ ⟨#[c]⟩) ⟨s.toArray⟩) = (PS.cut c s).map fun l => ⟨l.toArray⟩ := by
  have h := Lib.splitB_data ⟨#[c]⟩ 0 (Lib.countB ⟨s.toArray⟩ ⟨#[c]⟩) ⟨s.toArray⟩
  have e : Lib.countB ⟨s.toArray⟩ ⟨#[c]⟩ = Lib.count s [c] := by simp [Lib.countB]
  rw [e] at h ⊢
  have h2 : (Lib.splitB ⟨#[c]⟩ 0 (Lib.count s [c]) ⟨s.toArray⟩).map (·.data.toList) = PS.cut c s := by
    rw [h]
    exact PS.splitK_cut c s
  rw [← h2, List.map_map]
  symm
  rw [List.map_congr_left (g := id) (fun x _ => by cases x; simp [Function.comp]), List.map_id]

/-- strings.Split at one octet -/
theorem Split_strs (c : UInt8) (s : List UInt8) (m : Int) (w : World) (hs : s.length ≤ 1048576) (hm : w.cell? ⟨0, 0, none⟩ = some (.int .i64 m)) :
    Calls Tryd.prog 71 #[.string ⟨s.toArray⟩, .string ⟨#[c]⟩] w fun e w' => ∃ g, e = .returned (.slice (some ⟨g, 0, none⟩) (PS.cut c s).length (PS.cut c s).length) ∧
      Strs w' (.slice (some ⟨g, 0, none⟩) (PS.cut c s).length (PS.cut c s).length) (PS.cut c s) ∧ Below w.heap.size w w' := by
  have hsz : (ByteArray.mk s.toArray).size = s.length := by simp [ByteArray.size]
  have h := Tryd.strings_Split ⟨s.toArray⟩ ⟨#[c]⟩ m w (by omega) hm (Nat.le_refl 1)
  have hl := Lib.splitB_all ⟨#[c]⟩ (Nat.le_refl 1) 0 _ ⟨s.toArray⟩ rfl
  rw [splitB_cut, List.length_map] at hl
  rw [splitB_cut, List.map_map, ← hl] at h
  refine h.mono ?_
  rintro e w' ⟨rfl, rfl⟩
  have hcl := PS.cut_len c s
  refine ⟨_, rfl, ⟨⟨_, _, rfl, Nat.le_refl _, by omega, fun h => (by cases h), by simp, fun j hj => ⟨w.heap.size, 0, rfl, by simp, ?_⟩⟩, fun t ht => ?_⟩, (Below.refl _ _).alloc (Nat.le_refl _) _⟩
  · rw [World.cell?_alloc_mark]
    simp at hj
    simp [hj]
  · have := PS.cut_piece c s t ht
    omega

theorem jLine_some (r : Nat) (s p q : List UInt8) (at_ m : Int) (w : World) (h : Rd w r s at_) (hs : s.length ≤ 65536) (hm : w.cell? ⟨0, 0, none⟩ = some (.int .i64 m)) (hp : PR.at1 10 s = some (p, q)) :
    Calls Tryd.prog 72 #[.pointer (some ⟨r, 0, none⟩)] w fun e w' => e = .returned (.string ⟨p.toArray⟩) ∧ Rd w' r q at_ ∧ w.grownBy w' (some r) := by
  refine (jLine_any r s at_ m w h hs hm).mono ?_
  rintro e w' ⟨hg, ⟨p', q', h1, rfl, h2⟩ | ⟨h1, _⟩⟩
  · rw [hp] at h1
    obtain ⟨rfl, rfl⟩ := Prod.mk.inj (Option.some.inj h1)
    exact ⟨rfl, h2, hg⟩
  · rw [hp] at h1; cases h1
theorem jLine_none (r : Nat) (s : List UInt8) (at_ m : Int) (w : World) (h : Rd w r s at_) (hs : s.length ≤ 65536) (hm : w.cell? ⟨0, 0, none⟩ = some (.int .i64 m)) (hp : PR.at1 10 s = none) :
    Calls Tryd.prog 72 #[.pointer (some ⟨r, 0, none⟩)] w fun e w' => flt e ∧ w.grownBy w' (some r) := by
  refine (jLine_any r s at_ m w h hs hm).mono ?_
  rintro e w' ⟨hg, ⟨p', q', h1, rfl, h2⟩ | ⟨h1, hf⟩⟩
  · rw [hp] at h1; cases h1
  · exact ⟨hf, hg⟩
theorem jParsed_ok (r : Nat) (s : List UInt8) (at_ : Int) (l : List (List UInt8)) (vl : Value) (w : World) (h : Rd w r s at_) (hv : Strs w vl l) (hl : l.length ≤ 1000000) (ha : l.all PR.numOk = true) :
    Calls Tryd.prog 73 #[.pointer (some ⟨r, 0, none⟩), vl] w fun e w' => ∃ v, e = .returned v ∧ OwnI w' w.heap.size v (l.map PR.numV) ∧ Below w.heap.size w w' := by
  refine (jParsed_any r s at_ l vl w h hv hl).mono ?_
  rintro e w' ⟨hb, ⟨_, v, rfl, h2⟩ | ⟨h1, _⟩⟩
  · exact ⟨v, rfl, h2, hb⟩
  · rw [ha] at h1; cases h1
theorem jParsed_no (r : Nat) (s : List UInt8) (at_ : Int) (l : List (List UInt8)) (vl : Value) (w : World) (h : Rd w r s at_) (hv : Strs w vl l) (hl : l.length ≤ 1000000) (ha : l.all PR.numOk = false) :
    Calls Tryd.prog 73 #[.pointer (some ⟨r, 0, none⟩), vl] w fun e w' => flt e ∧ Below w.heap.size w w' := by
  refine (jParsed_any r s at_ l vl w h hv hl).mono ?_
  rintro e w' ⟨hb, ⟨h1, v, rfl, h2⟩ | ⟨_, hf⟩⟩
  · rw [ha] at h1; cases h1
  · exact ⟨hf, hb⟩

theorem lineN_at {ahead : List UInt8} {a b : Nat} {s p q : List UInt8} (hp : PR.at1 10 s = some (p, q)) : PR.lineN ahead a b s = if PR.lineOk ahead a b (PS.cut 32 p) = true then some ((PR.body ahead (PS.cut 32 p)).map PR.numV, q) else none := by
  unfold PR.lineN
  rw [hp]
theorem lineN_not {ahead : List UInt8} {a b : Nat} {s : List UInt8} (hp : PR.at1 10 s = none) : PR.lineN ahead a b s = none := by
  unfold PR.lineN
  rw [hp]

/-- what a line's numbers leave -/
def NumsTo (ahead : List UInt8) (a b : Nat) (r : Nat) (s : List UInt8) (at_ : Int) (w : World) (e : Ending) (w' : World) : Prop :=
  w.grownBy w' (some r) ∧ ((∃ l q v, PR.lineN ahead a b s = some (l, q) ∧ e = .returned v ∧ OwnI w' w.heap.size v l ∧ Rd w' r q (at_ + 1)) ∨ (PR.lineN ahead a b s = none ∧ flt e))

theorem grown_b {w a b : World} {r : Nat} (h : w.grownBy a (some r)) (k : Below a.heap.size a b) : w.grownBy b (some r) := grownBy_below h k

set_option maxRecDepth 100000 in
set_option maxHeartbeats 4000000 in
theorem jNumbers_any (a b : Nat) (r : Nat) (s : List UInt8) (at_ m : Int) (w : World) (h : Rd w r s at_) (hs : s.length ≤ 65536) (hm : w.cell? ⟨0, 0, none⟩ = some (.int .i64 m)) (hr0 : r ≠ 0) (hat : -1000000 ≤ at_ ∧ at_ ≤ 1000000) (_hab : a ≤ 100 ∧ b ≤ 100) :
    Calls Tryd.prog 74 #[.pointer (some ⟨r, 0, none⟩), .int .i64 a, .int .i64 b] w fun e w' => NumsTo [] a b r s at_ w e w' := by
  obtain ⟨ha1, ha2⟩ := hat
  cases hp : PR.at1 10 s with
  | none =>
    have hL := Lib.hid (jLine_none r s at_ m w h hs hm hp)
    have hn := Lib.hid (lineN_not (ahead := []) (a := a) (b := b) hp)
    clear h hp
    go_enter Tryd.func74, Tryd.ntmps74
    go_wp2_with (go_at_call 72; refine hL.out.mono ?_; rintro e w1 ⟨⟨v, hv, rfl⟩, hg⟩)
    exact ⟨rfl, hg, .inr ⟨hn.out, v, hv, rfl⟩⟩
  | some x =>
    obtain ⟨p, q⟩ := x
    have hL := Lib.hid (jLine_some r s p q at_ m w h hs hm hp)
    have hn := Lib.hid (lineN_at (ahead := []) (a := a) (b := b) hp)
    have hpl := PR.at1_lt hp
    have hcl := PS.cut_len 32 p
    have hS := Lib.hid fun (y : World) (hy : y.cell? ⟨0, 0, none⟩ = some (.int .i64 m)) => Split_strs 32 p m y (by omega) hy
    have hok : Hid (PR.lineOk [] a b (PS.cut 32 p) = (decide (a ≤ (PS.cut 32 p).length) && decide ((PS.cut 32 p).length ≤ b) && (PS.cut 32 p).all PR.numOk)) := by
      show _ = _
      unfold PR.lineOk PR.body
      simp
    have hbody : Hid (PR.body [] (PS.cut 32 p) = PS.cut 32 p) := by show _ = _; unfold PR.body; simp
    generalize PS.cut 32 p = L at *
    have hLl : L.length ≤ 70000 := by omega
    clear h hp hpl hcl
    by_cases h1 : a ≤ L.length
    · by_cases h2 : L.length ≤ b
      · have e1 : (a : Int) ≤ (L.length : Int) := by omega
        have e2 : (L.length : Int) ≤ (b : Int) := by omega
        by_cases h3 : L.all PR.numOk = true
        · have hres : Hid (PR.lineN [] a b s = some (L.map PR.numV, q)) := by
            show _ = _
            rw [hn.out, hok.out, hbody.out, if_pos (by simp only [h1, h2, h3, decide_true, Bool.and_self])]
          have h3 := Lib.hid h3
          clear hn hok hbody
          go_enter Tryd.func74, Tryd.ntmps74
          go_wp2_with (first | (go_at_call 72; refine hL.out.mono ?_; rintro e w1 ⟨rfl, hR1, hg1⟩; have hR1 := Lib.hid hR1; have hS1 := Lib.hid (hS.out w1 (grownBy_cell hg1 hm (Ne.symm hr0)))) | (go_at_call 71; refine hS1.out.mono ?_; rintro e w2 ⟨g, rfl, hst, hb2⟩; have hst := Lib.hid hst; have hR2 := Lib.hid (hR1.out.mono hb2); have gg := Lib.hid (grown_b hg1 hb2)) | (go_at_call 37; refine (jNeed_ok _ _ _).mono ?_; rintro e w3 ⟨rfl, rfl⟩) | (go_at_call 73; refine (jParsed_ok r q at_ L _ _ hR2.out hst.out (by omega) h3.out).mono ?_; rintro e w4 ⟨v, rfl, hv, hb4⟩; have hR4 := Lib.hid (hR2.out.mono hb4); have d1 := hR4.out.cell 1 _ rfl; have f1 := hR4.out.frozen 1; have gg4 := Lib.hid (grown_b hg1 (Below.of hb2 hb4)); have hv := Lib.hid (hv.base (Nat.le_trans hg1.size hb2.size))))
          go_ret
          exact ⟨grownBy_two gg4.out (set_grown' w4 r 1 _) (fun j e => .inr (Option.some.inj e).symm), .inl ⟨_, q, v, hres.out, rfl, hv.out.kept (set_grown' w4 r 1 _) hR4.out (by decide), hR4.out.set 1 _⟩⟩
        · have hres : Hid (PR.lineN [] a b s = none) := by
            show _ = _
            rw [hn.out, hok.out, if_neg (by simp only [h3, Bool.and_false]; simp)]
          have h3 : Hid (L.all PR.numOk = false) := Bool.eq_false_iff.2 h3
          clear hn hok hbody
          go_enter Tryd.func74, Tryd.ntmps74
          go_wp2_with (first | (go_at_call 72; refine hL.out.mono ?_; rintro e w1 ⟨rfl, hR1, hg1⟩; have hR1 := Lib.hid hR1; have hS1 := Lib.hid (hS.out w1 (grownBy_cell hg1 hm (Ne.symm hr0)))) | (go_at_call 71; refine hS1.out.mono ?_; rintro e w2 ⟨g, rfl, hst, hb2⟩; have hst := Lib.hid hst; have hR2 := Lib.hid (hR1.out.mono hb2); have gg := Lib.hid (grown_b hg1 hb2)) | (go_at_call 37; refine (jNeed_ok _ _ _).mono ?_; rintro e w3 ⟨rfl, rfl⟩) | (go_at_call 73; refine (jParsed_no r q at_ L _ _ hR2.out hst.out (by omega) h3.out).mono ?_; rintro e w4 ⟨⟨fv, hfv, rfl⟩, hb4⟩; have gg4 := Lib.hid (grown_b hg1 (Below.of hb2 hb4))))
          exact ⟨rfl, gg4.out, .inr ⟨hres.out, fv, hfv, rfl⟩⟩
      · have e1 : (a : Int) ≤ (L.length : Int) := by omega
        have e2 : ¬ (L.length : Int) ≤ (b : Int) := by omega
        have e2 : decide ((L.length : Int) ≤ (b : Int)) = false := decide_eq_false e2
        have hres : Hid (PR.lineN [] a b s = none) := by
          show _ = _
          rw [hn.out, hok.out, if_neg (by simp only [h2, decide_false, Bool.and_false, Bool.false_and]; simp)]
        clear hn hok hbody
        go_enter Tryd.func74, Tryd.ntmps74
        go_wp2_with (first | (go_at_call 72; refine hL.out.mono ?_; rintro e w1 ⟨rfl, hR1, hg1⟩; have hR1 := Lib.hid hR1; have hS1 := Lib.hid (hS.out w1 (grownBy_cell hg1 hm (Ne.symm hr0)))) | (go_at_call 71; refine hS1.out.mono ?_; rintro e w2 ⟨g, rfl, hst, hb2⟩; have hst := Lib.hid hst; have hR2 := Lib.hid (hR1.out.mono hb2); have gg := Lib.hid (grown_b hg1 hb2)) | (go_at_call 37; refine (jNeed_no r q at_ _ _ hR2.out (by decide)).mono ?_; rintro e w3 ⟨⟨fv, hfv, rfl⟩, rfl⟩))
        exact ⟨rfl, gg.out, .inr ⟨hres.out, fv, hfv, rfl⟩⟩
    · have e1 : decide ((a : Int) ≤ (L.length : Int)) = false := decide_eq_false (by omega)
      have hres : Hid (PR.lineN [] a b s = none) := by
        show _ = _
        rw [hn.out, hok.out, if_neg (by simp only [h1, decide_false, Bool.false_and]; simp)]
      clear hn hok hbody
      go_enter Tryd.func74, Tryd.ntmps74
      go_wp2_with (first | (go_at_call 72; refine hL.out.mono ?_; rintro e w1 ⟨rfl, hR1, hg1⟩; have hR1 := Lib.hid hR1; have hS1 := Lib.hid (hS.out w1 (grownBy_cell hg1 hm (Ne.symm hr0)))) | (go_at_call 71; refine hS1.out.mono ?_; rintro e w2 ⟨g, rfl, hst, hb2⟩; have hst := Lib.hid hst; have hR2 := Lib.hid (hR1.out.mono hb2); have gg := Lib.hid (grown_b hg1 hb2)) | (go_at_call 37; refine (jNeed_no r q at_ _ _ hR2.out (by decide)).mono ?_; rintro e w3 ⟨⟨fv, hfv, rfl⟩, rfl⟩))
      exact ⟨rfl, gg.out, .inr ⟨hres.out, fv, hfv, rfl⟩⟩

end Go.Proofs.YtjcaejdokillgaaDoor

namespace Go.Proofs.YtjcaejdokillgaaDoor
open Go.RowKit Go.Shelf
attribute [local simp] mk_get

theorem Strs.tail {w : World} {g n : Nat} {x0 : List UInt8} {R : List (List UInt8)} (h : Strs w (.slice (some ⟨g, 0, none⟩) (n + 1) (n + 1)) (x0 :: R)) (hn : R.length = n) :
    w.cell? ⟨g, 0, none⟩ = some (.string ⟨x0.toArray⟩) ∧ Strs w (.slice (some ⟨g, 1, none⟩) n n) R := by
  subst hn
  obtain ⟨⟨ao, cap, e, h1, h2, h3, h4, h5⟩, hl⟩ := h
  cases e
  refine ⟨?_, ⟨⟨some ⟨g, 1, none⟩, R.length, rfl, Nat.le_refl _, by omega, (fun h => by cases h), by simp, fun j hj => ?_⟩, fun t ht => hl t (by simp [ht])⟩⟩
  · obtain ⟨b, o, e, _, hc⟩ := h5 0 (by simp)
    cases e
    simpa using hc
  · obtain ⟨b, o, e, hb, hc⟩ := h5 (j + 1) (by simpa using hj)
    cases e
    refine ⟨g, 1, rfl, hb, ?_⟩
    rw [show 1 + j = 0 + (j + 1) by omega, hc]
    simp

theorem Split8 (s : List UInt8) (m : Int) (x0 : List UInt8) (R : List (List UInt8)) (n : Nat) (hL : PS.cut 32 s = x0 :: R) (hn : R.length = n) (w : World) (hs : s.length ≤ 1048576) (hm : w.cell? ⟨0, 0, none⟩ = some (.int .i64 m)) :
    Calls Tryd.prog 71 #[.string ⟨s.toArray⟩, .string ⟨#[32]⟩] w fun e w' => ∃ g, e = .returned (.slice (some ⟨g, 0, none⟩) ((n + 1 : Nat)) (n + 1)) ∧ w'.cell? ⟨g, 0, none⟩ = some (.string ⟨x0.toArray⟩) ∧
      Strs w' (.slice (some ⟨g, 1, none⟩) n n) R ∧ Below w.heap.size w w' := by
  refine (Split_strs 32 s m w hs hm).mono ?_
  rintro e w' ⟨g, rfl, h, hb⟩
  rw [hL] at h ⊢
  rw [List.length_cons, hn] at h ⊢
  obtain ⟨h1, h2⟩ := h.tail hn
  exact ⟨g, rfl, h1, h2, hb⟩

set_option maxRecDepth 100000 in
set_option maxHeartbeats 4000000 in
theorem jHead_any (r : Nat) (s : List UInt8) (at_ m : Int) (w : World) (h : Rd w r s at_) (hs : s.length ≤ 65536) (hm : w.cell? ⟨0, 0, none⟩ = some (.int .i64 m)) (hr0 : r ≠ 0) (hat : -1000000 ≤ at_ ∧ at_ ≤ 1000000) :
    Calls Tryd.prog 32 #[.pointer (some ⟨r, 0, none⟩)] w fun e w' => NumsTo PJ.hW 7 7 r s at_ w e w' := by
  obtain ⟨ha1, ha2⟩ := hat
  cases hp : PR.at1 10 s with
  | none =>
    have hL := Lib.hid (jLine_none r s at_ m w h hs hm hp)
    have hn := Lib.hid (lineN_not (ahead := PJ.hW) (a := 7) (b := 7) hp)
    clear h hp
    go_enter Tryd.func32, Tryd.ntmps32
    go_wp2_with (go_at_call 72; refine hL.out.mono ?_; rintro e w1 ⟨⟨v, hv, rfl⟩, hg⟩)
    exact ⟨rfl, hg, .inr ⟨hn.out, v, hv, rfl⟩⟩
  | some x =>
    obtain ⟨p, q⟩ := x
    have hL := Lib.hid (jLine_some r s p q at_ m w h hs hm hp)
    have hn := Lib.hid (lineN_at (ahead := PJ.hW) (a := 7) (b := 7) hp)
    have hpl := PR.at1_lt hp
    have hcl := PS.cut_len 32 p
    obtain ⟨x0, R, hxR⟩ : ∃ x0 R, PS.cut 32 p = x0 :: R := by
      cases hc : PS.cut 32 p with
      | nil => exact absurd hc (PS.cut_ne 32 p)
      | cons a b => exact ⟨a, b, rfl⟩
    have hok : Hid (PR.lineOk PJ.hW 7 7 (PS.cut 32 p) = ((x0 == PJ.hW) && decide (R.length = 7) && R.all PR.numOk)) := by
      show _ = _
      rw [hxR]
      unfold PR.lineOk PR.body
      rw [Bool.eq_iff_iff]
      simp only [PJ.hW, List.isEmpty_cons, Bool.false_or, List.headD_cons, List.drop_succ_cons, List.drop_zero, Bool.and_eq_true, decide_eq_true_eq, beq_iff_eq]
      rw [if_neg (by decide)]
      constructor
      · rintro ⟨⟨⟨h1, h2⟩, h3⟩, h4⟩
        exact ⟨⟨h1, by omega⟩, h4⟩
      · rintro ⟨⟨h1, h2⟩, h3⟩
        exact ⟨⟨⟨h1, by omega⟩, by omega⟩, h3⟩
    have hbody : Hid (PR.body PJ.hW (PS.cut 32 p) = R) := by
      show _ = _
      rw [hxR]
      unfold PR.body
      rw [if_neg (by decide)]
      rfl
    by_cases h1 : R.length = 7
    · have hS := Lib.hid fun (y : World) (hy : y.cell? ⟨0, 0, none⟩ = some (.int .i64 m)) => Split8 p m x0 R 7 hxR h1 y (by omega) hy
      by_cases h2 : x0 = [97, 97, 103]
      · subst h2
        by_cases h3 : R.all PR.numOk = true
        · have hres : Hid (PR.lineN PJ.hW 7 7 s = some (R.map PR.numV, q)) := by
            show _ = _
            rw [hn.out, hok.out, hbody.out, if_pos (by rw [h3, h1]; rfl)]
          have h3 := Lib.hid h3
          have hR7 := Lib.hid h1
          clear hn hok hbody hxR hpl hcl hp h h1
          go_enter Tryd.func32, Tryd.ntmps32
          go_wp2_with (first | (go_at_call 72; refine hL.out.mono ?_; rintro e w1 ⟨rfl, hR1, hg1⟩; have hR1 := Lib.hid hR1; have hS1 := Lib.hid (hS.out w1 (grownBy_cell hg1 hm (Ne.symm hr0)))) | (go_at_call 71; refine hS1.out.mono ?_; rintro e w2 ⟨g, rfl, hc0, hst, hb2⟩; have hst := Lib.hid hst; have hR2 := Lib.hid (hR1.out.mono hb2); have gg := Lib.hid (grown_b hg1 hb2)) | (go_at_call 37; refine (jNeed_ok _ _ _).mono ?_; rintro e w3 ⟨rfl, rfl⟩) | (go_at_call 73; refine (jParsed_ok r q at_ R _ _ hR2.out hst.out (by rw [hR7.out]; decide) h3.out).mono ?_; rintro e w4 ⟨v, rfl, hv, hb4⟩; have hR4 := Lib.hid (hR2.out.mono hb4); have d1 := hR4.out.cell 1 _ rfl; have f1 := hR4.out.frozen 1; have gg4 := Lib.hid (grown_b hg1 (Below.of hb2 hb4)); have hv := Lib.hid (hv.base (Nat.le_trans hg1.size hb2.size))))
          go_ret
          exact ⟨grownBy_two gg4.out (set_grown' w4 r 1 _) (fun j e => .inr (Option.some.inj e).symm), .inl ⟨_, q, v, hres.out, rfl, hv.out.kept (set_grown' w4 r 1 _) hR4.out (by decide), hR4.out.set 1 _⟩⟩
        · have hres : Hid (PR.lineN PJ.hW 7 7 s = none) := by
            show _ = _
            rw [hn.out, hok.out, if_neg (by simp only [h3, Bool.and_false]; simp)]
          have h3 : Hid (R.all PR.numOk = false) := Bool.eq_false_iff.2 h3
          have hR7 := Lib.hid h1
          clear hn hok hbody hxR hpl hcl hp h h1
          go_enter Tryd.func32, Tryd.ntmps32
          go_wp2_with (first | (go_at_call 72; refine hL.out.mono ?_; rintro e w1 ⟨rfl, hR1, hg1⟩; have hR1 := Lib.hid hR1; have hS1 := Lib.hid (hS.out w1 (grownBy_cell hg1 hm (Ne.symm hr0)))) | (go_at_call 71; refine hS1.out.mono ?_; rintro e w2 ⟨g, rfl, hc0, hst, hb2⟩; have hst := Lib.hid hst; have hR2 := Lib.hid (hR1.out.mono hb2); have gg := Lib.hid (grown_b hg1 hb2)) | (go_at_call 37; refine (jNeed_ok _ _ _).mono ?_; rintro e w3 ⟨rfl, rfl⟩) | (go_at_call 73; refine (jParsed_no r q at_ R _ _ hR2.out hst.out (by rw [hR7.out]; decide) h3.out).mono ?_; rintro e w4 ⟨⟨fv, hfv, rfl⟩, hb4⟩; have gg4 := Lib.hid (grown_b hg1 (Below.of hb2 hb4))))
          exact ⟨rfl, gg4.out, .inr ⟨hres.out, fv, hfv, rfl⟩⟩
      · have e0 : (x0 == [97, 97, 103]) = false := beq_eq_false_iff_ne.2 h2
        have e0n : ¬ x0.toArray = #[97, 97, 103] := fun h => h2 (by have := congrArg Array.toList h; simpa using this)
        have hres : Hid (PR.lineN PJ.hW 7 7 s = none) := by
          show _ = _
          rw [hn.out, hok.out, if_neg (by rw [e0]; simp)]
        clear hn hok hbody hxR hpl hcl hp h h1 h2
        go_enter Tryd.func32, Tryd.ntmps32
        go_wp2_with (first | (go_at_call 72; refine hL.out.mono ?_; rintro e w1 ⟨rfl, hR1, hg1⟩; have hR1 := Lib.hid hR1; have hS1 := Lib.hid (hS.out w1 (grownBy_cell hg1 hm (Ne.symm hr0)))) | (go_at_call 71; refine hS1.out.mono ?_; rintro e w2 ⟨g, rfl, hc0, hst, hb2⟩; have hst := Lib.hid hst; have hR2 := Lib.hid (hR1.out.mono hb2); have gg := Lib.hid (grown_b hg1 hb2)) | (go_at_call 37; refine (jNeed_no r q at_ _ _ hR2.out (by decide)).mono ?_; rintro e w3 ⟨⟨fv, hfv, rfl⟩, rfl⟩))
        exact ⟨rfl, gg.out, .inr ⟨hres.out, fv, hfv, rfl⟩⟩
    · have hS := Lib.hid fun (y : World) (hy : y.cell? ⟨0, 0, none⟩ = some (.int .i64 m)) => Split_strs 32 p m y (by omega) hy
      have hres : Hid (PR.lineN PJ.hW 7 7 s = none) := by
        show _ = _
        rw [hn.out, hok.out, if_neg (by rw [decide_eq_false h1]; simp)]
      rw [hxR] at hS
      rw [List.length_cons] at hS
      have e1 : decide (((R.length + 1 : Nat) : Int) = 8) = false := decide_eq_false (by omega)
      have e2 : ¬ ((R.length + 1 : Nat) : Int) = 8 := by omega
      have e3 : (((R.length + 1 : Nat) : Int) == 8) = false := by simpa using e2
      have e4 : ¬ R.length + 1 = 8 := by omega
      generalize R.length + 1 = N at *
      clear hn hok hbody hxR hpl hcl hp h h1
      go_enter Tryd.func32, Tryd.ntmps32
      go_wp2_with (first | (go_at_call 72; refine hL.out.mono ?_; rintro e w1 ⟨rfl, hR1, hg1⟩; have hR1 := Lib.hid hR1; have hS1 := Lib.hid (hS.out w1 (grownBy_cell hg1 hm (Ne.symm hr0)))) | (go_at_call 71; refine hS1.out.mono ?_; rintro e w2 ⟨g, rfl, hst, hb2⟩; have hst := Lib.hid hst; have hR2 := Lib.hid (hR1.out.mono hb2); have gg := Lib.hid (grown_b hg1 hb2)) | (go_at_call 37; refine (jNeed_no r q at_ _ _ hR2.out (by decide)).mono ?_; rintro e w3 ⟨⟨fv, hfv, rfl⟩, rfl⟩))
      exact ⟨rfl, gg.out, .inr ⟨hres.out, fv, hfv, rfl⟩⟩

end Go.Proofs.YtjcaejdokillgaaDoor
