/- Contract: the program's names. -/
import Derived.Test.YtjcaejdokillgaaDoorZC1
import Derived.Test.YtjcaejdokillgaaDoorZWalkF
import Derived.Test.YtjcaejdokillgaaDoorZR1
import Derived.Lib.Bytealg
import Derived.Laws.Externs
namespace Go.Proofs.YtjcaejdokillgaaDoor
open Go.RowKit Go.Shelf
attribute [local simp] mk_get

theorem run_ib (s : ByteArray) (c : Int) (w : World) : (callFunc 139 #[.string s, .int .u8 c]).run Tryd.prog w = .ok (.value (.int .i64 (Lib.indexByte s.data.toList c.toNat.toUInt8))) w := by
  rw [run_callFunc_extern Tryd.func139 (by kernel_rfl) (by kernel_rfl) (by kernel_rfl) (e := Extern.BytealgIndexByte.indexByte) (by kernel_rfl), Lib.run_indexByteString]
  rfl

theorem kinds_index (c : UInt8) : Lib.indexByte [105, 108, 111, 98, 99] c = PC.rank [c] := by
  unfold PC.rank
  by_cases h1 : c = 105
  · subst h1; decide
  by_cases h2 : c = 108
  · subst h2; decide
  by_cases h3 : c = 111
  · subst h3; decide
  by_cases h4 : c = 98
  · subst h4; decide
  by_cases h5 : c = 99
  · subst h5; decide
  have b1 : ((105 : UInt8) == c) = false := by simpa using fun e => h1 e.symm
  have b2 : ((108 : UInt8) == c) = false := by simpa using fun e => h2 e.symm
  have b3 : ((111 : UInt8) == c) = false := by simpa using fun e => h3 e.symm
  have b4 : ((98 : UInt8) == c) = false := by simpa using fun e => h4 e.symm
  have b5 : ((99 : UInt8) == c) = false := by simpa using fun e => h5 e.symm
  simp [Lib.indexByte, h1, h2, h3, h4, h5, b1, b2, b3, b4, b5]

set_option maxRecDepth 100000 in
set_option maxHeartbeats 1000000 in
theorem slIndex_one (c : UInt8) (w : World) : Calls Tryd.prog 108 #[.string ⟨#[105, 108, 111, 98, 99]⟩, .string ⟨#[c]⟩] w fun e w' => e = .returned (.int .i64 (PC.rank [c])) ∧ w = w' := by
  have hib := run_ib ⟨#[105, 108, 111, 98, 99]⟩ (c.toNat : Int)
  have e : Lib.indexByte (ByteArray.mk #[105, 108, 111, 98, 99]).data.toList ((c.toNat : Int).toNat.toUInt8) = PC.rank [c] := by
    rw [show ((c.toNat : Int).toNat.toUInt8) = c from by simp]
    exact kinds_index c
  rw [e] at hib
  clear e
  generalize PC.rank [c] = R at *
  go_enter Tryd.func108, Tryd.ntmps108
  go_wp2
  go_ret
  exact ⟨rfl, rfl⟩

theorem sIndex_one (c : UInt8) (w : World) : Calls Tryd.prog 106 #[.string ⟨#[105, 108, 111, 98, 99]⟩, .string ⟨#[c]⟩] w fun e w' => e = .returned (.int .i64 (PC.rank [c])) ∧ w = w' := by
  go_enter Tryd.func106, Tryd.ntmps106
  go_wp2_with (go_at_call 108; refine (slIndex_one c _).mono ?_; rintro e w1 ⟨rfl, rfl⟩)
  go_ret
  exact ⟨rfl, rfl⟩

theorem sContains_one (c : UInt8) (w : World) : Calls Tryd.prog 75 #[.string ⟨#[105, 108, 111, 98, 99]⟩, .string ⟨#[c]⟩] w fun e w' => e = .returned (.bool (PC.kindsOk [c])) ∧ w = w' := by
  have e : PC.kindsOk [c] = decide (0 ≤ PC.rank [c]) := by
    unfold PC.rank PC.kindsOk
    by_cases h1 : ([c] : List UInt8) = [105]
    · simp [h1]
    by_cases h2 : ([c] : List UInt8) = [108]
    · simp [h2]
    by_cases h3 : ([c] : List UInt8) = [111]
    · simp [h3]
    by_cases h4 : ([c] : List UInt8) = [98]
    · simp [h4]
    by_cases h5 : ([c] : List UInt8) = [99]
    · simp [h5]
    simp only [h1, h2, h3, h4, h5, if_false, decide_false, Bool.or_false]
    decide
  rw [e]
  go_enter Tryd.func75, Tryd.ntmps75
  go_wp2_with (go_at_call 106; refine (sIndex_one c _).mono ?_; rintro e w1 ⟨rfl, rfl⟩)
  go_ret
  exact ⟨rfl, rfl⟩

def strange (c : UInt8) : Bool := decide ((c.toNat : Int) < 33) || decide (126 < (c.toNat : Int))

set_option maxHeartbeats 400000 in
theorem ctext1_pred (x : UInt8) (w : World) : Calls Tryd.prog 124 (#[.int .u8 (x.toNat : Int)] ++ #[]) w fun e w' => e = .returned (.bool (strange x)) ∧ w = w' := by
  rw [Array.append_empty]
  unfold strange
  by_cases h1 : (x.toNat : Int) < 33
  · go_enter Tryd.func124, Tryd.ntmps124
    go_wp2
    go_ret
    exact ⟨by simp [h1], rfl⟩
  · by_cases h2 : 126 < (x.toNat : Int)
    · go_enter Tryd.func124, Tryd.ntmps124
      go_wp2
      go_ret
      exact ⟨by simp, rfl⟩
    · go_enter Tryd.func124, Tryd.ntmps124
      go_wp2
      go_ret
      exact ⟨by simp [h1, h2], rfl⟩

theorem enters_ctext1 : ∀ args w, (callFunc 124 args).run Tryd.prog w = .ok (.enter 124 args) w := enters_of Tryd.func124 (by kernel_rfl) rfl

theorem textOk_any (t : List UInt8) (h : t ≠ []) (h2 : t.length ≤ 32) : PC.textOk t = !t.any strange := by
  unfold PC.textOk
  rw [List.any_eq_not_all_not, Bool.not_not]
  have : (fun x => !strange x) = (fun b : UInt8 => decide (33 ≤ b.toNat) && decide (b.toNat ≤ 126)) := by
    funext b
    unfold strange
    rw [Bool.eq_iff_iff]
    simp
    omega
  rw [this]
  simp [h, h2]

set_option maxHeartbeats 1000000 in
theorem ctext_any (t : List UInt8) (w : World) (ht : t.length ≤ 9223372036854775807) : Calls Tryd.prog 101 #[.string ⟨t.toArray⟩] w fun e w' => e = .returned (.bool (PC.textOk t)) ∧ Below w.heap.size w w' := by
  have kb := fun w s => run_bytes_of_string (P := Tryd.prog) w 9 47 5 s Tryd.underlying9 Tryd.underlying47 Tryd.underlying5
  cases t with
  | nil =>
    go_enter Tryd.func101, Tryd.ntmps101
    go_wp2
    go_ret
    exact ⟨rfl, Below.refl _ _⟩
  | cons x r =>
    by_cases h2 : (x :: r).length ≤ 32
    · rw [textOk_any _ (by simp) h2]
      have h2' : ((r.length : Int) + 1) ≤ 32 := by have := h2; simp at this; omega
      go_enter Tryd.func101, Tryd.ntmps101
      go_wp2_with (go_at_call 41; refine (ContainsFuncB_any strange 124 #[] enters_ctext1 ctext1_pred (x :: r) _ _ (by exact (Bytes_conv _ _ _ _ _ ht).drew)).mono ?_; rintro e w' ⟨rfl, rfl⟩)
      go_ret
      exact ⟨by simp, ((Below.refl _ _).alloc (Nat.le_refl _) _).drew⟩
    · have e : PC.textOk (x :: r) = false := by
        simp only [PC.textOk, h2, decide_false, Bool.and_false, Bool.false_and]
      rw [e]
      have h2' : ¬ ((r.length : Int) + 1) ≤ 32 := by have := h2; simp at this; omega
      go_enter Tryd.func101, Tryd.ntmps101
      go_wp2
      go_ret
      exact ⟨by simp, Below.refl _ _⟩

set_option maxRecDepth 100000 in
set_option maxHeartbeats 2000000 in
theorem ccount_any (c : PC.Circ) (vc : Value) (k : List UInt8) (w : World) (h : IsCirc w vc c) :
    Calls Tryd.prog 100 #[vc, .string ⟨k.toArray⟩] w fun e w' => e = .returned (.int .i64 (PC.countP c k)) ∧ Below w.heap.size w w' := by
  obtain ⟨vi, vl, vo, vb, vv, va, vn, rfl, hp, hmax⟩ := h
  obtain ⟨ai, capi, rfl, hi1, hi2, hi3⟩ := hp.inputs.open_
  obtain ⟨al, capl, rfl, hl1, hl2, hl3⟩ := hp.latches.open_
  obtain ⟨ao, capo, rfl, ho1, ho2, ho3⟩ := hp.outputs.open_
  obtain ⟨ab, capb, rfl, hb1, hb2, hb3⟩ := hp.bads.open_
  obtain ⟨av, capv, rfl, hv1, hv2, hv3⟩ := hp.invars.open_
  clear hp hi3 hl3 ho3 hb3 hv3 hmax
  unfold PC.countP
  by_cases k1 : k = [105]
  · subst k1
    go_enter Tryd.func100, Tryd.ntmps100
    go_wp2
    go_ret
    exact ⟨rfl, (Below.refl _ _).alloc (Nat.le_refl _) _⟩
  rw [if_neg k1]
  by_cases k2 : k = [108]
  · subst k2
    go_enter Tryd.func100, Tryd.ntmps100
    go_wp2
    go_ret
    exact ⟨rfl, (Below.refl _ _).alloc (Nat.le_refl _) _⟩
  rw [if_neg k2]
  by_cases k3 : k = [111]
  · subst k3
    go_enter Tryd.func100, Tryd.ntmps100
    go_wp2
    go_ret
    exact ⟨rfl, (Below.refl _ _).alloc (Nat.le_refl _) _⟩
  rw [if_neg k3]
  by_cases k4 : k = [98]
  · subst k4
    go_enter Tryd.func100, Tryd.ntmps100
    go_wp2
    go_ret
    exact ⟨rfl, (Below.refl _ _).alloc (Nat.le_refl _) _⟩
  rw [if_neg k4]
  have b1 : (k == [105]) = false := by simpa using k1
  have b2 : (k == [108]) = false := by simpa using k2
  have b3 : (k == [111]) = false := by simpa using k3
  have b4 : (k == [98]) = false := by simpa using k4
  clear k1 k2 k3 k4
  go_enter Tryd.func100, Tryd.ntmps100
  go_wp2
  go_ret
  exact ⟨rfl, (Below.refl _ _).alloc (Nat.le_refl _) _⟩


set_option maxHeartbeats 1000000 in
theorem crank_any (c : UInt8) (at_ : Int) (t : Value) (w : World) (hk : PC.kindsOk [c] = true) (h0 : 0 ≤ at_) (h1 : at_ ≤ 9223372036854700000) :
    Calls Tryd.prog 102 #[.agg #[.string ⟨#[c]⟩, .int .i64 at_, t]] w fun e w' => e = .returned (.int .i64 (PC.rank [c] * 2048 + at_)) ∧ Below w.heap.size w w' := by
  have hI : ∀ x : Later (w.alloc (.cells #[.string ⟨#[c]⟩, .int .i64 at_, t] 68)), _ := fun x => sIndex_one c x.at_
  have hr : 0 ≤ PC.rank [c] ∧ PC.rank [c] ≤ 4 := by
    unfold PC.kindsOk at hk
    simp only [Bool.or_eq_true, decide_eq_true_eq] at hk
    rcases hk with (((h | h) | h) | h) | h <;> rw [h] <;> decide
  obtain ⟨m0, m1, m2⟩ := (Box3.new w (.string ⟨#[c]⟩) (.int .i64 at_) t 68).later
  obtain ⟨r0, r1⟩ := hr
  generalize PC.rank [c] = R at *
  have e1 : IntKind.i64.wrap (R * 2048) = R * 2048 := IntWalk.i64_in _ (by omega)
  have e2 : IntKind.i64.wrap (R * 2048 + at_) = R * 2048 + at_ := IntWalk.i64_in _ (by omega)
  go_enter Tryd.func102, Tryd.ntmps102
  go_wp2_with fail
  refine wp_region_later (by kernel_rfl) (by kernel_rfl) ?_; (repeat (go_big_quiet_step ((go_at_call 106; with_reducible exact Calls.later_same (hI _))))); refine wpQuiet_nil ?_; rintro w3 ⟨⟨_, hb3⟩, rfl⟩
  go_wp2
  go_ret
  exact ⟨rfl, Below.of ((Below.refl _ _).alloc (Nat.le_refl _) _) hb3⟩


end Go.Proofs.YtjcaejdokillgaaDoor

namespace Go.Proofs.YtjcaejdokillgaaDoor
open Go.RowKit Go.Shelf
attribute [local simp] mk_get

namespace PC
/-- the names from the k-th on -/
def namedAt (c : Circ) (k : Nat) : Bool := namedP c (if k = 0 then none else c.names[k - 1]?) (c.names.drop k)
theorem namedAt_zero (c : Circ) : namedAt c 0 = namedP c none c.names := rfl
theorem namedAt_end (c : Circ) : namedAt c c.names.length = true := by
  unfold namedAt
  rw [List.drop_length]
  cases (if c.names.length = 0 then none else c.names[c.names.length - 1]?) <;> rfl
theorem namedAt_first (c : Circ) (h : 0 < c.names.length) : namedAt c 0 = (nameOkP c c.names[0] && namedAt c 1) := by
  unfold namedAt
  rw [List.drop_eq_getElem_cons h]
  simp [namedP, h]
theorem namedAt_step (c : Circ) (k : Nat) (h0 : 0 < k) (h : k < c.names.length) : namedAt c k = (nameOkP c c.names[k] && decide (rankP (c.names[k - 1]'(by omega)) < rankP c.names[k]) && namedAt c (k + 1)) := by
  unfold namedAt
  rw [List.drop_eq_getElem_cons h, if_neg (Nat.succ_ne_zero k), Nat.add_sub_cancel, List.getElem?_eq_getElem h]
  rw [if_neg (by omega), List.getElem?_eq_getElem (by omega)]
  simp [namedP]
theorem namedAt_bad (c : Circ) (k : Nat) (h : k < c.names.length) (hb : nameOkP c c.names[k] = false) : namedAt c k = false := by
  by_cases h0 : k = 0
  · subst h0; rw [namedAt_first c h, hb]; rfl
  · rw [namedAt_step c k (by omega) h, hb]; rfl
theorem kindsOk_one {k : Bs} (h : kindsOk k = true) : ∃ ch, k = [ch] := by
  unfold kindsOk at h
  simp only [Bool.or_eq_true, decide_eq_true_eq] at h
  rcases h with (((h | h) | h) | h) | h <;> exact ⟨_, h⟩
theorem countP_le (c : Circ) (h : boundsOk c = true) (k : Bs) : 0 ≤ countP c k ∧ countP c k ≤ 64 := by
  simp only [boundsOk, Bool.and_eq_true, decide_eq_true_eq] at h
  unfold countP
  split
  · omega
  split
  · omega
  split
  · omega
  split <;> omega
theorem nameOkP_parts {c : Circ} {x : Nam} (h : nameOkP c x = true) : kindsOk x.kind = true ∧ 0 ≤ x.at_ ∧ x.at_ < countP c x.kind ∧ textOk x.text = true := by
  simp only [nameOkP, Bool.and_eq_true, decide_eq_true_eq] at h
  exact ⟨h.1.1.1, h.1.1.2, h.1.2, h.2⟩
theorem nameOkP_len (c : Circ) (x : Nam) (h : ¬ x.kind.length = 1) : nameOkP c x = false := by
  cases hk : kindsOk x.kind with
  | false => simp [nameOkP, hk]
  | true =>
    obtain ⟨ch, e⟩ := kindsOk_one hk
    exact absurd (by rw [e]; rfl) h
theorem nameOkP_kind (c : Circ) (x : Nam) (h : kindsOk x.kind = false) : nameOkP c x = false := by simp [nameOkP, h]
theorem nameOkP_neg (c : Circ) (x : Nam) (h : x.at_ < 0) : nameOkP c x = false := by simp [nameOkP]; intros; omega
theorem nameOkP_far (c : Circ) (x : Nam) (h : countP c x.kind ≤ x.at_) : nameOkP c x = false := by simp [nameOkP]; intros; omega
theorem nameOkP_text (c : Circ) (x : Nam) (h : textOk x.text = false) : nameOkP c x = false := by simp [nameOkP, h]
theorem nameOkP_all (c : Circ) (x : Nam) (h : kindsOk x.kind = true) (h0 : 0 ≤ x.at_) (h1 : x.at_ < countP c x.kind) (h2 : textOk x.text = true) : nameOkP c x = true := by simp [nameOkP, h, h0, h1, h2]
end PC

set_option maxRecDepth 100000 in
set_option maxHeartbeats 4000000 in
theorem cnamed_any (c : PC.Circ) (vc : Value) (w : World) (h : IsCirc w vc c) (hB : PC.boundsOk c = true) :
    Calls Tryd.prog 68 #[vc] w fun e w' => e = .returned (.bool (PC.namedP c none c.names)) ∧ Below w.heap.size w w' := by
  have hcnt : ∀ (k : List UInt8) w1, Below w.heap.size w w1 → _ := fun k w1 hb => ccount_any c vc k w1 (h.mono hb)
  have hCL := Lib.hid (PC.countP_le c hB)
  clear hB
  obtain ⟨vi, vl, vo, vb, vv, va, vn, rfl, hp, hmax⟩ := h
  obtain ⟨an, capn, rfl, hn1, hn2, hn3⟩ := hp.names.open_
  clear hp hmax
  have HN := Lib.hid hn3
  clear hn3
  obtain ⟨R, hR⟩ : ∃ R, R = PC.namedP c none c.names := ⟨_, rfl⟩
  rw [← hR]
  rw [← PC.namedAt_zero] at hR
  have HR0 := Lib.hid hR
  clear hR
  go_enter Tryd.func68, Tryd.ntmps68
  go_wp2
  go_loopg [8] c.names.length (fun gg s8 wr => ∃ k : Nat, k ≤ c.names.length ∧ c.names.length - k ≤ gg ∧ s8 = .int .i64 k ∧ Below w.heap.size w wr ∧ Aside (Box8 wr w.heap.size (.int .i64 c.max) vi vl vo vb vv va (.slice an c.names.length capn)) ∧ Aside (R = PC.namedAt c k) ∧ Aside (∀ j (hj : j < k) (h : j < c.names.length), PC.nameOkP c c.names[j] = true))
  case atStart => exact ⟨0, Nat.zero_le _, by omega, rfl, (Below.refl _ _).alloc (Nat.le_refl _) _, Box8.new _ _ _ _ _ _ _ _ _ _, HR0.out, fun j hj => absurd hj (Nat.not_lt_zero _)⟩
  case round =>
    obtain ⟨k, hk, hg, rfl, hbelr, hbxr, HR, A⟩ := hrel
    clear HR0
    obtain ⟨q0, q1, q2, q3, q4, q5, q6, q7⟩ := hbxr.out
    by_cases hlt : k < c.names.length
    · have hmea : ∀ g : Nat, c.names.length - k ≤ g → c.names.length - (k + 1) < g := fun g h => by omega
      obtain ⟨b, off, rfl, hbs', ⟨⟨g1, g2⟩, hr3, hr4⟩, c0, c1, c2⟩ := HN.out k hlt
      have c0 := (hbelr.cell hbs').trans c0
      have c1 := (hbelr.cell hbs').trans c1
      have c2 := (hbelr.cell hbs').trans c2
      have hprev : ¬ k = 0 → ∃ (ch : UInt8) (y2 : Int) (y3 : List UInt8), b < w.heap.size ∧ 0 ≤ y2 ∧ y2 ≤ 64 ∧ PC.kindsOk [ch] = true ∧ w.cell? ⟨b, off + (k - 1) * 3, none⟩ = some (.string ⟨#[ch]⟩) ∧ w.cell? ⟨b, off + (k - 1) * 3 + 1, none⟩ = some (.int .i64 y2) ∧ w.cell? ⟨b, off + (k - 1) * 3 + 2, none⟩ = some (.string ⟨y3.toArray⟩) ∧ (c.names[k - 1]'(by omega)) = ⟨[ch], y2, y3⟩ := by
        intro h0
        have hok := A.out (k - 1) (by omega) (by omega)
        obtain ⟨o1, o2, o3, o4⟩ := PC.nameOkP_parts hok
        have := hCL.out (c.names[k - 1]'(by omega)).kind
        obtain ⟨ch, ech⟩ := PC.kindsOk_one o1
        obtain ⟨b', off', e, hbs2, _, e0, e1, e2⟩ := HN.out (k - 1) (by omega)
        cases e
        refine ⟨ch, (c.names[k - 1]'(by omega)).at_, (c.names[k - 1]'(by omega)).text, hbs2, o2, by omega, by rw [← ech]; exact o1, by rw [e0, ech], e1, e2, ?_⟩
        rw [← ech]
      have hprev := Lib.hid hprev
      generalize hx : c.names[k] = x at *
      have X := Lib.hid hx
      clear hx
      obtain ⟨kd, at_, tx⟩ := x
      simp only at g1 g2 hr3 hr4 c0 c1 c2
      have hltz : (k : Int) < (c.names.length : Int) := by omega
      go_wp2_with fail
      generalize hW1 : wr.alloc (.cells #[.string ⟨kd.toArray⟩, .int .i64 at_, .string ⟨tx.toArray⟩] 68) = W1
      have hbw : Below wr.heap.size wr W1 := by rw [← hW1]; exact (Below.refl _ _).alloc (Nat.le_refl _) _
      have hY : Hid (Box3 W1 wr.heap.size (.string ⟨kd.toArray⟩) (.int .i64 at_) (.string ⟨tx.toArray⟩)) := by rw [← hW1]; exact Box3.new _ _ _ _ _
      clear hW1
      have hb1 := Lib.hid (Below.trans hbelr (hbw.mono hbelr.size))
      have hbx1 := Lib.hid (hbxr.out.mono hbw)
      clear q0 q1 q2 q3 q4 q5 q6 q7 c0 c1 c2 hbw
      obtain ⟨q0, q1, q2, q3, q4, q5, q6, q7⟩ := hbx1.out.later
      obtain ⟨m0, m1, m2⟩ := hY.out.later
      by_cases hkl : kd.length = 1
      · obtain ⟨ch, rfl⟩ := List.length_eq_one_iff.1 hkl
        clear hkl
        have hCon : ∀ x : Later W1, _ := fun x => sContains_one ch x.at_
        have hCnt : ∀ x : Later W1, _ := fun x => hcnt [ch] x.at_ (Below.of hb1.out x.below)
        have hTxt : ∀ x : Later W1, _ := fun x => ctext_any tx x.at_ hr4
        cases dk : PC.kindsOk [ch] with
        | false =>
          rw [dk] at hCon
          have DK := Lib.hid dk
          clear dk
          refine wp_region_later (by kernel_rfl) (by kernel_rfl) ?_; (repeat (go_big_quiet_step (first | (go_at_call 75; with_reducible exact Calls.later_same (hCon _)) | (go_at_call 100; with_reducible exact Calls.later (hCnt _)) | (go_at_call 101; with_reducible exact Calls.later (hTxt _))))); refine wpQuiet_nil ?_; rintro w3 ⟨⟨_, hb3⟩, rfl⟩
          go_wp2
          go_ret
          have hbad : R = false := by
            rw [HR.out]
            refine PC.namedAt_bad c k hlt ?_
            rw [X.out]
            exact PC.nameOkP_kind c _ DK.out
          exact ⟨by rw [hbad]; rfl, Below.of hb1.out hb3⟩
        | true =>
          rw [dk] at hCon
          have DK := Lib.hid dk
          clear dk
          by_cases d1 : at_ < 0
          · have D1 := Lib.hid d1
            refine wp_region_later (by kernel_rfl) (by kernel_rfl) ?_; (repeat (go_big_quiet_step (first | (go_at_call 75; with_reducible exact Calls.later_same (hCon _)) | (go_at_call 100; with_reducible exact Calls.later (hCnt _)) | (go_at_call 101; with_reducible exact Calls.later (hTxt _))))); refine wpQuiet_nil ?_; rintro w3 ⟨⟨_, hb3⟩, rfl⟩
            go_wp2
            go_ret
            have hbad : R = false := by
              rw [HR.out]
              refine PC.namedAt_bad c k hlt ?_
              rw [X.out]
              exact PC.nameOkP_neg c _ D1.out
            exact ⟨by rw [hbad]; rfl, Below.of hb1.out hb3⟩
          have d1' : 0 ≤ at_ := by omega
          obtain ⟨n, hn⟩ : ∃ n, n = PC.countP c [ch] := ⟨_, rfl⟩
          have hnl : 0 ≤ n ∧ n ≤ 64 := by rw [hn]; exact hCL.out _
          rw [← hn] at hCnt
          have HNC := Lib.hid hn
          clear hn
          by_cases d2 : n ≤ at_
          · have D2 := Lib.hid d2
            refine wp_region_later (by kernel_rfl) (by kernel_rfl) ?_; (repeat (go_big_quiet_step (first | (go_at_call 75; with_reducible exact Calls.later_same (hCon _)) | (go_at_call 100; with_reducible exact Calls.later (hCnt _)) | (go_at_call 101; with_reducible exact Calls.later (hTxt _))))); refine wpQuiet_nil ?_; rintro w3 ⟨⟨_, hb3⟩, rfl⟩
            go_wp2
            go_ret
            have hbad : R = false := by
              rw [HR.out]
              refine PC.namedAt_bad c k hlt ?_
              rw [X.out]
              exact PC.nameOkP_far c _ (by rw [← HNC.out]; exact D2.out)
            exact ⟨by rw [hbad]; rfl, Below.of hb1.out hb3⟩
          have D2 := Lib.hid d2
          cases dt : PC.textOk tx with
          | false =>
            rw [dt] at hTxt
            have DT := Lib.hid dt
            clear dt
            refine wp_region_later (by kernel_rfl) (by kernel_rfl) ?_; (repeat (go_big_quiet_step (first | (go_at_call 75; with_reducible exact Calls.later_same (hCon _)) | (go_at_call 100; with_reducible exact Calls.later (hCnt _)) | (go_at_call 101; with_reducible exact Calls.later (hTxt _))))); refine wpQuiet_nil ?_; rintro w3 ⟨⟨_, hb3⟩, rfl⟩
            go_wp2
            go_ret
            have hbad : R = false := by
              rw [HR.out]
              refine PC.namedAt_bad c k hlt ?_
              rw [X.out]
              exact PC.nameOkP_text c _ DT.out
            exact ⟨by rw [hbad]; rfl, Below.of hb1.out hb3⟩
          | true =>
            rw [dt] at hTxt
            have DT := Lib.hid dt
            clear dt
            have hok : Hid (PC.nameOkP c ⟨[ch], at_, tx⟩ = true) := PC.nameOkP_all c _ DK.out d1' (by rw [← HNC.out]; exact Int.lt_of_not_ge D2.out) DT.out
            refine wp_region_later (by kernel_rfl) (by kernel_rfl) ?_; (repeat (go_big_quiet_step (first | (go_at_call 75; with_reducible exact Calls.later_same (hCon _)) | (go_at_call 100; with_reducible exact Calls.later (hCnt _)) | (go_at_call 101; with_reducible exact Calls.later (hTxt _))))); refine wpQuiet_nil ?_; rintro w3 ⟨⟨_, hb3⟩, rfl⟩
            obtain ⟨V, hV⟩ : ∃ V, V = w3 := ⟨_, rfl⟩
            subst hV
            have hbV := Lib.hid (Below.of hb1.out hb3)
            have hbxV := Lib.hid (hbx1.out.mono hb3)
            have hYV := Lib.hid (hY.out.mono hb3)
            clear q0 q1 q2 q3 q4 q5 q6 q7 m0 m1 m2 hCon hCnt hTxt hb3
            go_wp2_with fail
            obtain ⟨q0, q1, q2, q3, q4, q5, q6, q7⟩ := hbxV.out.later
            obtain ⟨m0, m1, m2⟩ := hYV.out.later
            have hRx : ∀ x : Later V, _ := fun x => crank_any ch at_ (.string ⟨tx.toArray⟩) x.at_ DK.out d1' (by omega)
            by_cases h0 : k = 0
            · have hk0 : ¬ 0 < (k : Int) := by omega
              refine wp_region_later (by kernel_rfl) (by kernel_rfl) ?_; (repeat (go_big_quiet_step (first | (go_at_call 102; with_reducible exact Calls.later (hRx _)) | (go_at_call 102; with_reducible exact Calls.later (hRy _))))); refine wpQuiet_nil ?_; rintro w3 ⟨⟨_, hb3⟩, rfl⟩
              go_wp2
              go_roundg (c.names.length - (k + 1))
              case measure => exact hmea _ hg
              case rel =>
                refine ⟨k + 1, by omega, by omega, by go_num, Below.of hbV.out hb3, hbxV.out.mono hb3, ?_, (show Aside _ from fun j hj h => ?_)⟩
                · subst h0; have := HR.out; rw [PC.namedAt_first c hlt, X.out, hok.out] at this; exact this
                · by_cases e : j = k
                  · subst e; rw [X.out]; exact hok.out
                  · exact A.out j (by omega) h
            · obtain ⟨ch', y2, y3, hbs2, hy0, hy1, hpk, e0, e1, e2, hpy⟩ := hprev.out h0
              have hk0 : 0 < (k : Int) := by omega
              have hkN : 0 < k := by omega
              have e0 : ∀ x1 : Later V, x1.at_.cell? ⟨b, off + (k - 1) * 3, none⟩ = some (.string ⟨#[ch']⟩) := fun x1 => x1.cell ((hbV.out.cell hbs2).trans e0)
              have e1 : ∀ x1 : Later V, x1.at_.cell? ⟨b, off + (k - 1) * 3 + 1, none⟩ = some (.int .i64 y2) := fun x1 => x1.cell ((hbV.out.cell hbs2).trans e1)
              have e2 : ∀ x1 : Later V, x1.at_.cell? ⟨b, off + (k - 1) * 3 + 2, none⟩ = some (.string ⟨y3.toArray⟩) := fun x1 => x1.cell ((hbV.out.cell hbs2).trans e2)
              have hRy : ∀ x : Later V, _ := fun x => crank_any ch' y2 (.string ⟨y3.toArray⟩) x.at_ hpk hy0 (by omega)
              have hpy := Lib.hid hpy
              obtain ⟨rx, hrx⟩ : ∃ r, r = PC.rank [ch] * 2048 + at_ := ⟨_, rfl⟩
              obtain ⟨ry, hry⟩ : ∃ r, r = PC.rank [ch'] * 2048 + y2 := ⟨_, rfl⟩
              rw [← hrx] at hRx
              rw [← hry] at hRy
              have hrx := Lib.hid hrx
              have hry := Lib.hid hry
              have hcmp : Hid (decide (PC.rankP (c.names[k - 1]'(by omega)) < PC.rankP ⟨[ch], at_, tx⟩) = decide (ry < rx)) := by
                rw [hpy.out, hrx.out, hry.out]; rfl
              by_cases hge : rx ≤ ry
              · have HGE := Lib.hid hge
                refine wp_region_later (by kernel_rfl) (by kernel_rfl) ?_; (repeat (go_big_quiet_step (first | (have _ := hRy; go_at_call 102; with_reducible exact Calls.later (hRy _)) | (go_at_call 102; with_reducible exact Calls.later (hRx _))))); refine wpQuiet_nil ?_; rintro w3 ⟨⟨_, hb3⟩, rfl⟩
                go_wp2
                go_ret
                have hbad : R = false := by
                  rw [HR.out, PC.namedAt_step c k hkN hlt, X.out, hok.out, hcmp.out, decide_eq_false (by have := HGE.out; omega)]
                  rfl
                exact ⟨by rw [hbad]; rfl, Below.of hbV.out hb3⟩
              · have HLT := Lib.hid (show ry < rx by omega)
                have hge' := hge
                refine wp_region_later (by kernel_rfl) (by kernel_rfl) ?_; (repeat (go_big_quiet_step (first | (go_at_call 102; with_reducible exact Calls.later (hRx _)) | (go_at_call 102; with_reducible exact Calls.later (hRy _))))); refine wpQuiet_nil ?_; rintro w3 ⟨⟨_, hb3⟩, rfl⟩
                go_wp2
                go_roundg (c.names.length - (k + 1))
                case measure => exact hmea _ hg
                case rel =>
                  refine ⟨k + 1, by omega, by omega, by go_num, Below.of hbV.out hb3, hbxV.out.mono hb3, ?_, (show Aside _ from fun j hj h => ?_)⟩
                  · have := HR.out; rw [PC.namedAt_step c k hkN hlt, X.out, hok.out, hcmp.out, decide_eq_true HLT.out] at this; exact this
                  · by_cases e : j = k
                    · subst e; rw [X.out]; exact hok.out
                    · exact A.out j (by omega) h
      · have hkl' : ¬ ((kd.length : Int) = 1) := by omega
        have hkl2 : ((kd.length : Int) != 1) = true := by simpa using hkl'
        clear hkl'
        have hCon : ∀ x : Later W1, _ := fun x => sContains_one 0 x.at_
        have hCnt : ∀ x : Later W1, _ := fun x => hcnt [0] x.at_ (Below.of hb1.out x.below)
        have hTxt : ∀ x : Later W1, _ := fun x => ctext_any tx x.at_ hr4
        have HKL := Lib.hid hkl
        clear hkl
        refine wp_region_later (by kernel_rfl) (by kernel_rfl) ?_; (repeat (go_big_quiet_step (first | (go_at_call 75; with_reducible exact Calls.later_same (hCon _)) | (go_at_call 100; with_reducible exact Calls.later (hCnt _)) | (go_at_call 101; with_reducible exact Calls.later (hTxt _))))); refine wpQuiet_nil ?_; rintro w3 ⟨⟨_, hb3⟩, rfl⟩
        go_wp2
        go_ret
        have hbad : R = false := by
          rw [HR.out]
          refine PC.namedAt_bad c k hlt ?_
          rw [X.out]
          exact PC.nameOkP_len c _ HKL.out
        exact ⟨by rw [hbad]; rfl, Below.of hb1.out hb3⟩
    · have hltz : ¬ (k : Int) < (c.names.length : Int) := by omega
      obtain rfl : k = c.names.length := by omega
      go_wp2
      go_ret
      have : R = true := by rw [HR.out, PC.namedAt_end]
      exact ⟨by rw [this]; rfl, hbelr⟩

end Go.Proofs.YtjcaejdokillgaaDoor
