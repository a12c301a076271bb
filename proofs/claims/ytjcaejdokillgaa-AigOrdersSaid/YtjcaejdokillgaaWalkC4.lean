/- Contracts: where a kind stands; a name's text; how many of a kind; a name's rank. -/
import Derived.Test.YtjcaejdokillgaaWalkC3
import Derived.Test.YtjcaejdokillgaaWalkF
import Derived.Test.YtjcaejdokillgaaWalkR2
import Derived.Lib.Bytealg
import Derived.Laws.Externs
namespace Go.Proofs.Ytjcaejdokillgaa
open Go.RowKit Go.Shelf
attribute [local simp] mk_get

theorem run_ib (s : ByteArray) (c : Int) (w : World) : (callFunc 75 #[.string s, .int .u8 c]).run Try.prog w = .ok (.value (.int .i64 (Lib.indexByte s.data.toList c.toNat.toUInt8))) w := by
  rw [run_callFunc_extern Try.func75 (by kernel_rfl) (by kernel_rfl) (by kernel_rfl) (e := Extern.BytealgIndexByte.indexByte) (by kernel_rfl), Lib.run_indexByteString]
  rfl

theorem kinds_index (c : UInt8) : Lib.indexByte [105, 108, 111, 98, 99] c = PC.rank [c] := by
  unfold PC.rank
  by_cases h1 : c = 105
  · subst h1; decide
  by_cases h2 : c = 108
  · subst h2; decide
  by_cases h3 : c = 111
  · subst h3; decide
  by_cases h4 : c = 98
  · subst h4; decide
  by_cases h5 : c = 99
  · subst h5; decide
  have b1 : ((105 : UInt8) == c) = false := by simpa using fun e => h1 e.symm
  have b2 : ((108 : UInt8) == c) = false := by simpa using fun e => h2 e.symm
  have b3 : ((111 : UInt8) == c) = false := by simpa using fun e => h3 e.symm
  have b4 : ((98 : UInt8) == c) = false := by simpa using fun e => h4 e.symm
  have b5 : ((99 : UInt8) == c) = false := by simpa using fun e => h5 e.symm
  simp [Lib.indexByte, h1, h2, h3, h4, h5, b1, b2, b3, b4, b5]

set_option maxRecDepth 100000 in
set_option maxHeartbeats 1000000 in
theorem slIndex_one (c : UInt8) (w : World) : Calls Try.prog 68 #[.string ⟨#[105, 108, 111, 98, 99]⟩, .string ⟨#[c]⟩] w fun e w' => e = .returned (.int .i64 (PC.rank [c])) ∧ w = w' := by
  have hib := run_ib ⟨#[105, 108, 111, 98, 99]⟩ (c.toNat : Int)
  have e : Lib.indexByte (ByteArray.mk #[105, 108, 111, 98, 99]).data.toList ((c.toNat : Int).toNat.toUInt8) = PC.rank [c] := by
    rw [show ((c.toNat : Int).toNat.toUInt8) = c from by simp]
    exact kinds_index c
  rw [e] at hib
  clear e
  generalize PC.rank [c] = R at *
  go_enter Try.func68, Try.ntmps68
  go_wp2
  go_ret
  exact ⟨rfl, rfl⟩

theorem sIndex_one (c : UInt8) (w : World) : Calls Try.prog 64 #[.string ⟨#[105, 108, 111, 98, 99]⟩, .string ⟨#[c]⟩] w fun e w' => e = .returned (.int .i64 (PC.rank [c])) ∧ w = w' := by
  go_enter Try.func64, Try.ntmps64
  go_wp2_with (go_at_call 68; refine (slIndex_one c _).mono ?_; rintro e w1 ⟨rfl, rfl⟩)
  go_ret
  exact ⟨rfl, rfl⟩

theorem sContains_one (c : UInt8) (w : World) : Calls Try.prog 58 #[.string ⟨#[105, 108, 111, 98, 99]⟩, .string ⟨#[c]⟩] w fun e w' => e = .returned (.bool (PC.kindsOk [c])) ∧ w = w' := by
  have e : PC.kindsOk [c] = decide (0 ≤ PC.rank [c]) := by
    unfold PC.rank PC.kindsOk
    by_cases h1 : ([c] : List UInt8) = [105]
    · simp [h1]
    by_cases h2 : ([c] : List UInt8) = [108]
    · simp [h2]
    by_cases h3 : ([c] : List UInt8) = [111]
    · simp [h3]
    by_cases h4 : ([c] : List UInt8) = [98]
    · simp [h4]
    by_cases h5 : ([c] : List UInt8) = [99]
    · simp [h5]
    simp only [h1, h2, h3, h4, h5, if_false, decide_false, Bool.or_false]
    decide
  rw [e]
  go_enter Try.func58, Try.ntmps58
  go_wp2_with (go_at_call 64; refine (sIndex_one c _).mono ?_; rintro e w1 ⟨rfl, rfl⟩)
  go_ret
  exact ⟨rfl, rfl⟩

def strange (c : UInt8) : Bool := decide ((c.toNat : Int) < 33) || decide (126 < (c.toNat : Int))

set_option maxHeartbeats 400000 in
theorem ctext1_pred (x : UInt8) (w : World) : Calls Try.prog 66 (#[.int .u8 (x.toNat : Int)] ++ #[]) w fun e w' => e = .returned (.bool (strange x)) ∧ w = w' := by
  rw [Array.append_empty]
  unfold strange
  by_cases h1 : (x.toNat : Int) < 33
  · go_enter Try.func66, Try.ntmps66
    go_wp2
    go_ret
    exact ⟨by simp [h1], rfl⟩
  · by_cases h2 : 126 < (x.toNat : Int)
    · go_enter Try.func66, Try.ntmps66
      go_wp2
      go_ret
      exact ⟨by simp, rfl⟩
    · go_enter Try.func66, Try.ntmps66
      go_wp2
      go_ret
      exact ⟨by simp [h1, h2], rfl⟩

theorem enters_ctext1 : ∀ args w, (callFunc 66 args).run Try.prog w = .ok (.enter 66 args) w := enters_of Try.func66 (by kernel_rfl) rfl

theorem textOk_any (t : List UInt8) (h : t ≠ []) (h2 : t.length ≤ 32) : PC.textOk t = !t.any strange := by
  unfold PC.textOk
  rw [List.any_eq_not_all_not, Bool.not_not]
  have : (fun x => !strange x) = (fun b : UInt8 => decide (33 ≤ b.toNat) && decide (b.toNat ≤ 126)) := by
    funext b
    unfold strange
    rw [Bool.eq_iff_iff]
    simp
    omega
  rw [this]
  simp [h, h2]

set_option maxHeartbeats 1000000 in
theorem ctext_any (t : List UInt8) (w : World) (ht : t.length ≤ 9223372036854775807) : Calls Try.prog 60 #[.string ⟨t.toArray⟩] w fun e w' => e = .returned (.bool (PC.textOk t)) ∧ Below w.heap.size w w' := by
  have kb := fun w s => run_bytes_of_string (P := Try.prog) w 9 29 5 s Try.underlying9 Try.underlying29 Try.underlying5
  cases t with
  | nil =>
    go_enter Try.func60, Try.ntmps60
    go_wp2
    go_ret
    exact ⟨rfl, Below.refl _ _⟩
  | cons x r =>
    by_cases h2 : (x :: r).length ≤ 32
    · rw [textOk_any _ (by simp) h2]
      have h2' : ((r.length : Int) + 1) ≤ 32 := by have := h2; simp at this; omega
      go_enter Try.func60, Try.ntmps60
      go_wp2_with (go_at_call 65; refine (ContainsFuncB_any strange 66 #[] enters_ctext1 ctext1_pred (x :: r) _ _ (by exact (Bytes_conv _ _ _ _ _ ht).drew)).mono ?_; rintro e w' ⟨rfl, rfl⟩)
      go_ret
      exact ⟨by simp, ((Below.refl _ _).alloc (Nat.le_refl _) _).drew⟩
    · have e : PC.textOk (x :: r) = false := by
        simp only [PC.textOk, h2, decide_false, Bool.and_false, Bool.false_and]
      rw [e]
      have h2' : ¬ ((r.length : Int) + 1) ≤ 32 := by have := h2; simp at this; omega
      go_enter Try.func60, Try.ntmps60
      go_wp2
      go_ret
      exact ⟨by simp, Below.refl _ _⟩

set_option maxRecDepth 100000 in
set_option maxHeartbeats 2000000 in
theorem ccount_any (c : PC.Circ) (vc : Value) (k : List UInt8) (w : World) (h : IsCirc w vc c) :
    Calls Try.prog 59 #[vc, .string ⟨k.toArray⟩] w fun e w' => e = .returned (.int .i64 (PC.countP c k)) ∧ Below w.heap.size w w' := by
  obtain ⟨vi, vl, vo, vb, vv, va, vn, rfl, hp, hmax⟩ := h
  obtain ⟨ai, capi, rfl, hi1, hi2, hi3⟩ := hp.inputs.open_
  obtain ⟨al, capl, rfl, hl1, hl2, hl3⟩ := hp.latches.open_
  obtain ⟨ao, capo, rfl, ho1, ho2, ho3⟩ := hp.outputs.open_
  obtain ⟨ab, capb, rfl, hb1, hb2, hb3⟩ := hp.bads.open_
  obtain ⟨av, capv, rfl, hv1, hv2, hv3⟩ := hp.invars.open_
  clear hp hi3 hl3 ho3 hb3 hv3 hmax
  unfold PC.countP
  by_cases k1 : k = [105]
  · subst k1
    go_enter Try.func59, Try.ntmps59
    go_wp2
    go_ret
    exact ⟨rfl, (Below.refl _ _).alloc (Nat.le_refl _) _⟩
  rw [if_neg k1]
  by_cases k2 : k = [108]
  · subst k2
    go_enter Try.func59, Try.ntmps59
    go_wp2
    go_ret
    exact ⟨rfl, (Below.refl _ _).alloc (Nat.le_refl _) _⟩
  rw [if_neg k2]
  by_cases k3 : k = [111]
  · subst k3
    go_enter Try.func59, Try.ntmps59
    go_wp2
    go_ret
    exact ⟨rfl, (Below.refl _ _).alloc (Nat.le_refl _) _⟩
  rw [if_neg k3]
  by_cases k4 : k = [98]
  · subst k4
    go_enter Try.func59, Try.ntmps59
    go_wp2
    go_ret
    exact ⟨rfl, (Below.refl _ _).alloc (Nat.le_refl _) _⟩
  rw [if_neg k4]
  have b1 : (k == [105]) = false := by simpa using k1
  have b2 : (k == [108]) = false := by simpa using k2
  have b3 : (k == [111]) = false := by simpa using k3
  have b4 : (k == [98]) = false := by simpa using k4
  clear k1 k2 k3 k4
  go_enter Try.func59, Try.ntmps59
  go_wp2
  go_ret
  exact ⟨rfl, (Below.refl _ _).alloc (Nat.le_refl _) _⟩


set_option maxHeartbeats 1000000 in
theorem crank_any (c : UInt8) (at_ : Int) (t : Value) (w : World) (hk : PC.kindsOk [c] = true) (h0 : 0 ≤ at_) (h1 : at_ ≤ 9223372036854700000) :
    Calls Try.prog 61 #[.agg #[.string ⟨#[c]⟩, .int .i64 at_, t]] w fun e w' => e = .returned (.int .i64 (PC.rank [c] * 2048 + at_)) ∧ Below w.heap.size w w' := by
  have hI : ∀ x : Later (w.alloc (.cells #[.string ⟨#[c]⟩, .int .i64 at_, t] 40)), _ := fun x => sIndex_one c x.at_
  have hr : 0 ≤ PC.rank [c] ∧ PC.rank [c] ≤ 4 := by
    unfold PC.kindsOk at hk
    simp only [Bool.or_eq_true, decide_eq_true_eq] at hk
    rcases hk with (((h | h) | h) | h) | h <;> rw [h] <;> decide
  obtain ⟨m0, m1, m2⟩ := (Box3.new w (.string ⟨#[c]⟩) (.int .i64 at_) t 40).later
  obtain ⟨r0, r1⟩ := hr
  generalize PC.rank [c] = R at *
  have e1 : IntKind.i64.wrap (R * 2048) = R * 2048 := IntWalk.i64_in _ (by omega)
  have e2 : IntKind.i64.wrap (R * 2048 + at_) = R * 2048 + at_ := IntWalk.i64_in _ (by omega)
  go_enter Try.func61, Try.ntmps61
  go_wp2_with fail
  refine wp_region_later (by kernel_rfl) (by kernel_rfl) ?_; (repeat (go_big_quiet_step ((go_at_call 64; with_reducible exact Calls.later_same (hI _))))); refine wpQuiet_nil ?_; rintro w3 ⟨⟨_, hb3⟩, rfl⟩
  go_wp2
  go_ret
  exact ⟨rfl, Below.of ((Below.refl _ _).alloc (Nat.le_refl _) _) hb3⟩


end Go.Proofs.Ytjcaejdokillgaa
