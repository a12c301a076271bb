/- Contracts: the form of a number, prefixes, Parse. -/
import Derived.Test.YtfjejjdkogfelaaDoorWalks01b
namespace Go.Proofs.YtfjejjdkogfelaaDoor
open Go.RowKit Go.Shelf

/-- '[]byte(s)' reads as s's octets -/
theorem Bytes_conv (w : World) (l : List UInt8) (c : Nat) (e : TypeId) (fr : Nat × Nat) (h : l.length ≤ 9223372036854775807) :
    Bytes (w.alloc (.cells (bytesRow ⟨l.toArray⟩ c) e fr)) (.slice (some ⟨w.heap.size, 0, none⟩) l.length c) l := by
  refine ⟨_, _, rfl, h, fun j hj => ⟨w.heap.size, 0, rfl, ?_⟩⟩
  rw [Nat.zero_add, World.cell?_alloc_mark, bytesRow_at _ _ _ (by simpa using hj)]
  simp

theorem Bytes.drew {w : World} {v : Value} {l : List UInt8} (h : Bytes w v l) : Bytes w.drew v l := h

theorem enters13 : ∀ args w, (callFunc 42 args).run Tryd.prog w = .ok (.enter 42 args) w := enters_of Tryd.func42 (by kernel_rfl) rfl

def notDigit (c : UInt8) : Bool := decide ((c.toNat : Int) < 48) || decide (57 < (c.toNat : Int))

theorem form1_pred (x : UInt8) (w : World) : Calls Tryd.prog 42 (#[.int .u8 (x.toNat : Int)] ++ #[]) w fun e w' => e = .returned (.bool (notDigit x)) ∧ w = w' := by
  rw [Array.append_empty]
  exact form1_any _ w

theorem notDigit_eq (c : UInt8) : notDigit c = !P01.digit c := by
  unfold notDigit P01.digit
  rw [Bool.eq_iff_iff]
  simp [UInt8.le_iff_toNat_le]
  omega

theorem any_notDigit (l : List UInt8) : l.any notDigit = !l.all P01.digit := by
  induction l with
  | nil => rfl
  | cons c r ih => simp only [List.any_cons, List.all_cons, ih, notDigit_eq, Bool.not_and]

attribute [local simp] mk_get

theorem form_cons_eq (c : UInt8) (r : List UInt8) : P01.form (c :: r) = ((!decide ((c.toNat : Int) = 48) || decide (((r.length : Int) + 1) = 1)) && !(c :: r).any notDigit) := by
  rw [any_notDigit, Bool.not_not]
  unfold P01.form
  have e1 : (some c != some 48) = !decide ((c.toNat : Int) = 48) := by
    rw [Bool.eq_iff_iff]
    simp only [bne_iff_ne, ne_eq, Option.some.injEq, Bool.not_eq_true', decide_eq_false_iff_not]
    have : c = 48 ↔ c.toNat = 48 := by rw [← UInt8.toNat_inj]; rfl
    rw [this]; omega
  have e2 : ((r.length + 1 == 1) : Bool) = decide (((r.length : Int) + 1) = 1) := by
    show decide (r.length + 1 = 1) = _
    exact decide_eq_decide.2 (by omega)
  simp only [List.isEmpty_cons, Bool.not_false, Bool.true_and, List.head?_cons, e1, List.length_cons, e2]

set_option maxHeartbeats 1000000 in
theorem form_nil (w : World) : Calls Tryd.prog 31 #[.string ⟨#[]⟩] w fun e w' => e = .returned (.bool false) ∧ w = w' := by
  go_enter Tryd.func31, Tryd.ntmps31
  go_wp2
  go_ret
  exact ⟨rfl, rfl⟩

set_option maxHeartbeats 1000000 in
theorem form_cons (c : UInt8) (r : List UInt8) (w : World) (hl : (c :: r).length ≤ 9223372036854775807) :
    Calls Tryd.prog 31 #[.string ⟨(c :: r).toArray⟩] w fun e w' => e = .returned (.bool (P01.form (c :: r))) ∧ Below w.heap.size w w' := by
  have kb := fun w s => run_bytes_of_string (P := Tryd.prog) w 9 48 5 s Tryd.underlying9 Tryd.underlying48 Tryd.underlying5
  rw [form_cons_eq]
  by_cases h1 : (c.toNat : Int) = 48
  · by_cases h2 : ((r.length : Int) + 1 = 1)
    · go_enter Tryd.func31, Tryd.ntmps31
      go_wp2_with (go_at_call 41; refine (ContainsFuncB_any notDigit 42 #[] enters13 form1_pred (c :: r) _ _ (by exact (Bytes_conv _ _ _ _ _ hl).drew)).mono ?_; rintro e w' ⟨rfl, rfl⟩)
      go_ret
      exact ⟨by simp [h1, h2], (((Below.refl _ _).alloc (Nat.le_refl _) _).drew)⟩
    · go_enter Tryd.func31, Tryd.ntmps31
      go_wp2
      go_ret
      exact ⟨by simp [h1, h2], Below.refl _ _⟩
  · go_enter Tryd.func31, Tryd.ntmps31
    go_wp2_with (go_at_call 41; refine (ContainsFuncB_any notDigit 42 #[] enters13 form1_pred (c :: r) _ _ (by exact (Bytes_conv _ _ _ _ _ hl).drew)).mono ?_; rintro e w' ⟨rfl, rfl⟩)
    go_ret
    exact ⟨by simp [h1], (((Below.refl _ _).alloc (Nat.le_refl _) _).drew)⟩
end Go.Proofs.YtfjejjdkogfelaaDoor
