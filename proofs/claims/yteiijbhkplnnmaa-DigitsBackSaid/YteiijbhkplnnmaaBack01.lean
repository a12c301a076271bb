/- DigitsBack: a number from -2^40 to 2^40 comes back from its decimals; a greater one is refused: for every int. -/
import Derived.Test.YteiijbhkplnnmaaWalks01e
import Derived.Test.YteiijbhkplnnmaaFrame
namespace Go.Proofs.Yteiijbhkplnnmaa.digitsBack
open Go.ChangeShapes Go.WideShapes Go.ChangeAt Go.RowKit

theorem laidOut : laidOutB Try.prog = true := by kernel_rfl
theorem own : ownKnob Try.prog.godebug = none := by kernel_rfl

theorem num_any (n : Int) (w : World) : Calls Try.prog 7 #[.int .i64 n] w fun e w' => e = .returned (.int .i64 n) ∧ w = w' := by
  go_enter Try.func7, Try.ntmps7
  go_wp2
  go_ret
  exact ⟨rfl, rfl⟩

theorem parse07 : P01.parse [48, 55] = (0, 33) := by
  have e : P01.form [48, 55] = false := by decide
  unfold P01.parse
  rw [if_pos (Or.inl (by exact e))]

theorem dec12 : P01.decI (-12) = [45, 49, 50] := by
  unfold P01.decI
  rw [if_pos (by omega), show (-12 : Int).natAbs = 12 from rfl, P01.dec_ge 12 (by omega), show 12 / 10 = 1 from rfl, show 12 % 10 = 2 from rfl, P01.dec_lt 1 (by omega)]
  rfl

set_option maxHeartbeats 400000 in
theorem alive_any (w : World) : Calls Try.prog 4 #[] w fun e w' => e = .returned (.bool true) ∧ Below w.heap.size w w' := by
  have hp := Parse_any [48, 55] w (by simp)
  rw [parse07] at hp
  have hq : ∀ w, _ := fun w => Print_any (-12) w (by omega) (by omega)
  simp only [dec12] at hq
  go_enter Try.func4, Try.ntmps4
  go_wp2_with (first | (go_at_call 5; refine hp.mono ?_; rintro e w1 ⟨rfl, hb1⟩) | (go_at_call 7; refine (num_any _ _).mono ?_; rintro e w' ⟨rfl, rfl⟩) | (go_at_call 6; refine (hq _).mono ?_; rintro e w2 ⟨rfl, hb2⟩))
  go_ret
  exact ⟨rfl, Below.of hb1 hb2⟩

set_option maxHeartbeats 1000000 in
theorem walk (n : Int) (w0 : (Lit.int .i64 n).wf = true) (w : World) :
    Calls Try.prog 3 #[.int .i64 n] w fun e w' => e = .returned (.bool true) ∧ Below w.heap.size w w' := by
  have hn := bounds_i64 w0
  clear w0
  obtain ⟨h1, h2⟩ := hn
  have hlen : (P01.decI n).length ≤ 9223372036854775807 := by
    have := P01.dec_len n.natAbs 20 (by omega) (by omega)
    unfold P01.decI
    split <;> simp <;> omega
  have hpr : ∀ w, _ := fun w => Print_any n w (by omega) (by omega)
  have hpa : ∀ w, _ := fun w => Parse_any (P01.decI n) w hlen
  rw [P01.parse_decI] at hpa
  clear hlen
  generalize P01.decI n = l at hpr hpa
  by_cases hA : n < -1099511627776
  · rw [if_pos (Or.inl hA)] at hpa
    go_enter Try.func3, Try.ntmps3
    go_wp2_with (first | (go_at_call 4; refine (alive_any _).mono ?_; rintro e w1 ⟨rfl, hb1⟩) | (go_at_call 5; refine (hpa _).mono ?_; rintro e w3 ⟨rfl, hb3⟩) | (go_at_call 7; refine (num_any _ _).mono ?_; rintro e w' ⟨rfl, rfl⟩) | (go_at_call 6; refine (hpr _).mono ?_; rintro e w2 ⟨rfl, hb2⟩))
    go_ret
    exact ⟨rfl, Below.of (Below.of hb1 hb2) hb3⟩
  · by_cases hB : 1099511627776 < n
    · rw [if_pos (Or.inr hB)] at hpa
      go_enter Try.func3, Try.ntmps3
      go_wp2_with (first | (go_at_call 4; refine (alive_any _).mono ?_; rintro e w1 ⟨rfl, hb1⟩) | (go_at_call 5; refine (hpa _).mono ?_; rintro e w3 ⟨rfl, hb3⟩) | (go_at_call 7; refine (num_any _ _).mono ?_; rintro e w' ⟨rfl, rfl⟩) | (go_at_call 6; refine (hpr _).mono ?_; rintro e w2 ⟨rfl, hb2⟩))
      go_ret
      exact ⟨rfl, Below.of (Below.of hb1 hb2) hb3⟩
    · rw [if_neg (by omega)] at hpa
      go_enter Try.func3, Try.ntmps3
      go_wp2_with (first | (go_at_call 4; refine (alive_any _).mono ?_; rintro e w1 ⟨rfl, hb1⟩) | (go_at_call 5; refine (hpa _).mono ?_; rintro e w3 ⟨rfl, hb3⟩) | (go_at_call 7; refine (num_any _ _).mono ?_; rintro e w' ⟨rfl, rfl⟩) | (go_at_call 6; refine (hpr _).mono ?_; rintro e w2 ⟨rfl, hb2⟩))
      go_ret
      exact ⟨rfl, Below.of (Below.of hb1 hb2) hb3⟩

set_option maxRecDepth 100000 in
theorem lifted (os : Os) (started : os.Started) (H : Type) (enc : TypeId × Value → H) :
    ReturnsInHanded {} Try.checked os 3 .any (Rows.digitsBackSpec.pre6 enc Try.prog Try.f3 Rows.digitsBackRow.domain false) (Rows.digitsBackSpec.post enc Try.prog Try.f3 false true false false) := by
  refine returnsInHanded_of_change (C := Try.checked) own started (by kernel_rfl) Try.func3
    (ChangeSpec.witness6 (enc := enc) (C := Try.checked) false ⟨#[], #[.int .i64 0], []⟩ 8 (by kernel_rfl) (by kernel_rfl) (by kernel_rfl) (by kernel_rfl)) ?_
  intro W base args ds gs before hval0 hW hcnd _
  have hval : ∀ (j : Nat) t v, Try.f3.params[j]? = some t → args[j]? = some v → Value.okWide Try.prog W .any base t v := hval0
  have hW' := hW
  obtain ⟨p, q, hA0, hV, rfl, hfz, hnd⟩ := hW
  have hA : DataW.TrodAll enc Try.prog W 0 (fun _ => true) true Try.f3.params.toList args.toList ds p := hA0
  rw [Try.params3] at hA hval
  obtain ⟨v0, vs0, d0, ds0, p0, q0, hargs, rfl, rfl, h0, r0⟩ := trodAll_cons hA
  obtain ⟨rfl, rfl, rfl⟩ := trodAll_nil r0
  obtain rfl : args = #[v0] := by cases args; simp_all
  obtain ⟨rfl, rfl⟩ := trodVars_none hV
  obtain ⟨a0, rfl, rfl, rfl, w0⟩ := open_int Try.underlying3 (hval 0 3 v0 rfl rfl) h0
  clear hA0 hval0
  simp only [List.append_nil] at hW'
  refine (walk a0 w0 W).mono fun e W' ⟨he, hg⟩ => ?_
  subst he
  exact ⟨_, rfl, post_law laidOut (by rw [Try.params3]; intro t ht; simp only [List.mem_cons, List.mem_nil_iff, or_false, List.mem_toArray] at ht; subst ht; exact ⟨by kernel_rfl, of_decide_eq_true (by kernel_rfl)⟩) rfl hW' hg
    (trodAll_cons_mk (shut_bool Try.underlying4 _) trodAll_mk0) rfl rfl⟩

theorem over : Rows.digitsBackRow.holds Try.pinned (OpenSpec.ofChange Rows.digitsBackSpec) :=
  OpenClaim.holds_of_wide 3 Try.f3 rfl rfl rfl rfl rfl rfl rfl ⟨rfl, rfl, rfl, rfl, rfl⟩ rfl rfl rfl rfl rfl (by kernel_rfl) Try.func3 (by kernel_rfl)
    (of_decide_eq_true (by kernel_rfl)) (by unfold Func.isWrapper; first | (rw [if_pos (by decide +kernel)]; kernel_rfl) | (rw [if_neg (by decide +kernel)]; exact ⟨rfl, rfl⟩))
    (fun os started H enc _ => lifted os started H enc)

theorem proved : Rows.DigitsBackSaid := over
#print axioms proved
end Go.Proofs.Yteiijbhkplnnmaa.digitsBack
