/- Contracts: where a frame begins; a latch's literal; what holds at first. -/
import Derived.Test.YtbjioniefalgpaaWalkT3
import Derived.Test.YtbjioniefalgpaaPlainU2
namespace Go.Proofs.Ytbjioniefalgpaa
open Go.RowKit Go.Shelf
attribute [local simp] mk_get

set_option maxRecDepth 100000 in
set_option maxHeartbeats 1000000 in
theorem uright_any (c : PC.Circ) (vc : Value) (fr : Int) (w : World) (h : IsCirc w vc c) :
    Calls Try.prog 42 #[vc, .int .i64 fr] w fun e w' => e = .returned (.bool (decide (0 ≤ fr) && decide (fr ≤ 80) && PC.chk c)) ∧ Below w.heap.size w w' := by
  have hC := fun w1 (hb : Below w.heap.size w w1) => cCheck_ref c vc w1 (h.mono hb)
  obtain ⟨vi, vl, vo, vb, vv, va, vn, rfl, hp, hm⟩ := h
  clear hp
  have hb0 : Below w.heap.size w (w.alloc (.cells #[.int .i64 c.max, vi, vl, vo, vb, vv, va, vn] 27)) := (Below.refl _ _).alloc (Nat.le_refl _) _
  by_cases h1 : 0 ≤ fr
  · by_cases h2 : fr ≤ 80
    · rw [decide_eq_true h1, decide_eq_true h2]
      cases hck : PC.chk c with
      | false =>
        rw [hck] at hC
        clear hck
        go_enter Try.func42, Try.ntmps42
        go_wp2_with (go_at_call 54; refine (hC _ (by exact hb0)).mono ?_; rintro e w1 ⟨rfl, hb1⟩)
        go_ret
        exact ⟨rfl, Below.of hb0 hb1⟩
      | true =>
        rw [hck] at hC
        clear hck
        go_enter Try.func42, Try.ntmps42
        go_wp2_with (go_at_call 54; refine (hC _ (by exact hb0)).mono ?_; rintro e w1 ⟨rfl, hb1⟩)
        go_ret
        exact ⟨rfl, Below.of hb0 hb1⟩
    · rw [decide_eq_true h1, decide_eq_false h2]
      clear hC
      go_enter Try.func42, Try.ntmps42
      go_wp2
      go_ret
      exact ⟨rfl, hb0⟩
  · rw [decide_eq_false h1]
    clear hC
    go_enter Try.func42, Try.ntmps42
    go_wp2
    go_ret
    exact ⟨rfl, hb0⟩

theorem base_bounds (fr mx : Int) (h0 : 0 ≤ mx) (h1 : mx ≤ 2048) (g0 : 0 ≤ fr) (g1 : fr ≤ 81) : 0 ≤ fr * (mx + 1) ∧ fr * (mx + 1) ≤ 165969 := by
  refine ⟨Int.mul_nonneg g0 (by omega), ?_⟩
  have := Int.mul_le_mul g1 (show mx + 1 ≤ 2049 by omega) (by omega) (by omega)
  omega

set_option maxRecDepth 100000 in
theorem ubase_any (c : PC.Circ) (vc : Value) (fr : Int) (w : World) (h : IsCirc w vc c) (h0 : 0 ≤ c.max) (h1 : c.max ≤ 2048) (g0 : 0 ≤ fr) (g1 : fr ≤ 81) :
    Calls Try.prog 46 #[vc, .int .i64 fr] w fun e w' => e = .returned (.int .i64 (fr * (c.max + 1))) ∧ Below w.heap.size w w' := by
  obtain ⟨vi, vl, vo, vb, vv, va, vn, rfl, hp, hm⟩ := h
  clear hp
  have hbb := base_bounds fr c.max h0 h1 g0 g1
  have hb0 : Below w.heap.size w (w.alloc (.cells #[.int .i64 c.max, vi, vl, vo, vb, vv, va, vn] 27)) := (Below.refl _ _).alloc (Nat.le_refl _) _
  have e1 : IntKind.i64.wrap (c.max + 1) = c.max + 1 := IntWalk.i64_in _ (by omega)
  have e2 : IntKind.i64.wrap (fr * (c.max + 1)) = fr * (c.max + 1) := IntWalk.i64_in _ (by omega)
  obtain ⟨r, hr⟩ : ∃ r, r = fr * (c.max + 1) := ⟨_, rfl⟩
  rw [← hr] at e2 ⊢
  have e3 : wrap64 (fr * (c.max + 1)) = r := by rw [← hr]; unfold wrap64; omega
  have e4 : IntKind.i64.wrap (fr * (c.max + 1)) = r := by rw [← hr]; exact e2
  clear hbb hr e2
  go_enter Try.func46, Try.ntmps46
  go_wp2
  go_ret
  exact ⟨rfl, hb0⟩

/-- a latch's literal in a frame -/
def latL (c : PC.Circ) (fr : Int) (j : Nat) : Int := PC.litT (fr * (c.max + 1)) ((c.latches[j]?.getD default).lit)

theorem latL_at (c : PC.Circ) (fr : Int) (j : Nat) (h : j < c.latches.length) : latL c fr j = PC.litT (fr * (c.max + 1)) c.latches[j].lit := by
  unfold latL
  rw [List.getElem?_eq_getElem h]; rfl

set_option maxRecDepth 100000 in
set_option maxHeartbeats 1000000 in
theorem ulatch_pos (c : PC.Circ) (vc : Value) (fr : Int) (j : Nat) (w : World) (h : IsCirc w vc c) (h0 : 0 ≤ c.max) (h1 : c.max ≤ 2048) (g0 : 0 ≤ fr) (g1 : fr ≤ 81) (hj : j < c.latches.length) :
    Calls Try.prog 43 #[vc, .int .i64 fr, .int .i64 ((j : Int) + 1)] w fun e w' => e = .returned (.int .i64 (latL c fr j)) ∧ Below w.heap.size w w' := by
  rw [latL_at c fr j hj]
  have hBase := fun w1 (hb : Below w.heap.size w w1) => ubase_any c vc fr w1 (h.mono hb) h0 h1 g0 g1
  have hbb := base_bounds fr c.max h0 h1 g0 g1
  have n1 : ¬ (j : Int) + 1 < -((j : Int) + 1) := by omega
  have n2 : ¬ (j : Int) + 1 < 0 := by omega
  have n3 : IntKind.i64.wrap (-((j : Int) + 1)) = -((j : Int) + 1) := IntWalk.i64_in _ (by have := hj; have := (show c.latches.length ≤ 9223372036854775807 from by obtain ⟨_, _, _, _, _, _, _, _, hp, _⟩ := h; obtain ⟨_, _, _, a, b, _⟩ := hp.latches.open_; omega); omega)
  obtain ⟨vi, vl, vo, vb, vv, va, vn, rfl, hp, hm⟩ := h
  obtain ⟨al, capl, rfl, hl1, hl2, hl3⟩ := hp.latches.open_
  clear hp
  have hb0 : Below w.heap.size w (w.alloc (.cells #[.int .i64 c.max, vi, .slice al c.latches.length capl, vo, vb, vv, va, vn] 27)) := (Below.refl _ _).alloc (Nat.le_refl _) _
  have hbx := Lib.hid (Box8.new w (.int .i64 c.max) vi (.slice al c.latches.length capl) vo vb vv va vn 27)
  obtain ⟨b, off, rfl, hbs, ⟨hxr, _, _⟩, c0, _, _⟩ := hl3 j hj
  obtain ⟨W1, hW1⟩ : ∃ W1, W1 = w.alloc (.cells #[.int .i64 c.max, vi, .slice (some ⟨b, off, none⟩) c.latches.length capl, vo, vb, vv, va, vn] 27) := ⟨_, rfl⟩
  rw [← hW1] at hb0 hbx
  have c0 : ∀ x1 : Later W1, x1.at_.cell? ⟨b, off + j * 3, none⟩ = some (.int .i64 c.latches[j].lit) := fun x1 => x1.cell ((hb0.cell hbs).trans c0)
  have hB : ∀ x1 : Later W1, _ := fun x1 => hBase x1.at_ (Below.of hb0 x1.below)
  have hL : ∀ x1 : Later W1, _ := fun x1 => tLit_any (fr * (c.max + 1)) c.latches[j].lit x1.at_ hbb.1 (by omega) hxr
  have hrr := rng_litT (fr * (c.max + 1)) c.latches[j].lit hbb.1 (by omega)
  have hrb := PC.litT_small (fr * (c.max + 1)) c.latches[j].lit hbb.1 (by omega)
  generalize PC.litT (fr * (c.max + 1)) c.latches[j].lit = R at *
  have hwR : IntKind.i64.wrap (-R) = -R := IntWalk.i64_in _ (by omega)
  clear hrr hrb
  generalize c.latches[j].lit = y at *
  generalize fr * (c.max + 1) = bs at *
  have hjz : (j : Int) < (c.latches.length : Int) := by omega
  have hjw : IntKind.i64.wrap (j : Int) = (j : Int) := IntWalk.i64_in _ (by omega)
  clear hl3 hBase hbb
  go_enter Try.func43, Try.ntmps43
  go_wp2_with fail
  rw [← hW1]
  clear hW1
  obtain ⟨q0, q1, q2, q3, q4, q5, q6, q7⟩ := hbx.out.later
  refine wp_region_later (by kernel_rfl) (by kernel_rfl) ?_; (repeat (go_big_quiet_step (first | (go_at_call 46; with_reducible exact Calls.later (hB _)) | (go_at_call 29; with_reducible exact Calls.later_same (hL _))))); refine wpQuiet_nil ?_; rintro w3 ⟨⟨_, hb3⟩, rfl⟩
  clear n1 n3 hjz hjw c0 q0 q1 q2 q3 q4 q5 q6 q7 hB hL
  go_wp2
  go_ret
  exact ⟨rfl, Below.of hb0 hb3⟩

set_option maxRecDepth 100000 in
set_option maxHeartbeats 1000000 in
theorem ulatch_neg (c : PC.Circ) (vc : Value) (fr : Int) (j : Nat) (w : World) (h : IsCirc w vc c) (h0 : 0 ≤ c.max) (h1 : c.max ≤ 2048) (g0 : 0 ≤ fr) (g1 : fr ≤ 81) (hj : j < c.latches.length) :
    Calls Try.prog 43 #[vc, .int .i64 fr, .int .i64 (-((j : Int) + 1))] w fun e w' => e = .returned (.int .i64 (-latL c fr j)) ∧ Below w.heap.size w w' := by
  rw [latL_at c fr j hj]
  have hBase := fun w1 (hb : Below w.heap.size w w1) => ubase_any c vc fr w1 (h.mono hb) h0 h1 g0 g1
  have hbb := base_bounds fr c.max h0 h1 g0 g1
  have n1 : -((j : Int) + 1) < (j : Int) + 1 := by omega
  have n2 : -((j : Int) + 1) < 0 := by omega
  have n4 : -(-((j : Int) + 1)) = (j : Int) + 1 := by omega
  have n3 : IntKind.i64.wrap ((j : Int) + 1) = (j : Int) + 1 := IntWalk.i64_in _ (by have := hj; have := (show c.latches.length ≤ 9223372036854775807 from by obtain ⟨_, _, _, _, _, _, _, _, hp, _⟩ := h; obtain ⟨_, _, _, a, b, _⟩ := hp.latches.open_; omega); omega)
  obtain ⟨vi, vl, vo, vb, vv, va, vn, rfl, hp, hm⟩ := h
  obtain ⟨al, capl, rfl, hl1, hl2, hl3⟩ := hp.latches.open_
  clear hp
  have hb0 : Below w.heap.size w (w.alloc (.cells #[.int .i64 c.max, vi, .slice al c.latches.length capl, vo, vb, vv, va, vn] 27)) := (Below.refl _ _).alloc (Nat.le_refl _) _
  have hbx := Lib.hid (Box8.new w (.int .i64 c.max) vi (.slice al c.latches.length capl) vo vb vv va vn 27)
  obtain ⟨b, off, rfl, hbs, ⟨hxr, _, _⟩, c0, _, _⟩ := hl3 j hj
  obtain ⟨W1, hW1⟩ : ∃ W1, W1 = w.alloc (.cells #[.int .i64 c.max, vi, .slice (some ⟨b, off, none⟩) c.latches.length capl, vo, vb, vv, va, vn] 27) := ⟨_, rfl⟩
  rw [← hW1] at hb0 hbx
  have c0 : ∀ x1 : Later W1, x1.at_.cell? ⟨b, off + j * 3, none⟩ = some (.int .i64 c.latches[j].lit) := fun x1 => x1.cell ((hb0.cell hbs).trans c0)
  have hB : ∀ x1 : Later W1, _ := fun x1 => hBase x1.at_ (Below.of hb0 x1.below)
  have hL : ∀ x1 : Later W1, _ := fun x1 => tLit_any (fr * (c.max + 1)) c.latches[j].lit x1.at_ hbb.1 (by omega) hxr
  have hrr := rng_litT (fr * (c.max + 1)) c.latches[j].lit hbb.1 (by omega)
  have hrb := PC.litT_small (fr * (c.max + 1)) c.latches[j].lit hbb.1 (by omega)
  generalize PC.litT (fr * (c.max + 1)) c.latches[j].lit = R at *
  have hwR : IntKind.i64.wrap (-R) = -R := IntWalk.i64_in _ (by omega)
  clear hrr hrb
  generalize c.latches[j].lit = y at *
  generalize fr * (c.max + 1) = bs at *
  have hjz : (j : Int) < (c.latches.length : Int) := by omega
  have hjw : IntKind.i64.wrap (j : Int) = (j : Int) := IntWalk.i64_in _ (by omega)
  clear hl3 hBase hbb
  go_enter Try.func43, Try.ntmps43
  go_wp2_with fail
  rw [← hW1]
  clear hW1
  obtain ⟨q0, q1, q2, q3, q4, q5, q6, q7⟩ := hbx.out.later
  refine wp_region_later (by kernel_rfl) (by kernel_rfl) ?_; (repeat (go_big_quiet_step (first | (go_at_call 46; with_reducible exact Calls.later (hB _)) | (go_at_call 29; with_reducible exact Calls.later_same (hL _))))); refine wpQuiet_nil ?_; rintro w3 ⟨⟨_, hb3⟩, rfl⟩
  clear n1 n3 hjz hjw c0 q0 q1 q2 q3 q4 q5 q6 q7 hB hL
  go_wp2
  go_ret
  exact ⟨rfl, Below.of hb0 hb3⟩

end Go.Proofs.Ytbjioniefalgpaa
