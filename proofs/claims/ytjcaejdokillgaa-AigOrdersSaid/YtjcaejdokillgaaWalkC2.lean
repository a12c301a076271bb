/- Contracts: need, define. -/
import Derived.Test.YtjcaejdokillgaaWalkC1
import Derived.StillTailTactics
namespace Go.Proofs.Ytjcaejdokillgaa
open Go.RowKit Go.Shelf

/-- the fault that need raises -/
def stChain : List PanicEntry := [{ v := .iface 30 (.int .i64 9), recovered := false }]

theorem need_yes (w : World) : Calls Try.prog 39 #[.bool true] w fun e w' => e = .returned (.tuple #[]) ∧ w = w' := by
  go_enter Try.func39, Try.ntmps39
  go_wp2
  go_end0
  exact ⟨rfl, rfl⟩

theorem need_no (w : World) : Calls Try.prog 39 #[.bool false] w fun e w' => e = .panicked stChain ∧ w = w' := by
  go_enter Try.func39, Try.ntmps39
  go_wp2
  exact ⟨rfl, rfl, rfl⟩

theorem define_yes (ks : List Int) (l most : Int) (kc : UInt8) (p b : Nat) (w : World) (hl : rng l) (_hm : rng most) (h : Names w p b ks) (hok : PC.defineOk most ks l = true) :
    Calls Try.prog 55 #[.pointer (some ⟨p, 0, none⟩), .int .i64 l, .int .i64 most, .string ⟨#[kc]⟩] w fun e w' =>
      e = .returned (.tuple #[]) ∧ Names w' p b (ks ++ [l / 2]) ∧ w.grownBy w' (some b) := by
  simp only [PC.defineOk, Bool.and_eq_true, decide_eq_true_eq, Bool.not_eq_true'] at hok
  obtain ⟨⟨⟨h1, h2⟩, h3⟩, h4⟩ := hok
  have hv : (PC.varOf l : Int) = l / 2 := by unfold PC.varOf; omega
  have hneg : PC.negOf l = false := by simp [PC.negOf]; omega
  have hV := litsVar_any l w hl
  have hNg := litsNeg_any l w hl
  rw [hneg] at hNg
  rw [hv] at hV
  have hlook := (met_lookup (T := 93) (K := 3) (E := 9) Try.underlying93 Try.underlying3 zeroStr h.2.1 (l / 2)).2 h4 w rfl
  obtain ⟨w1, hup, hmet, hgr, hsz⟩ := met_update (T := 93) (K := 3) (E := 9) Try.underlying93 Try.underlying3 h.2.1 (l / 2) h4 kc
  have hp := h.1
  have hk := hgr.cell h.1 (fun e => h.2.2 (by simpa using e))
  have hN : Names w1 p b (ks ++ [l / 2]) := ⟨hk, hmet, h.2.2⟩
  go_enter Try.func55, Try.ntmps55
  go_wp2_with (first | (go_at_call 47; refine hV.mono ?_; rintro e w2 ⟨rfl, rfl⟩) | (go_at_call 48; refine hNg.mono ?_; rintro e w2 ⟨rfl, rfl⟩) | (go_at_call 39; refine (need_yes _).mono ?_; rintro e w2 ⟨rfl, rfl⟩))
  go_end0
  exact ⟨rfl, hN, hgr⟩

theorem define_no (ks : List Int) (l most : Int) (kc : UInt8) (p b : Nat) (w : World) (hl : rng l) (_hm : rng most) (h : Names w p b ks) (hok : PC.defineOk most ks l = false) :
    Calls Try.prog 55 #[.pointer (some ⟨p, 0, none⟩), .int .i64 l, .int .i64 most, .string ⟨#[kc]⟩] w fun e w' => e = .panicked stChain ∧ w = w' := by
  have hV := litsVar_any l w hl
  have hNg := litsNeg_any l w hl
  by_cases h1 : 2 ≤ l
  · have hv : (PC.varOf l : Int) = l / 2 := by unfold PC.varOf; omega
    rw [hv] at hV
    by_cases h2 : l % 2 = 0
    · have hneg : PC.negOf l = false := by simp [PC.negOf]; omega
      rw [hneg] at hNg
      by_cases h3 : l / 2 ≤ most
      · have h4 : ks.contains (l / 2) = true := by
          simpa [PC.defineOk, h1, h2, h3] using hok
        obtain ⟨cc, hl1⟩ := (met_lookup (T := 93) (K := 3) (E := 9) Try.underlying93 Try.underlying3 zeroStr h.2.1 (l / 2)).1 h4
        have hlook := hl1 w rfl
        have hp := h.1
        go_enter Try.func55, Try.ntmps55
        go_wp2_with (first | (go_at_call 47; refine hV.mono ?_; rintro e w2 ⟨rfl, rfl⟩) | (go_at_call 48; refine hNg.mono ?_; rintro e w2 ⟨rfl, rfl⟩) | (go_at_call 39; refine (need_no _).mono ?_; rintro e w2 ⟨rfl, rfl⟩))
        exact ⟨rfl, rfl, rfl⟩
      · go_enter Try.func55, Try.ntmps55
        go_wp2_with (first | (go_at_call 47; refine hV.mono ?_; rintro e w2 ⟨rfl, rfl⟩) | (go_at_call 48; refine hNg.mono ?_; rintro e w2 ⟨rfl, rfl⟩) | (go_at_call 39; refine (need_no _).mono ?_; rintro e w2 ⟨rfl, rfl⟩))
        exact ⟨rfl, rfl, rfl⟩
    · have hneg : PC.negOf l = true := by simp [PC.negOf]; omega
      rw [hneg] at hNg
      go_enter Try.func55, Try.ntmps55
      go_wp2_with (first | (go_at_call 47; refine hV.mono ?_; rintro e w2 ⟨rfl, rfl⟩) | (go_at_call 48; refine hNg.mono ?_; rintro e w2 ⟨rfl, rfl⟩) | (go_at_call 39; refine (need_no _).mono ?_; rintro e w2 ⟨rfl, rfl⟩))
      exact ⟨rfl, rfl, rfl⟩
  · go_enter Try.func55, Try.ntmps55
    go_wp2_with (first | (go_at_call 47; refine hV.mono ?_; rintro e w2 ⟨rfl, rfl⟩) | (go_at_call 48; refine hNg.mono ?_; rintro e w2 ⟨rfl, rfl⟩) | (go_at_call 39; refine (need_no _).mono ?_; rintro e w2 ⟨rfl, rfl⟩))
    exact ⟨rfl, rfl, rfl⟩

end Go.Proofs.Ytjcaejdokillgaa
