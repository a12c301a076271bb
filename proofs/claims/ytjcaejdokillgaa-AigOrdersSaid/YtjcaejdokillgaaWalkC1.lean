/- Contracts: lits.Var, Neg; the map of what is met; need, define, known. -/
import Derived.Test.YtjcaejdokillgaaLibC
import Derived.Deep.QuietTactic
import Derived.BigQuiet
namespace Go.Proofs.Ytjcaejdokillgaa
open Go.RowKit Go.Shelf

set_option maxHeartbeats 400000 in
theorem litsVar_any (l : Int) (w : World) (h : rng l) : Calls Try.prog 47 #[.int .i64 l] w fun e w' => e = .returned (.int .i64 (PC.varOf l)) ∧ w = w' := by
  obtain ⟨h1, h2⟩ := h
  by_cases h0 : 0 ≤ l
  · have e : (PC.varOf l : Int) = l / 2 := by unfold PC.varOf; omega
    rw [e]
    go_enter Try.func47, Try.ntmps47
    go_wp2
    go_ret
    exact ⟨rfl, rfl⟩
  · have e : (PC.varOf l : Int) = 0 := by unfold PC.varOf; omega
    rw [e]
    go_enter Try.func47, Try.ntmps47
    go_wp2
    go_ret
    exact ⟨rfl, rfl⟩

theorem and_one_i64 (E : Int) (h0 : 0 ≤ E) (h1 : E ≤ 9223372036854775807) : bits BinOp.and IntKind.i64 E 1 = E % 2 := by
  obtain ⟨a, rfl⟩ : ∃ a : Nat, E = (a : Int) := ⟨E.toNat, by omega⟩
  have h1' : (BitVec.ofInt 64 (a : Int)).toNat = a := by
    rw [BitVec.ofInt_natCast, BitVec.toNat_ofNat]; exact Nat.mod_eq_of_lt (by omega)
  have h2 : (BitVec.ofInt 64 ((1 : Nat) : Int)).toNat = 1 := by
    rw [BitVec.ofInt_natCast, BitVec.toNat_ofNat]
  show IntKind.i64.wrap ((BitVec.ofInt 64 (a : Int) &&& BitVec.ofInt 64 ((1 : Nat) : Int)).toNat : Int) = _
  rw [BitVec.toNat_and, h1', h2, Nat.and_one_is_mod]
  have : a % 2 = 0 ∨ a % 2 = 1 := by omega
  have e : ((a : Int) % 2) = ((a % 2 : Nat) : Int) := by omega
  rw [e]
  rcases this with h | h <;> rw [h] <;> rfl

set_option maxHeartbeats 400000 in
theorem litsNeg_any (l : Int) (w : World) (h : rng l) : Calls Try.prog 48 #[.int .i64 l] w fun e w' => e = .returned (.bool (PC.negOf l)) ∧ w = w' := by
  obtain ⟨h1, h2⟩ := h
  by_cases h0 : 0 ≤ l
  · have e : PC.negOf l = (bits BinOp.and IntKind.i64 l 1 == 1) := by
      rw [and_one_i64 l h0 h2]
      by_cases hz : l = 0
      · subst hz; rfl
      · have : 0 < l := by omega
        simp [PC.negOf, this]
        rw [Bool.eq_iff_iff]; simp
    rw [e]
    go_enter Try.func48, Try.ntmps48
    go_wp2
    go_ret
    exact ⟨rfl, rfl⟩
  · have e : PC.negOf l = false := by
      have : ¬ 0 < l := by omega
      simp [PC.negOf, this]
    rw [e]
    go_enter Try.func48, Try.ntmps48
    go_wp2
    go_ret
    exact ⟨rfl, rfl⟩

/-- the map of what is met: the keys, in order; each is told by one letter -/
def Met (w : World) (b : Nat) (ks : List Int) : Prop :=
  ∃ es clk, w.heap[b]? = some (.map es clk) ∧ es.toList.map (·.key) = ks.map (Value.int .i64) ∧ ∀ e ∈ es.toList, ∃ c : UInt8, e.val = .string ⟨#[c]⟩

theorem findNow_met (k : Int) : ∀ (es : List MapEntry) (ks : List Int) (i : Nat), es.map (·.key) = ks.map (Value.int .i64) → (∀ e ∈ es, ∃ c : UInt8, e.val = .string ⟨#[c]⟩) →
    (ks.contains k = true → ∃ j c, Instr.findNow (.int .i64) (.int .i64 k) es i = some (some (j, .string ⟨#[c]⟩))) ∧
    (ks.contains k = false → Instr.findNow (.int .i64) (.int .i64 k) es i = some none) := by
  intro es
  induction es with
  | nil =>
    intro ks i h _
    have : ks = [] := by simpa using h.symm
    subst this
    exact ⟨fun h => by simp at h, fun _ => rfl⟩
  | cons e r ih =>
    intro ks i h hv
    cases ks with
    | nil => simp at h
    | cons k0 ks =>
      simp only [List.map_cons, List.cons.injEq] at h
      obtain ⟨he, hr⟩ := h
      obtain ⟨s, hs⟩ := hv e (by simp)
      have ih' := ih ks (i + 1) hr fun x hx => hv x (by simp [hx])
      by_cases hk : k = k0
      · subst hk
        refine ⟨fun _ => ⟨i, s, ?_⟩, fun h => by simp at h⟩
        simp [Instr.findNow, he, Instr.sameNow, hs]
      · have hkb : (k == k0) = false := by simpa using hk
        constructor
        · intro h
          have : ks.contains k = true := by simpa [hk] using h
          obtain ⟨j, s', h1⟩ := ih'.1 this
          exact ⟨j, s', by simp [Instr.findNow, he, Instr.sameNow, hkb, h1]⟩
        · intro h
          have : ks.contains k = false := by simpa [hk] using h
          simp [Instr.findNow, he, Instr.sameNow, hkb, ih'.2 this]

section
variable {P : Program} {T K E : TypeId}

theorem met_lookup (hT : P.underlying T = some (.map K E)) (hK : P.underlying K = some (.int .i64)) (hz : ∀ w, (zeroValue E).run P w = .ok (.string ⟨#[]⟩) w) {w : World} {b : Nat} {ks : List Int} (h : Met w b ks) (k : Int) :
    (ks.contains k = true → ∃ c : UInt8, ∀ w' : World, w'.heap[b]? = w.heap[b]? → (Instr.lookup T (.map (some b)) (.int .i64 k) false).run P w' = .ok (.string ⟨#[c]⟩) w') ∧
    (ks.contains k = false → ∀ w' : World, w'.heap[b]? = w.heap[b]? → (Instr.lookup T (.map (some b)) (.int .i64 k) false).run P w' = .ok (.string ⟨#[]⟩) w') := by
  obtain ⟨es, clk, hb, hk, hv⟩ := h
  have hf := findNow_met k es.toList ks 0 hk hv
  have hkey : MapKept.IsKey (.int .i64) (.int .i64 k) := by simp [MapKept.IsKey]
  constructor
  · intro hc
    obtain ⟨j, s, h1⟩ := hf.1 hc
    refine ⟨s, fun w' hw => ?_⟩
    have hb' := hw.trans hb
    have hck := MapKept.run_checkKey (P := P) (w := w') hK hkey es.isEmpty 9999
    have hfk := MapKept.run_findKey (P := P) (w := w') hK h1
    simp [Instr.lookup, run_underlying hT, MapKept.run_getObj_map hb', hck, hfk, Result.andThen]
  · intro hc w' hw
    have hb' := hw.trans hb
    have hck := MapKept.run_checkKey (P := P) (w := w') hK hkey es.isEmpty 9999
    have hfk := MapKept.run_findKey (P := P) (w := w') hK (hf.2 hc)
    simp [Instr.lookup, run_underlying hT, MapKept.run_getObj_map hb', hck, hfk, hz, Result.andThen]

theorem met_update (hT : P.underlying T = some (.map K E)) (hK : P.underlying K = some (.int .i64)) {w : World} {b : Nat} {ks : List Int} (h : Met w b ks) (k : Int) (hk : ks.contains k = false) (c : UInt8) :
    ∃ w', (Instr.mapUpdate T (.map (some b)) (.int .i64 k) (.string ⟨#[c]⟩)).run P w = .ok () w' ∧ Met w' b (ks ++ [k]) ∧ w.grownBy w' (some b) ∧ w'.heap.size = w.heap.size := by
  obtain ⟨es, clk, hb, hks, hv⟩ := h
  have hf := (findNow_met k es.toList ks 0 hks hv).2 hk
  have hkey : MapKept.IsKey (.int .i64) (.int .i64 k) := by simp [MapKept.IsKey]
  have hck := MapKept.run_checkKey (P := P) (w := w) hK hkey false 9999
  have hfk := MapKept.run_findKey (P := P) (w := w) hK hf
  have hblt := (Array.getElem?_eq_some_iff.1 hb).1
  refine ⟨{ w with heap := w.heap.setIfInBounds b (.map (es.push ⟨.int .i64 k, .string ⟨#[c]⟩, clk⟩) (clk + 1)) }, by simp [Instr.mapUpdate, run_underlying hT, MapKept.run_getObj_map hb, hck, hfk, Result.andThen, MapKept.run_setObj_map _ hb], ⟨es.push ⟨.int .i64 k, .string ⟨#[c]⟩, clk⟩, clk + 1, ?_, ?_, ?_⟩, ?_, ?_⟩
  · simp [hblt]
  · simp [hks]
  · intro e he
    simp only [Array.toList_push, List.mem_append, List.mem_singleton] at he
    rcases he with he | rfl
    · exact hv e he
    · exact ⟨c, rfl⟩
  · refine ⟨rfl, rfl, rfl, by simp, fun j hj hne => ?_⟩
    have : b ≠ j := fun e => hne (by rw [e])
    simp [Array.getElem?_setIfInBounds_ne this]
  · simp

theorem Met.mono {w w' : World} {b : Nat} {ks : List Int} (h : Met w b ks) (hb : w'.heap[b]? = w.heap[b]?) : Met w' b ks := by
  obtain ⟨es, clk, h1, h2⟩ := h
  exact ⟨es, clk, hb.trans h1, h2⟩

theorem Met.lt {w : World} {b : Nat} {ks : List Int} (h : Met w b ks) : b < w.heap.size := by
  obtain ⟨es, clk, h1, h2⟩ := h
  exact (Array.getElem?_eq_some_iff.1 h1).1
end

/-- the names' cell and the map behind it -/
def Names (w : World) (p b : Nat) (ks : List Int) : Prop := w.cell? ⟨p, 0, none⟩ = some (.map (some b)) ∧ Met w b ks ∧ p ≠ b

theorem Names.mono {w w' : World} {p b : Nat} {ks : List Int} (h : Names w p b ks) (hb : Below w.heap.size w w') : Names w' p b ks := by
  obtain ⟨h1, h2, h3⟩ := h
  exact ⟨(hb.cell (World.block_lt_of_cell? w _ h1)).trans h1, h2.mono (hb.block b h2.lt), h3⟩

theorem zeroStr (w : World) : (zeroValue 9).run Try.prog w = .ok (.string ⟨#[]⟩) w := by kernel_rfl

set_option maxHeartbeats 1000000 in
theorem cknown_any (ks : List Int) (l : Int) (p b : Nat) (w : World) (hl : rng l) (h : Names w p b ks) :
    Calls Try.prog 41 #[.pointer (some ⟨p, 0, none⟩), .int .i64 l] w fun e w' => e = .returned (.bool (decide (0 ≤ l) && (decide (l < 2) || ks.contains (PC.varOf l)))) ∧ Below w.heap.size w w' := by
  have hV : ∀ x : Later w, _ := fun x => litsVar_any l x.at_ hl
  have hlook := met_lookup (T := 93) (K := 3) (E := 9) Try.underlying93 Try.underlying3 zeroStr h.2.1 (PC.varOf l)
  have hblk : ∀ x : Later w, x.at_.heap[b]? = w.heap[b]? := fun x => x.below.block b h.2.1.lt
  have hp : ∀ x : Later w, x.at_.cell? ⟨p, 0, none⟩ = some (.map (some b)) := fun x => x.cell h.1
  obtain ⟨R, hR⟩ : ∃ R, R = (decide (0 ≤ l) && (decide (l < 2) || ks.contains (PC.varOf l))) := ⟨_, rfl⟩
  rw [← hR]
  have HR := Lib.hid hR
  clear hR
  by_cases h0 : 0 ≤ l
  · by_cases h2 : l < 2
    · go_enter Try.func41, Try.ntmps41
      go_wp2_with fail
      refine wp_region_later (by kernel_rfl) (by kernel_rfl) ?_; (repeat (go_big_quiet_step ((go_at_call 47; with_reducible exact Calls.later_same (hV _))))); refine wpQuiet_nil ?_; rintro w3 ⟨⟨_, hb3⟩, rfl⟩
      go_wp2
      go_ret
      exact ⟨by rw [HR.out]; simp [h0, h2], hb3⟩
    · have h2' : decide (l < 2) = false := by simpa using h2
      cases hc : ks.contains (PC.varOf l) with
      | true =>
        obtain ⟨c, hl1⟩ := hlook.1 hc
        have hlook : ∀ x : Later w, _ := fun x => hl1 x.at_ (hblk x)
        clear hl1 hblk
        go_enter Try.func41, Try.ntmps41
        go_wp2_with fail
        refine wp_region_later (by kernel_rfl) (by kernel_rfl) ?_; (repeat (go_big_quiet_step ((go_at_call 47; with_reducible exact Calls.later_same (hV _))))); refine wpQuiet_nil ?_; rintro w3 ⟨⟨_, hb3⟩, rfl⟩
        go_wp2
        go_ret
        have e : R = true := by rw [HR.out, hc, h2', decide_eq_true h0]; rfl
        exact ⟨by rw [e]; rfl, hb3⟩
      | false =>
        have hlook : ∀ x : Later w, _ := fun x => hlook.2 hc x.at_ (hblk x)
        clear hblk
        go_enter Try.func41, Try.ntmps41
        go_wp2_with fail
        refine wp_region_later (by kernel_rfl) (by kernel_rfl) ?_; (repeat (go_big_quiet_step ((go_at_call 47; with_reducible exact Calls.later_same (hV _))))); refine wpQuiet_nil ?_; rintro w3 ⟨⟨_, hb3⟩, rfl⟩
        go_wp2
        go_ret
        have e : R = false := by rw [HR.out, hc, h2', decide_eq_true h0]; rfl
        exact ⟨by rw [e]; rfl, hb3⟩
  · have h0' : decide (0 ≤ l) = false := by simpa using h0
    go_enter Try.func41, Try.ntmps41
    go_wp2_with fail
    refine wp_region_later (by kernel_rfl) (by kernel_rfl) ?_; (repeat (go_big_quiet_step ((go_at_call 47; with_reducible exact Calls.later_same (hV _))))); refine wpQuiet_nil ?_; rintro w3 ⟨⟨_, hb3⟩, rfl⟩
    go_wp2
    go_ret
    have e : R = false := by rw [HR.out, h0']; rfl
    exact ⟨by rw [e]; rfl, hb3⟩

end Go.Proofs.Ytjcaejdokillgaa
