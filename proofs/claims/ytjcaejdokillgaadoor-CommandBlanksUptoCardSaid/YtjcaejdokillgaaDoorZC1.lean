/- Contract: all variables that a circuit defines. -/
import Derived.Test.YtjcaejdokillgaaDoorZL2
import Derived.Deep.QuietTactic
import Derived.BigQuiet
import Derived.StillTailTactics
import Derived.Test.YtjcaejdokillgaaDoorZP1
namespace Go.Proofs.YtjcaejdokillgaaDoor
open Go.RowKit Go.Shelf

set_option maxHeartbeats 400000 in
theorem litsVar_any (l : Int) (w : World) (h : rng l) : Calls Tryd.prog 97 #[.int .i64 l] w fun e w' => e = .returned (.int .i64 (PC.varOf l)) ∧ w = w' := by
  obtain ⟨h1, h2⟩ := h
  by_cases h0 : 0 ≤ l
  · have e : (PC.varOf l : Int) = l / 2 := by unfold PC.varOf; omega
    rw [e]
    go_enter Tryd.func97, Tryd.ntmps97
    go_wp2
    go_ret
    exact ⟨rfl, rfl⟩
  · have e : (PC.varOf l : Int) = 0 := by unfold PC.varOf; omega
    rw [e]
    go_enter Tryd.func97, Tryd.ntmps97
    go_wp2
    go_ret
    exact ⟨rfl, rfl⟩

theorem and_one_i64 (E : Int) (h0 : 0 ≤ E) (h1 : E ≤ 9223372036854775807) : bits BinOp.and IntKind.i64 E 1 = E % 2 := by
  obtain ⟨a, rfl⟩ : ∃ a : Nat, E = (a : Int) := ⟨E.toNat, by omega⟩
  have h1' : (BitVec.ofInt 64 (a : Int)).toNat = a := by
    rw [BitVec.ofInt_natCast, BitVec.toNat_ofNat]; exact Nat.mod_eq_of_lt (by omega)
  have h2 : (BitVec.ofInt 64 ((1 : Nat) : Int)).toNat = 1 := by
    rw [BitVec.ofInt_natCast, BitVec.toNat_ofNat]
  show IntKind.i64.wrap ((BitVec.ofInt 64 (a : Int) &&& BitVec.ofInt 64 ((1 : Nat) : Int)).toNat : Int) = _
  rw [BitVec.toNat_and, h1', h2, Nat.and_one_is_mod]
  have : a % 2 = 0 ∨ a % 2 = 1 := by omega
  have e : ((a : Int) % 2) = ((a % 2 : Nat) : Int) := by omega
  rw [e]
  rcases this with h | h <;> rw [h] <;> rfl

set_option maxHeartbeats 400000 in
theorem litsNeg_any (l : Int) (w : World) (h : rng l) : Calls Tryd.prog 122 #[.int .i64 l] w fun e w' => e = .returned (.bool (PC.negOf l)) ∧ w = w' := by
  obtain ⟨h1, h2⟩ := h
  by_cases h0 : 0 ≤ l
  · have e : PC.negOf l = (bits BinOp.and IntKind.i64 l 1 == 1) := by
      rw [and_one_i64 l h0 h2]
      by_cases hz : l = 0
      · subst hz; rfl
      · have : 0 < l := by omega
        simp [PC.negOf, this]
        rw [Bool.eq_iff_iff]; simp
    rw [e]
    go_enter Tryd.func122, Tryd.ntmps122
    go_wp2
    go_ret
    exact ⟨rfl, rfl⟩
  · have e : PC.negOf l = false := by
      have : ¬ 0 < l := by omega
      simp [PC.negOf, this]
    rw [e]
    go_enter Tryd.func122, Tryd.ntmps122
    go_wp2
    go_ret
    exact ⟨rfl, rfl⟩

/-- the map of what is met: the keys, in order; each is told by one letter -/
def Met (w : World) (b : Nat) (ks : List Int) : Prop :=
  ∃ es clk, w.heap[b]? = some (.map es clk) ∧ es.toList.map (·.key) = ks.map (Value.int .i64) ∧ ∀ e ∈ es.toList, ∃ c : UInt8, e.val = .string ⟨#[c]⟩

theorem findNow_met (k : Int) : ∀ (es : List MapEntry) (ks : List Int) (i : Nat), es.map (·.key) = ks.map (Value.int .i64) → (∀ e ∈ es, ∃ c : UInt8, e.val = .string ⟨#[c]⟩) →
    (ks.contains k = true → ∃ j c, Instr.findNow (.int .i64) (.int .i64 k) es i = some (some (j, .string ⟨#[c]⟩))) ∧
    (ks.contains k = false → Instr.findNow (.int .i64) (.int .i64 k) es i = some none) := by
  intro es
  induction es with
  | nil =>
    intro ks i h _
    have : ks = [] := by simpa using h.symm
    subst this
    exact ⟨fun h => by simp at h, fun _ => rfl⟩
  | cons e r ih =>
    intro ks i h hv
    cases ks with
    | nil => simp at h
    | cons k0 ks =>
      simp only [List.map_cons, List.cons.injEq] at h
      obtain ⟨he, hr⟩ := h
      obtain ⟨s, hs⟩ := hv e (by simp)
      have ih' := ih ks (i + 1) hr fun x hx => hv x (by simp [hx])
      by_cases hk : k = k0
      · subst hk
        refine ⟨fun _ => ⟨i, s, ?_⟩, fun h => by simp at h⟩
        simp [Instr.findNow, he, Instr.sameNow, hs]
      · have hkb : (k == k0) = false := by simpa using hk
        constructor
        · intro h
          have : ks.contains k = true := by simpa [hk] using h
          obtain ⟨j, s', h1⟩ := ih'.1 this
          exact ⟨j, s', by simp [Instr.findNow, he, Instr.sameNow, hkb, h1]⟩
        · intro h
          have : ks.contains k = false := by simpa [hk] using h
          simp [Instr.findNow, he, Instr.sameNow, hkb, ih'.2 this]

section
variable {P : Program} {T K E : TypeId}

theorem met_lookup (hT : P.underlying T = some (.map K E)) (hK : P.underlying K = some (.int .i64)) (hz : ∀ w, (zeroValue E).run P w = .ok (.string ⟨#[]⟩) w) {w : World} {b : Nat} {ks : List Int} (h : Met w b ks) (k : Int) :
    (ks.contains k = true → ∃ c : UInt8, ∀ w' : World, w'.heap[b]? = w.heap[b]? → (Instr.lookup T (.map (some b)) (.int .i64 k) false).run P w' = .ok (.string ⟨#[c]⟩) w') ∧
    (ks.contains k = false → ∀ w' : World, w'.heap[b]? = w.heap[b]? → (Instr.lookup T (.map (some b)) (.int .i64 k) false).run P w' = .ok (.string ⟨#[]⟩) w') := by
  obtain ⟨es, clk, hb, hk, hv⟩ := h
  have hf := findNow_met k es.toList ks 0 hk hv
  have hkey : MapKept.IsKey (.int .i64) (.int .i64 k) := by simp [MapKept.IsKey]
  constructor
  · intro hc
    obtain ⟨j, s, h1⟩ := hf.1 hc
    refine ⟨s, fun w' hw => ?_⟩
    have hb' := hw.trans hb
    have hck := MapKept.run_checkKey (P := P) (w := w') hK hkey es.isEmpty 9999
    have hfk := MapKept.run_findKey (P := P) (w := w') hK h1
    simp [Instr.lookup, run_underlying hT, MapKept.run_getObj_map hb', hck, hfk, Result.andThen]
  · intro hc w' hw
    have hb' := hw.trans hb
    have hck := MapKept.run_checkKey (P := P) (w := w') hK hkey es.isEmpty 9999
    have hfk := MapKept.run_findKey (P := P) (w := w') hK (hf.2 hc)
    simp [Instr.lookup, run_underlying hT, MapKept.run_getObj_map hb', hck, hfk, hz, Result.andThen]

theorem met_update (hT : P.underlying T = some (.map K E)) (hK : P.underlying K = some (.int .i64)) {w : World} {b : Nat} {ks : List Int} (h : Met w b ks) (k : Int) (hk : ks.contains k = false) (c : UInt8) :
    ∃ w', (Instr.mapUpdate T (.map (some b)) (.int .i64 k) (.string ⟨#[c]⟩)).run P w = .ok () w' ∧ Met w' b (ks ++ [k]) ∧ w.grownBy w' (some b) ∧ w'.heap.size = w.heap.size := by
  obtain ⟨es, clk, hb, hks, hv⟩ := h
  have hf := (findNow_met k es.toList ks 0 hks hv).2 hk
  have hkey : MapKept.IsKey (.int .i64) (.int .i64 k) := by simp [MapKept.IsKey]
  have hck := MapKept.run_checkKey (P := P) (w := w) hK hkey false 9999
  have hfk := MapKept.run_findKey (P := P) (w := w) hK hf
  have hblt := (Array.getElem?_eq_some_iff.1 hb).1
  refine ⟨{ w with heap := w.heap.setIfInBounds b (.map (es.push ⟨.int .i64 k, .string ⟨#[c]⟩, clk⟩) (clk + 1)) }, by simp [Instr.mapUpdate, run_underlying hT, MapKept.run_getObj_map hb, hck, hfk, Result.andThen, MapKept.run_setObj_map _ hb], ⟨es.push ⟨.int .i64 k, .string ⟨#[c]⟩, clk⟩, clk + 1, ?_, ?_, ?_⟩, ?_, ?_⟩
  · simp [hblt]
  · simp [hks]
  · intro e he
    simp only [Array.toList_push, List.mem_append, List.mem_singleton] at he
    rcases he with he | rfl
    · exact hv e he
    · exact ⟨c, rfl⟩
  · refine ⟨rfl, rfl, rfl, by simp, fun j hj hne => ?_⟩
    have : b ≠ j := fun e => hne (by rw [e])
    simp [Array.getElem?_setIfInBounds_ne this]
  · simp

theorem Met.mono {w w' : World} {b : Nat} {ks : List Int} (h : Met w b ks) (hb : w'.heap[b]? = w.heap[b]?) : Met w' b ks := by
  obtain ⟨es, clk, h1, h2⟩ := h
  exact ⟨es, clk, hb.trans h1, h2⟩

theorem Met.lt {w : World} {b : Nat} {ks : List Int} (h : Met w b ks) : b < w.heap.size := by
  obtain ⟨es, clk, h1, h2⟩ := h
  exact (Array.getElem?_eq_some_iff.1 h1).1
end

/-- the names' cell and the map behind it -/
def Names (w : World) (p b : Nat) (ks : List Int) : Prop := w.cell? ⟨p, 0, none⟩ = some (.map (some b)) ∧ Met w b ks ∧ p ≠ b

theorem Names.mono {w w' : World} {p b : Nat} {ks : List Int} (h : Names w p b ks) (hb : Below w.heap.size w w') : Names w' p b ks := by
  obtain ⟨h1, h2, h3⟩ := h
  exact ⟨(hb.cell (World.block_lt_of_cell? w _ h1)).trans h1, h2.mono (hb.block b h2.lt), h3⟩

theorem zeroStr (w : World) : (zeroValue 9).run Tryd.prog w = .ok (.string ⟨#[]⟩) w := by kernel_rfl

set_option maxHeartbeats 1000000 in
theorem cknown_any (ks : List Int) (l : Int) (p b : Nat) (w : World) (hl : rng l) (h : Names w p b ks) :
    Calls Tryd.prog 66 #[.pointer (some ⟨p, 0, none⟩), .int .i64 l] w fun e w' => e = .returned (.bool (decide (0 ≤ l) && (decide (l < 2) || ks.contains (PC.varOf l)))) ∧ Below w.heap.size w w' := by
  have hV : ∀ x : Later w, _ := fun x => litsVar_any l x.at_ hl
  have hlook := met_lookup (T := 139) (K := 3) (E := 9) Tryd.underlying139 Tryd.underlying3 zeroStr h.2.1 (PC.varOf l)
  have hblk : ∀ x : Later w, x.at_.heap[b]? = w.heap[b]? := fun x => x.below.block b h.2.1.lt
  have hp : ∀ x : Later w, x.at_.cell? ⟨p, 0, none⟩ = some (.map (some b)) := fun x => x.cell h.1
  obtain ⟨R, hR⟩ : ∃ R, R = (decide (0 ≤ l) && (decide (l < 2) || ks.contains (PC.varOf l))) := ⟨_, rfl⟩
  rw [← hR]
  have HR := Lib.hid hR
  clear hR
  by_cases h0 : 0 ≤ l
  · by_cases h2 : l < 2
    · go_enter Tryd.func66, Tryd.ntmps66
      go_wp2_with fail
      refine wp_region_later (by kernel_rfl) (by kernel_rfl) ?_; (repeat (go_big_quiet_step ((go_at_call 97; with_reducible exact Calls.later_same (hV _))))); refine wpQuiet_nil ?_; rintro w3 ⟨⟨_, hb3⟩, rfl⟩
      go_wp2
      go_ret
      exact ⟨by rw [HR.out]; simp [h0, h2], hb3⟩
    · have h2' : decide (l < 2) = false := by simpa using h2
      cases hc : ks.contains (PC.varOf l) with
      | true =>
        obtain ⟨c, hl1⟩ := hlook.1 hc
        have hlook : ∀ x : Later w, _ := fun x => hl1 x.at_ (hblk x)
        clear hl1 hblk
        go_enter Tryd.func66, Tryd.ntmps66
        go_wp2_with fail
        refine wp_region_later (by kernel_rfl) (by kernel_rfl) ?_; (repeat (go_big_quiet_step ((go_at_call 97; with_reducible exact Calls.later_same (hV _))))); refine wpQuiet_nil ?_; rintro w3 ⟨⟨_, hb3⟩, rfl⟩
        go_wp2
        go_ret
        have e : R = true := by rw [HR.out, hc, h2', decide_eq_true h0]; rfl
        exact ⟨by rw [e]; rfl, hb3⟩
      | false =>
        have hlook : ∀ x : Later w, _ := fun x => hlook.2 hc x.at_ (hblk x)
        clear hblk
        go_enter Tryd.func66, Tryd.ntmps66
        go_wp2_with fail
        refine wp_region_later (by kernel_rfl) (by kernel_rfl) ?_; (repeat (go_big_quiet_step ((go_at_call 97; with_reducible exact Calls.later_same (hV _))))); refine wpQuiet_nil ?_; rintro w3 ⟨⟨_, hb3⟩, rfl⟩
        go_wp2
        go_ret
        have e : R = false := by rw [HR.out, hc, h2', decide_eq_true h0]; rfl
        exact ⟨by rw [e]; rfl, hb3⟩
  · have h0' : decide (0 ≤ l) = false := by simpa using h0
    go_enter Tryd.func66, Tryd.ntmps66
    go_wp2_with fail
    refine wp_region_later (by kernel_rfl) (by kernel_rfl) ?_; (repeat (go_big_quiet_step ((go_at_call 97; with_reducible exact Calls.later_same (hV _))))); refine wpQuiet_nil ?_; rintro w3 ⟨⟨_, hb3⟩, rfl⟩
    go_wp2
    go_ret
    have e : R = false := by rw [HR.out, h0']; rfl
    exact ⟨by rw [e]; rfl, hb3⟩

end Go.Proofs.YtjcaejdokillgaaDoor

namespace Go.Proofs.YtjcaejdokillgaaDoor
open Go.RowKit Go.Shelf

/-- the fault that need raises -/
def stChain : List PanicEntry := [{ v := .iface 29 (.int .i64 9), recovered := false }]

theorem need_yes (w : World) : Calls Tryd.prog 64 #[.bool true] w fun e w' => e = .returned (.tuple #[]) ∧ w = w' := by
  go_enter Tryd.func64, Tryd.ntmps64
  go_wp2
  go_end0
  exact ⟨rfl, rfl⟩

theorem need_no (w : World) : Calls Tryd.prog 64 #[.bool false] w fun e w' => e = .panicked stChain ∧ w = w' := by
  go_enter Tryd.func64, Tryd.ntmps64
  go_wp2
  exact ⟨rfl, rfl, rfl⟩

theorem define_yes (ks : List Int) (l most : Int) (kc : UInt8) (p b : Nat) (w : World) (hl : rng l) (_hm : rng most) (h : Names w p b ks) (hok : PC.defineOk most ks l = true) :
    Calls Tryd.prog 96 #[.pointer (some ⟨p, 0, none⟩), .int .i64 l, .int .i64 most, .string ⟨#[kc]⟩] w fun e w' =>
      e = .returned (.tuple #[]) ∧ Names w' p b (ks ++ [l / 2]) ∧ w.grownBy w' (some b) := by
  simp only [PC.defineOk, Bool.and_eq_true, decide_eq_true_eq, Bool.not_eq_true'] at hok
  obtain ⟨⟨⟨h1, h2⟩, h3⟩, h4⟩ := hok
  have hv : (PC.varOf l : Int) = l / 2 := by unfold PC.varOf; omega
  have hneg : PC.negOf l = false := by simp [PC.negOf]; omega
  have hV := litsVar_any l w hl
  have hNg := litsNeg_any l w hl
  rw [hneg] at hNg
  rw [hv] at hV
  have hlook := (met_lookup (T := 139) (K := 3) (E := 9) Tryd.underlying139 Tryd.underlying3 zeroStr h.2.1 (l / 2)).2 h4 w rfl
  obtain ⟨w1, hup, hmet, hgr, hsz⟩ := met_update (T := 139) (K := 3) (E := 9) Tryd.underlying139 Tryd.underlying3 h.2.1 (l / 2) h4 kc
  have hp := h.1
  have hk := hgr.cell h.1 (fun e => h.2.2 (by simpa using e))
  have hN : Names w1 p b (ks ++ [l / 2]) := ⟨hk, hmet, h.2.2⟩
  go_enter Tryd.func96, Tryd.ntmps96
  go_wp2_with (first | (go_at_call 97; refine hV.mono ?_; rintro e w2 ⟨rfl, rfl⟩) | (go_at_call 122; refine hNg.mono ?_; rintro e w2 ⟨rfl, rfl⟩) | (go_at_call 64; refine (need_yes _).mono ?_; rintro e w2 ⟨rfl, rfl⟩))
  go_end0
  exact ⟨rfl, hN, hgr⟩

theorem define_no (ks : List Int) (l most : Int) (kc : UInt8) (p b : Nat) (w : World) (hl : rng l) (_hm : rng most) (h : Names w p b ks) (hok : PC.defineOk most ks l = false) :
    Calls Tryd.prog 96 #[.pointer (some ⟨p, 0, none⟩), .int .i64 l, .int .i64 most, .string ⟨#[kc]⟩] w fun e w' => e = .panicked stChain ∧ w = w' := by
  have hV := litsVar_any l w hl
  have hNg := litsNeg_any l w hl
  by_cases h1 : 2 ≤ l
  · have hv : (PC.varOf l : Int) = l / 2 := by unfold PC.varOf; omega
    rw [hv] at hV
    by_cases h2 : l % 2 = 0
    · have hneg : PC.negOf l = false := by simp [PC.negOf]; omega
      rw [hneg] at hNg
      by_cases h3 : l / 2 ≤ most
      · have h4 : ks.contains (l / 2) = true := by
          simpa [PC.defineOk, h1, h2, h3] using hok
        obtain ⟨cc, hl1⟩ := (met_lookup (T := 139) (K := 3) (E := 9) Tryd.underlying139 Tryd.underlying3 zeroStr h.2.1 (l / 2)).1 h4
        have hlook := hl1 w rfl
        have hp := h.1
        go_enter Tryd.func96, Tryd.ntmps96
        go_wp2_with (first | (go_at_call 97; refine hV.mono ?_; rintro e w2 ⟨rfl, rfl⟩) | (go_at_call 122; refine hNg.mono ?_; rintro e w2 ⟨rfl, rfl⟩) | (go_at_call 64; refine (need_no _).mono ?_; rintro e w2 ⟨rfl, rfl⟩))
        exact ⟨rfl, rfl, rfl⟩
      · go_enter Tryd.func96, Tryd.ntmps96
        go_wp2_with (first | (go_at_call 97; refine hV.mono ?_; rintro e w2 ⟨rfl, rfl⟩) | (go_at_call 122; refine hNg.mono ?_; rintro e w2 ⟨rfl, rfl⟩) | (go_at_call 64; refine (need_no _).mono ?_; rintro e w2 ⟨rfl, rfl⟩))
        exact ⟨rfl, rfl, rfl⟩
    · have hneg : PC.negOf l = true := by simp [PC.negOf]; omega
      rw [hneg] at hNg
      go_enter Tryd.func96, Tryd.ntmps96
      go_wp2_with (first | (go_at_call 97; refine hV.mono ?_; rintro e w2 ⟨rfl, rfl⟩) | (go_at_call 122; refine hNg.mono ?_; rintro e w2 ⟨rfl, rfl⟩) | (go_at_call 64; refine (need_no _).mono ?_; rintro e w2 ⟨rfl, rfl⟩))
      exact ⟨rfl, rfl, rfl⟩
  · go_enter Tryd.func96, Tryd.ntmps96
    go_wp2_with (first | (go_at_call 97; refine hV.mono ?_; rintro e w2 ⟨rfl, rfl⟩) | (go_at_call 122; refine hNg.mono ?_; rintro e w2 ⟨rfl, rfl⟩) | (go_at_call 64; refine (need_no _).mono ?_; rintro e w2 ⟨rfl, rfl⟩))
    exact ⟨rfl, rfl, rfl⟩

end Go.Proofs.YtjcaejdokillgaaDoor

namespace Go.Proofs.YtjcaejdokillgaaDoor
open Go.RowKit Go.Shelf

theorem heap_new (w : World) (o : Obj) : (w.alloc o).heap[w.heap.size]? = some o := by
  show (w.heap.push o)[w.heap.size]? = _
  rw [Array.getElem?_push, if_pos rfl]

theorem Met.new (w : World) : Met (w.alloc (.map #[] 0)) w.heap.size [] :=
  ⟨#[], 0, heap_new w _, rfl, fun e he => by simp at he⟩

theorem Names.new (w : World) (t : TypeId) : Names ((w.alloc (.map #[] 0)).alloc (.cells #[.map (some w.heap.size)] t)) (w.heap.size + 1) w.heap.size [] := by
  have hs : (w.alloc (.map #[] 0)).heap.size = w.heap.size + 1 := World.size_alloc _ _
  refine ⟨?_, (Met.new w).mono ?_, by omega⟩
  · have h : ((w.alloc (.map #[] 0)).alloc (.cells #[.map (some w.heap.size)] t)).cell? ⟨(w.alloc (.map #[] 0)).heap.size, 0, none⟩ = (#[.map (some w.heap.size)] : Array Value)[0]? := World.cell?_alloc_mark _ _ _ _ _
    rw [hs] at h
    exact h
  · exact Below.heap_alloc _ _ _ (by omega)

/-- what 'defined' ends with -/
def DefPost (c : PC.Circ) (w : World) (e : Ending) (w' : World) : Prop :=
  (PC.definedOk c = true ∧ ∃ p b, e = .returned (.pointer (some ⟨p, 0, none⟩)) ∧ w.heap.size ≤ b ∧ Names w' p b (PC.mets c) ∧ Below w.heap.size w w') ∨ (PC.definedOk c = false ∧ e = .panicked stChain ∧ Below w.heap.size w w')

theorem Box8.kept {w w' : World} {b r : Nat} {x0 x1 x2 x3 x4 x5 x6 x7 : Value} (h : Box8 w b x0 x1 x2 x3 x4 x5 x6 x7) (hg : w.grownBy w' (some r)) (hne : b ≠ r) : Box8 w' b x0 x1 x2 x3 x4 x5 x6 x7 := by
  have e : some b ≠ some r := fun e => hne (by cases e; rfl)
  obtain ⟨h0, h1, h2, h3, h4, h5, h6, h7⟩ := h
  exact ⟨hg.cell h0 e, hg.cell h1 e, hg.cell h2 e, hg.cell h3 e, hg.cell h4 e, hg.cell h5 e, hg.cell h6 e, hg.cell h7 e⟩

theorem Box3.kept {w w' : World} {b r : Nat} {x0 x1 x2 : Value} (h : Box3 w b x0 x1 x2) (hg : w.grownBy w' (some r)) (hne : b ≠ r) : Box3 w' b x0 x1 x2 := by
  have e : some b ≠ some r := fun e => hne (by cases e; rfl)
  obtain ⟨h0, h1, h2⟩ := h
  exact ⟨hg.cell h0 e, hg.cell h1 e, hg.cell h2 e⟩

set_option maxRecDepth 100000 in
set_option maxHeartbeats 8000000 in
theorem cdefined_any (c : PC.Circ) (vc : Value) (w : World) (h : IsCirc w vc c) :
    Calls Tryd.prog 65 #[vc] w (DefPost c w) := by
  obtain ⟨vi, vl, vo, vb, vv, va, vn, rfl, hp, hm⟩ := h
  obtain ⟨ai, capi, rfl, hi1, hi2, hi3⟩ := hp.inputs.open_
  obtain ⟨al, capl, rfl, hl1, hl2, hl3⟩ := hp.latches.open_
  obtain ⟨aa, capa, rfl, ha1, ha2, ha3⟩ := hp.ands.open_
  have hIr := Lib.hid hp.inputs.2
  clear hp
  have HI := Lib.hid hi3
  have HL := Lib.hid hl3
  have HG := Lib.hid ha3
  clear hl3 ha3 hi3
  have hD0 := Lib.hid (PC.sIn_zero c)
  have hmk : ∀ w1 : World, (Instr.makeMap 139 none).run Tryd.prog w1 = .ok (.map (some w1.heap.size)) (w1.alloc (.map #[] 0)) := fun w1 => run_makeMap _ w1
  go_enter Tryd.func65, Tryd.ntmps65
  go_wp2_with fail
  generalize hW0 : ((w.alloc (.cells #[.int .i64 c.max, .slice ai c.inputs.length capi, .slice al c.latches.length capl, vo, vb, vv, .slice aa c.ands.length capa, vn] 27)).alloc (.map #[] 0)).alloc (.cells #[.map (some (w.heap.size + 1))] 141) = W0
  have hb0 : Below w.heap.size w W0 := by
    subst hW0
    exact (((Below.refl _ _).alloc (Nat.le_refl _) _).alloc (by simp) _).alloc (by simp; omega) _
  have hbx0 : Box8 W0 w.heap.size (.int .i64 c.max) (.slice ai c.inputs.length capi) (.slice al c.latches.length capl) vo vb vv (.slice aa c.ands.length capa) vn := by
    subst hW0
    exact (Box8.new w _ _ _ _ _ _ _ _ _).mono (((Below.refl _ _).alloc (Nat.le_refl _) _).alloc (by simp) _)
  have hn0 : Names W0 (w.heap.size + 1 + 1) (w.heap.size + 1) [] := by
    subst hW0
    have := Names.new (w.alloc (.cells #[.int .i64 c.max, .slice ai c.inputs.length capi, .slice al c.latches.length capl, vo, vb, vv, .slice aa c.ands.length capa, vn] 27)) 141
    rw [World.size_alloc] at this
    exact this
  clear hW0 hmk
  have hne : w.heap.size ≠ w.heap.size + 1 := by omega
  have hbm : w.heap.size ≤ w.heap.size + 1 := by omega
  generalize w.heap.size + 1 + 1 = bp at *
  generalize w.heap.size + 1 = bm at *
  go_loopg [16] c.inputs.length (fun gg s16 wr => ∃ k : Nat, k ≤ c.inputs.length ∧ c.inputs.length - k ≤ gg ∧ s16 = .int .i64 k ∧ Below w.heap.size w wr ∧
    Aside (Box8 wr w.heap.size (.int .i64 c.max) (.slice ai c.inputs.length capi) (.slice al c.latches.length capl) vo vb vv (.slice aa c.ands.length capa) vn) ∧ Aside (Names wr bp bm (PC.metI c k)) ∧ Aside (PC.definedOk c = PC.sIn c k))
  case atStart => exact ⟨0, Nat.zero_le _, by omega, rfl, hb0, hbx0, hn0, hD0.out⟩
  case round =>
    obtain ⟨k, hk, hg, rfl, hbelr, hbxr, hNr, HD⟩ := hrel
    obtain ⟨q0, q1, q2, q3, q4, q5, q6, q7⟩ := hbxr.out
    by_cases hlt : k < c.inputs.length
    · obtain ⟨b, off, rfl, hbs', hxr, c0⟩ := HI.out k hlt
      have c0 := (hbelr.cell hbs').trans c0
      have hms := Lib.hid (PC.metI_succ c k hlt)
      generalize hx : c.inputs[k] = x at *
      have X := Lib.hid hx
      clear hx
      have hltz : (k : Int) < (c.inputs.length : Int) := by omega
      cases d : PC.defineOk c.max (PC.metI c k) x with
      | true =>
        have DO := Lib.hid d
        clear d
        go_wp2_with (go_at_call 96; refine (define_yes _ _ _ _ _ _ _ (by exact hxr) hm (by exact hNr.out) (by exact DO.out)).mono ?_; rintro e w2 ⟨rfl, hN2, hg2⟩)
        go_roundg (c.inputs.length - (k + 1))
        case measure => omega
        case rel =>
          refine ⟨k + 1, by omega, by omega, by go_num, hbelr.grown hg2 hbelr.size (by rintro _ ⟨⟩; omega), hbxr.out.kept hg2 hne, ?_, ?_⟩
          · rw [hms.out]; exact hN2
          · have := HD.out
            rw [PC.sIn_step c k hlt, X.out, DO.out] at this
            exact this
      | false =>
        have DO := Lib.hid d
        clear d
        go_wp2_with (go_at_call 96; refine (define_no _ _ _ _ _ _ _ (by exact hxr) hm (by exact hNr.out) (by exact DO.out)).mono ?_; rintro e w2 ⟨rfl, rfl⟩)
        refine ⟨rfl, Or.inr ⟨?_, rfl, hbelr⟩⟩
        rw [HD.out, PC.sIn_step c k hlt, X.out, DO.out]
        rfl
    · have hltz : ¬ (k : Int) < (c.inputs.length : Int) := by omega
      obtain rfl : k = c.inputs.length := by omega
      have hD1 : PC.definedOk c = PC.sLat c 0 := by rw [HD.out, PC.sIn_end]
      have hn1 : Names wr bp bm (PC.metL c 0) := by
        have e : PC.metL c 0 = PC.metI c c.inputs.length := by simp [PC.metL, PC.metI]
        rw [e]; exact hNr.out
      have hD1 := Lib.hid hD1
      clear HD HI hn0 hbx0 hb0 hD0
      go_wp2_with fail
      go_loopg [29] c.latches.length (fun gg s29 wr => ∃ k : Nat, k ≤ c.latches.length ∧ c.latches.length - k ≤ gg ∧ s29 = .int .i64 k ∧ Below w.heap.size w wr ∧
        Aside (Box8 wr w.heap.size (.int .i64 c.max) (.slice ai c.inputs.length capi) (.slice al c.latches.length capl) vo vb vv (.slice aa c.ands.length capa) vn) ∧ Aside (Names wr bp bm (PC.metL c k)) ∧ Aside (PC.definedOk c = PC.sLat c k))
      case atStart => exact ⟨0, Nat.zero_le _, by omega, rfl, hbelr, hbxr.out, hn1, hD1.out⟩
      case round =>
        clear q0 q1 q2 q3 q4 q5 q6 q7 hbelr hbxr hNr hn1 hD1 hg hk hlt hltz
        obtain ⟨k, hk, hg, rfl, hbelr, hbxr, hNr, HD⟩ := hrel
        obtain ⟨q0, q1, q2, q3, q4, q5, q6, q7⟩ := hbxr.out
        by_cases hlt : k < c.latches.length
        · obtain ⟨b, off, rfl, hbs', ⟨hxr, hxn, hxs⟩, c0, c1, c2⟩ := HL.out k hlt
          have c0 := (hbelr.cell hbs').trans c0
          have c1 := (hbelr.cell hbs').trans c1
          have c2 := (hbelr.cell hbs').trans c2
          have hms := Lib.hid (PC.metL_succ c k hlt)
          generalize hx : c.latches[k] = x at *
          have X := Lib.hid hx
          clear hx
          have hltz : (k : Int) < (c.latches.length : Int) := by omega
          have hw1 : ∃ w1, w1 = wr.alloc (.cells #[.int .i64 x.lit, .int .i64 x.next, .int .i64 x.reset] 64) := ⟨_, rfl⟩
          obtain ⟨w1, hw1⟩ := hw1
          have hbw : Below wr.heap.size wr w1 := by rw [hw1]; exact (Below.refl _ _).alloc (Nat.le_refl _) _
          have hY : Hid (Box3 w1 wr.heap.size (.int .i64 x.lit) (.int .i64 x.next) (.int .i64 x.reset)) := by rw [hw1]; exact Box3.new _ _ _ _ _
          have hne3 : wr.heap.size ≠ bm := by have := hNr.out.2.1.lt; omega
          have hb1 := Lib.hid (Below.trans hbelr (hbw.mono hbelr.size))
          have hbs1 := Nat.le_trans hbelr.size hbw.size
          have hbx1 := Lib.hid (hbxr.out.mono hbw)
          have hnw := hNr.out.mono hbw
          subst hw1
          have p0 := past1 q0
          cases d : PC.defineOk c.max (PC.metL c k) x.lit with
          | false =>
            have DO := Lib.hid d
            clear d
            go_wp2_with (go_at_call 96; refine (define_no _ _ _ _ _ _ _ (by exact hxr) hm (by exact hnw) (by exact DO.out)).mono ?_; rintro e w2 ⟨rfl, rfl⟩)
            refine ⟨rfl, Or.inr ⟨?_, rfl, hb1.out⟩⟩
            rw [HD.out, PC.sLat_step c k hlt, X.out, DO.out]
            rfl
          | true =>
            have DO := Lib.hid d
            clear d
            go_wp2_with fail
            refine (define_yes _ _ _ _ _ _ _ (by exact hxr) hm (by exact hnw) (by exact DO.out)).mono ?_
            rintro e w2 ⟨rfl, hN2, hg2⟩
            have hN2 := Lib.hid hN2
            have hbox2 := Lib.hid (hbx1.out.kept hg2 hne)
            obtain ⟨n0, n1, n2⟩ := hY.out.kept hg2 hne3
            clear q0 q1 q2 q3 q4 q5 q6 q7 hnw p0
            obtain ⟨q0, q1, q2, q3, q4, q5, q6, q7⟩ := hbox2.out
            by_cases r1 : x.reset = 0
            · have HRS : Hid (PC.resetOk x = true) := by simp [Hid, PC.resetOk, r1]
              go_wp2_with (go_at_call 64; refine (need_yes _).mono ?_; rintro e w5 ⟨rfl, rfl⟩)
              go_roundg (c.latches.length - (k + 1))
              case measure => omega
              case rel =>
                refine ⟨k + 1, by omega, by omega, by go_num, hb1.out.grown hg2 hbs1 (by rintro _ ⟨⟩; omega), hbox2.out, ?_, ?_⟩
                · rw [hms.out]; exact hN2.out
                · have := HD.out
                  rw [PC.sLat_step c k hlt, X.out, DO.out, HRS.out] at this
                  exact this
            · by_cases r2 : x.reset = 1
              · have HRS : Hid (PC.resetOk x = true) := by simp [Hid, PC.resetOk, r2]
                go_wp2_with (go_at_call 64; refine (need_yes _).mono ?_; rintro e w5 ⟨rfl, rfl⟩)
                go_roundg (c.latches.length - (k + 1))
                case measure => omega
                case rel =>
                  refine ⟨k + 1, by omega, by omega, by go_num, hb1.out.grown hg2 hbs1 (by rintro _ ⟨⟩; omega), hbox2.out, ?_, ?_⟩
                  · rw [hms.out]; exact hN2.out
                  · have := HD.out
                    rw [PC.sLat_step c k hlt, X.out, DO.out, HRS.out] at this
                    exact this
              · by_cases r3 : x.reset = x.lit
                · have HRS : Hid (PC.resetOk x = true) := by simp [Hid, PC.resetOk, r3]
                  go_wp2_with (go_at_call 64; refine (need_yes _).mono ?_; rintro e w5 ⟨rfl, rfl⟩)
                  go_roundg (c.latches.length - (k + 1))
                  case measure => omega
                  case rel =>
                    refine ⟨k + 1, by omega, by omega, by go_num, hb1.out.grown hg2 hbs1 (by rintro _ ⟨⟩; omega), hbox2.out, ?_, ?_⟩
                    · rw [hms.out]; exact hN2.out
                    · have := HD.out
                      rw [PC.sLat_step c k hlt, X.out, DO.out, HRS.out] at this
                      exact this
                · have HRS : Hid (PC.resetOk x = false) := by simp [Hid, PC.resetOk, r1, r2, r3]
                  have r3' : (x.reset == x.lit) = false := by simpa using r3
                  have r1' : (x.reset == 0) = false := by simpa using r1
                  have r2' : (x.reset == 1) = false := by simpa using r2
                  go_wp2_with (go_at_call 64; refine (need_no _).mono ?_; rintro e w5 ⟨rfl, rfl⟩)
                  refine ⟨rfl, Or.inr ⟨?_, rfl, hb1.out.grown hg2 hbs1 (by rintro _ ⟨⟩; omega)⟩⟩
                  rw [HD.out, PC.sLat_step c k hlt, X.out, DO.out, HRS.out]
                  rfl
        · have hltz : ¬ (k : Int) < (c.latches.length : Int) := by omega
          obtain rfl : k = c.latches.length := by omega
          have hD1 : PC.definedOk c = PC.sGat c 0 := by rw [HD.out, PC.sLat_end]
          have hn1 : Names wr bp bm (PC.metG c 0) := by
            have e : PC.metG c 0 = PC.metL c c.latches.length := by simp [PC.metL, PC.metG]
            rw [e]; exact hNr.out
          have hD1 := Lib.hid hD1
          clear HD HL
          go_wp2_with fail
          go_loopg [59] c.ands.length (fun gg s59 wr => ∃ k : Nat, k ≤ c.ands.length ∧ c.ands.length - k ≤ gg ∧ s59 = .int .i64 k ∧ Below w.heap.size w wr ∧
            Aside (Box8 wr w.heap.size (.int .i64 c.max) (.slice ai c.inputs.length capi) (.slice al c.latches.length capl) vo vb vv (.slice aa c.ands.length capa) vn) ∧ Aside (Names wr bp bm (PC.metG c k)) ∧ Aside (PC.definedOk c = PC.sGat c k))
          case atStart => exact ⟨0, Nat.zero_le _, by omega, rfl, hbelr, hbxr.out, hn1, hD1.out⟩
          case round =>
            clear q0 q1 q2 q3 q4 q5 q6 q7 hbelr hbxr hNr hn1 hD1 hg hk hlt hltz
            obtain ⟨k, hk, hg, rfl, hbelr, hbxr, hNr, HD⟩ := hrel
            obtain ⟨q0, q1, q2, q3, q4, q5, q6, q7⟩ := hbxr.out
            by_cases hlt : k < c.ands.length
            · have hprev : ¬ k = 0 → ∃ b off p, aa = some ⟨b, off, none⟩ ∧ b < w.heap.size ∧ rng p ∧ w.cell? ⟨b, off + (k - 1) * 3, none⟩ = some (.int .i64 p) ∧ (c.ands[k - 1]'(by omega)).lit = p := by
                intro h0
                obtain ⟨b, off, e, hbs', ⟨hr, _⟩, c0, _⟩ := HG.out (k - 1) (by omega)
                exact ⟨b, off, _, e, hbs', hr, c0, rfl⟩
              have hprev := Lib.hid hprev
              have hmea : ∀ g : Nat, c.ands.length - k ≤ g → c.ands.length - (k + 1) < g := fun g h => by omega
              obtain ⟨b, off, haa, hbs', ⟨hxr, hxn, hxs⟩, c0, c1, c2⟩ := HG.out k hlt
              have c0 := (hbelr.cell hbs').trans c0
              have c1 := (hbelr.cell hbs').trans c1
              have c2 := (hbelr.cell hbs').trans c2
              have hms := Lib.hid (PC.metG_succ c k hlt)
              generalize hx : c.ands[k] = x at *
              have X := Lib.hid hx
              clear hx
              subst haa
              have hltz : (k : Int) < (c.ands.length : Int) := by omega
              have hbw : Below wr.heap.size wr (wr.alloc (.cells #[.int .i64 x.lit, .int .i64 x.left, .int .i64 x.right] 66)) := (Below.refl _ _).alloc (Nat.le_refl _) _
              have hY : Hid (Box3 (wr.alloc (.cells #[.int .i64 x.lit, .int .i64 x.left, .int .i64 x.right] 66)) wr.heap.size (.int .i64 x.lit) (.int .i64 x.left) (.int .i64 x.right)) := Box3.new _ _ _ _ _
              have hne3 : wr.heap.size ≠ bm := by have := hNr.out.2.1.lt; omega
              have hb1 := Lib.hid (Below.trans hbelr (hbw.mono hbelr.size))
              have hbs1 := Nat.le_trans hbelr.size hbw.size
              have hbx1 := Lib.hid (hbxr.out.mono hbw)
              have hnw := hNr.out.mono hbw
              have p0 := past1 q0
              have HDk : Hid (∀ (d : PC.defineOk c.max (PC.metG c k) x.lit = false), PC.definedOk c = false) := by
                intro d
                rw [HD.out]
                by_cases h0 : k = 0
                · subst h0; rw [PC.sGat_zero c hlt, X.out, d]; rfl
                · rw [PC.sGat_step c k (by omega) hlt, X.out, d]; rfl
              cases d : PC.defineOk c.max (PC.metG c k) x.lit with
              | false =>
                have DO := Lib.hid d
                clear d
                go_wp2_with (go_at_call 96; refine (define_no _ _ _ _ _ _ _ (by exact hxr) hm (by exact hnw) (by exact DO.out)).mono ?_; rintro e w2 ⟨rfl, rfl⟩)
                exact ⟨rfl, Or.inr ⟨HDk.out DO.out, rfl, hb1.out⟩⟩
              | true =>
                have DO := Lib.hid d
                clear d
                go_wp2_with fail
                refine (define_yes _ _ _ _ _ _ _ (by exact hxr) hm (by exact hnw) (by exact DO.out)).mono ?_
                rintro e w2 ⟨rfl, hN2, hg2⟩
                have hN2 := Lib.hid hN2
                have hbox2 := Lib.hid (hbx1.out.kept hg2 hne)
                obtain ⟨n0, n1, n2⟩ := (hY.out.kept hg2 hne3).later
                have hb2 := Lib.hid (hb1.out.grown hg2 hbs1 (by rintro _ ⟨⟩; omega))
                clear q0 q1 q2 q3 q4 q5 q6 q7 hnw p0 c0 c1 c2
                obtain ⟨q0, q1, q2, q3, q4, q5, q6, q7⟩ := hbox2.out.later
                by_cases h0 : k = 0
                · have hk0 : (k : Int) = 0 := by omega
                  have hneed : ∀ x1 : Later w2, _ := fun x1 => need_yes x1.at_
                  go_wp2_with fail
                  refine wp_region_later (by kernel_rfl) (by kernel_rfl) ?_; (repeat (go_big_quiet_step ((go_at_call 64; with_reducible exact Calls.later_same (hneed _))))); refine wpQuiet_nil ?_; rintro w3 ⟨⟨_, hb3⟩, rfl⟩
                  go_wp2
                  go_roundg (c.ands.length - (k + 1))
                  case measure => exact hmea _ hg
                  case rel =>
                    refine ⟨k + 1, by omega, by omega, by go_num, Below.of (hb1.out.grown hg2 hbs1 (by rintro _ ⟨⟩; omega)) hb3, hbox2.out.mono hb3, ?_, ?_⟩
                    · rw [hms.out]; exact hN2.out.mono hb3
                    · subst h0; have := HD.out; rw [PC.sGat_zero c hlt, X.out, DO.out] at this; exact this
                · obtain ⟨b', off', p, e, _, ⟨hp1, hp2⟩, hpc, hpe⟩ := hprev.out h0
                  cases e
                  have hk0 : 0 < (k : Int) := by omega
                  have hkN : 0 < k := by omega
                  have hk1 : ¬ (k : Int) = 0 := by omega
                  have hk2 : ((k : Int) == 0) = false := by simpa using hk1
                  have hpc : ∀ x1 : Later w2, x1.at_.cell? ⟨b, off + (k - 1) * 3, none⟩ = some (.int .i64 p) := fun x1 => x1.cell ((hb2.out.cell hbs').trans hpc)
                  by_cases hle : p < x.lit
                  · have HLE := Lib.hid hle
                    have hneed : ∀ x1 : Later w2, _ := fun x1 => need_yes x1.at_
                    go_wp2_with fail
                    refine wp_region_later (by kernel_rfl) (by kernel_rfl) ?_; (repeat (go_big_quiet_step ((go_at_call 64; with_reducible exact Calls.later_same (hneed _))))); refine wpQuiet_nil ?_; rintro w3 ⟨⟨_, hb3⟩, rfl⟩
                    go_wp2
                    go_roundg (c.ands.length - (k + 1))
                    case measure => exact hmea _ hg
                    case rel =>
                      refine ⟨k + 1, by omega, by omega, by go_num, Below.of (hb1.out.grown hg2 hbs1 (by rintro _ ⟨⟩; omega)) hb3, hbox2.out.mono hb3, ?_, ?_⟩
                      · rw [hms.out]; exact hN2.out.mono hb3
                      · have := HD.out; rw [PC.sGat_step c k hkN hlt, X.out, DO.out, hpe, decide_eq_true HLE.out] at this; exact this
                  · have hle1 : x.lit ≤ p := by omega
                    have hle2 : decide (p < x.lit) = false := by simpa using hle
                    have hHLE := Lib.hid hle
                    obtain ⟨q0, q1, q2, q3, q4, q5, q6, q7⟩ := hbox2.out
                    obtain ⟨n0, n1, n2⟩ := hY.out.kept hg2 hne3
                    have hpc := hpc (Later.now w2)
                    simp only [Later.now] at hpc
                    obtain ⟨j, rfl⟩ : ∃ j, k = j + 1 := ⟨k - 1, by omega⟩
                    simp only [Nat.add_sub_cancel] at hpc
                    have hj1 : ((j + 1 : Nat) : Int) - 1 = (j : Int) := by omega
                    have hj2 : (j : Int) < (c.ands.length : Int) := by omega
                    have hj3 : j < c.ands.length := by omega
                    have hj4 : ¬ ((j : Int) + 1 = 0) := by omega
                    have hj5 : ((j : Int) + 1 == 0) = false := by simpa using hj4
                    have hj6 : IntKind.i64.wrap (j : Int) = (j : Int) := IntWalk.i64_in _ (by omega)
                    go_wp2_with fail
                    go_still_tail 14, (by kernel_rfl)
                    change wpList _ _ _ _ _ w2.drew
                    go_wp2_with (go_at_call 64; refine (need_no _).mono ?_; rintro e w5 ⟨rfl, rfl⟩)
                    refine ⟨rfl, Or.inr ⟨?_, rfl, hb2.out.drew⟩⟩
                    rw [HD.out, PC.sGat_step c (j + 1) (by omega) hlt, X.out, DO.out, hpe, hle2]
                    rfl
            · have hltz : ¬ (k : Int) < (c.ands.length : Int) := by omega
              obtain rfl : k = c.ands.length := by omega
              have hD1 : PC.definedOk c = true := by rw [HD.out, PC.sGat_end]
              have hn1 := hNr.out
              rw [PC.metG_end] at hn1
              go_wp2
              go_ret
              exact Or.inl ⟨hD1, bp, bm, rfl, hbm, hn1, hbelr⟩

end Go.Proofs.YtjcaejdokillgaaDoor
