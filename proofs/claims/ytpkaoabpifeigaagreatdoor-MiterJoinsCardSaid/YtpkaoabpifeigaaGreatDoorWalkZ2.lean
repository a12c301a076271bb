/- Contracts: lits.Not, lits.Make; the map from variables to literals; a literal, moved; slices.Clone at ints; literals, moved; a latch's reset, moved. -/
import Derived.Test.YtpkaoabpifeigaaGreatDoorWalkC1
import Derived.Test.YtpkaoabpifeigaaGreatDoorPlainZ
import Derived.Test.YtpkaoabpifeigaaGreatDoorWalkM5
import Derived.Deep.Onto
import Derived.Lib.SliceRun
namespace Go.Proofs.YtpkaoabpifeigaaGreatDoor
open Go.RowKit Go.Shelf

theorem nat_xor_one' (a : Nat) : a ^^^ 1 = if a % 2 = 0 then a + 1 else a - 1 := by
  have h1 : (a ^^^ 1) / 2 = a / 2 := by rw [Nat.xor_div_two]; simp
  have h2 : (a ^^^ 1) % 2 = (a + 1) % 2 := by
    have h := Nat.testBit_xor a 1 0
    rw [Nat.testBit_zero, Nat.testBit_zero, Nat.testBit_zero] at h
    have e : decide ((1:Nat) % 2 = 1) = true := rfl
    rw [e] at h
    rcases (by omega : a % 2 = 0 ∨ a % 2 = 1) with h1 | h1
    · rw [h1] at h
      have : (a ^^^ 1) % 2 = 1 := by simpa using h
      omega
    · rw [h1] at h
      have : ¬ (a ^^^ 1) % 2 = 1 := by simpa using h
      omega
  generalize a ^^^ 1 = x at *
  split <;> omega

theorem xor_nat_i64 (a b : Nat) (h1 : a ≤ 9223372036854775807) (hb : b < 2) : bits BinOp.xor IntKind.i64 (a : Int) (b : Int) = if b = 0 then (a : Int) else PC.opn a := by
  have h1' : (BitVec.ofInt 64 (a : Int)).toNat = a := by
    rw [BitVec.ofInt_natCast, BitVec.toNat_ofNat]; exact Nat.mod_eq_of_lt (by omega)
  have h2 : (BitVec.ofInt 64 (b : Int)).toNat = b := by
    rw [BitVec.ofInt_natCast, BitVec.toNat_ofNat]; exact Nat.mod_eq_of_lt (by omega)
  show IntKind.i64.wrap ((BitVec.ofInt 64 (a : Int) ^^^ BitVec.ofInt 64 (b : Int)).toNat : Int) = _
  rw [BitVec.toNat_xor, h1', h2]
  rcases (by omega : b = 0 ∨ b = 1) with rfl | rfl
  · rw [Nat.xor_zero, if_pos rfl]
    exact IntWalk.i64_in _ (by omega)
  · rw [nat_xor_one', if_neg (show ¬ (1 : Nat) = 0 by decide)]
    have e : (((if a % 2 = 0 then a + 1 else a - 1 : Nat)) : Int) = PC.opn (a : Int) := by unfold PC.opn; split <;> split <;> omega
    rw [e]
    exact IntWalk.i64_in _ (by unfold PC.opn; split <;> omega)

theorem xor_one (E : Int) (h0 : 0 ≤ E) (h1 : E ≤ 9223372036854775807) : bits BinOp.xor IntKind.i64 E 1 = PC.opn E := by
  obtain ⟨a, rfl⟩ : ∃ a : Nat, E = (a : Int) := ⟨E.toNat, by omega⟩
  exact xor_nat_i64 a 1 (by omega) (by decide)

/-- an even number and a bit -/
theorem xor_bit (t l : Int) (h0 : 2 ≤ t) (h1 : t ≤ 9223372036854775807) (h2 : t % 2 = 0) (h3 : 0 ≤ l) (h4 : l ≤ 9223372036854775807) : bits BinOp.xor IntKind.i64 t (bits BinOp.and IntKind.i64 l 1) = t + l % 2 := by
  rw [and_one_i64 l h3 h4]
  obtain ⟨a, rfl⟩ : ∃ a : Nat, t = (a : Int) := ⟨t.toNat, by omega⟩
  obtain ⟨b, hb⟩ : ∃ b : Nat, l % 2 = (b : Int) := ⟨(l % 2).toNat, by omega⟩
  rw [hb, xor_nat_i64 a b (by omega) (by omega)]
  unfold PC.opn
  split
  · omega
  · omega

theorem litsNot_any (l : Int) (w : World) (h0 : 0 ≤ l) (h1 : l ≤ 9223372036854775807) : Calls Tryz.prog 76 #[.int .i64 l] w fun e w' => e = .returned (.int .i64 (PC.opn l)) ∧ w = w' := by
  have e := xor_one l h0 h1
  have em : max l 0 = l := by omega
  go_enter Tryz.func76, Tryz.ntmps76
  go_wp2
  go_ret
  first
    | exact ⟨rfl, rfl⟩
    | exact ⟨by
        show Ending.returned (Value.int .i64 (bits BinOp.xor IntKind.i64 (max l 0) 1)) = _
        rw [em, e], rfl⟩

theorem litsMake_any (v : Int) (w : World) (h0 : 0 ≤ v) (h1 : v ≤ 1000000) : Calls Tryz.prog 101 #[.int .i64 v, .bool false] w fun e w' => e = .returned (.int .i64 (2 * v)) ∧ w = w' := by
  have e : IntKind.i64.wrap (2 * v) = 2 * v := IntWalk.i64_in _ (by omega)
  go_enter Tryz.func101, Tryz.ntmps101
  go_wp2
  go_ret
  exact ⟨rfl, rfl⟩

/-! ### the map from variables to literals -/
def MapI (w : World) (b : Nat) (ps : List (Int × Int)) : Prop :=
  ∃ es clk, w.heap[b]? = some (.map es clk) ∧ es.toList.map (·.key) = ps.map (fun p => Value.int .i64 p.1) ∧ es.toList.map (·.val) = ps.map (fun p => Value.int .i64 p.2)

theorem findNow_mapI (k : Int) : ∀ (es : List MapEntry) (ps : List (Int × Int)) (i : Nat), es.map (·.key) = ps.map (fun p => Value.int .i64 p.1) → es.map (·.val) = ps.map (fun p => Value.int .i64 p.2) →
    (∀ p, ps.find? (fun p => p.1 == k) = some p → ∃ j, Instr.findNow (.int .i64) (.int .i64 k) es i = some (some (j, .int .i64 p.2))) ∧
    (ps.find? (fun p => p.1 == k) = none → Instr.findNow (.int .i64) (.int .i64 k) es i = some none) := by
  intro es
  induction es with
  | nil =>
    intro ps i h _
    have : ps = [] := by simpa using h.symm
    subst this
    exact ⟨fun p h => by simp at h, fun _ => rfl⟩
  | cons e r ih =>
    intro ps i h hv
    cases ps with
    | nil => simp at h
    | cons p0 ps =>
      simp only [List.map_cons, List.cons.injEq] at h hv
      obtain ⟨he, hr⟩ := h
      obtain ⟨hv1, hv2⟩ := hv
      have ih' := ih ps (i + 1) hr hv2
      by_cases hk : p0.1 = k
      · subst hk
        refine ⟨fun p hp => ?_, fun h => by simp at h⟩
        have : p0 = p := by simpa using hp
        subst this
        exact ⟨i, by simp [Instr.findNow, he, Instr.sameNow, hv1]⟩
      · have hkb : (p0.1 == k) = false := by simpa using hk
        have hkb2 : (k == p0.1) = false := by simpa using fun e => hk e.symm
        constructor
        · intro p h
          rw [List.find?_cons, hkb] at h
          obtain ⟨j, h1⟩ := ih'.1 p h
          exact ⟨j, by simp [Instr.findNow, he, Instr.sameNow, hkb2, h1]⟩
        · intro h
          rw [List.find?_cons, hkb] at h
          simp [Instr.findNow, he, Instr.sameNow, hkb2, ih'.2 h]

section
variable {P : Program} {T K E : TypeId}

theorem mapI_lookup (hT : P.underlying T = some (.map K E)) (hK : P.underlying K = some (.int .i64)) (hz : ∀ w, (zeroValue E).run P w = .ok (.int .i64 0) w) {w : World} {b : Nat} {ps : List (Int × Int)} (h : MapI w b ps) (k : Int) :
    (∀ p, ps.find? (fun p => p.1 == k) = some p → ∀ w' : World, w'.heap[b]? = w.heap[b]? → (Instr.lookup T (.map (some b)) (.int .i64 k) true).run P w' = .ok (.tuple #[.int .i64 p.2, .bool true]) w') ∧
    (ps.find? (fun p => p.1 == k) = none → ∀ w' : World, w'.heap[b]? = w.heap[b]? → (Instr.lookup T (.map (some b)) (.int .i64 k) true).run P w' = .ok (.tuple #[.int .i64 0, .bool false]) w') := by
  obtain ⟨es, clk, hb, hk, hv⟩ := h
  have hf := findNow_mapI k es.toList ps 0 hk hv
  have hkey : MapKept.IsKey (.int .i64) (.int .i64 k) := by simp [MapKept.IsKey]
  constructor
  · intro p hc w' hw
    obtain ⟨j, h1⟩ := hf.1 p hc
    have hb' := hw.trans hb
    have hck := MapKept.run_checkKey (P := P) (w := w') hK hkey es.isEmpty 9999
    have hfk := MapKept.run_findKey (P := P) (w := w') hK h1
    simp [Instr.lookup, run_underlying hT, MapKept.run_getObj_map hb', hck, hfk, Result.andThen]
  · intro hc w' hw
    have hb' := hw.trans hb
    have hck := MapKept.run_checkKey (P := P) (w := w') hK hkey es.isEmpty 9999
    have hfk := MapKept.run_findKey (P := P) (w := w') hK (hf.2 hc)
    simp [Instr.lookup, run_underlying hT, MapKept.run_getObj_map hb', hck, hfk, hz, Result.andThen]

theorem mapI_update (hT : P.underlying T = some (.map K E)) (hK : P.underlying K = some (.int .i64)) {w : World} {b : Nat} {ps : List (Int × Int)} (h : MapI w b ps) (k x : Int) (hk : ps.find? (fun p => p.1 == k) = none) :
    ∃ w', (Instr.mapUpdate T (.map (some b)) (.int .i64 k) (.int .i64 x)).run P w = .ok () w' ∧ MapI w' b (ps ++ [(k, x)]) ∧ w.grownBy w' (some b) ∧ w'.heap.size = w.heap.size := by
  obtain ⟨es, clk, hb, hks, hv⟩ := h
  have hf := (findNow_mapI k es.toList ps 0 hks hv).2 hk
  have hkey : MapKept.IsKey (.int .i64) (.int .i64 k) := by simp [MapKept.IsKey]
  have hck := MapKept.run_checkKey (P := P) (w := w) hK hkey false 9999
  have hfk := MapKept.run_findKey (P := P) (w := w) hK hf
  have hblt := (Array.getElem?_eq_some_iff.1 hb).1
  refine ⟨{ w with heap := w.heap.setIfInBounds b (.map (es.push ⟨.int .i64 k, .int .i64 x, clk⟩) (clk + 1)) }, by simp [Instr.mapUpdate, run_underlying hT, MapKept.run_getObj_map hb, hck, hfk, Result.andThen, MapKept.run_setObj_map _ hb], ⟨es.push ⟨.int .i64 k, .int .i64 x, clk⟩, clk + 1, ?_, ?_, ?_⟩, ?_, ?_⟩
  · simp [hblt]
  · simp [hks]
  · simp [hv]
  · refine ⟨rfl, rfl, rfl, by simp, fun j hj hne => ?_⟩
    have : b ≠ j := fun e => hne (by rw [e])
    simp [Array.getElem?_setIfInBounds_ne this]
  · simp

theorem MapI.keep {w w' : World} {b : Nat} {ps : List (Int × Int)} (h : MapI w b ps) (hb : w'.heap[b]? = w.heap[b]?) : MapI w' b ps := by
  obtain ⟨es, clk, h1, h2⟩ := h
  exact ⟨es, clk, hb.trans h1, h2⟩

theorem MapI.lt {w : World} {b : Nat} {ps : List (Int × Int)} (h : MapI w b ps) : b < w.heap.size := by
  obtain ⟨es, clk, h1, h2⟩ := h
  exact (Array.getElem?_eq_some_iff.1 h1).1

theorem MapI.mono {w w' : World} {b : Nat} {ps : List (Int × Int)} (h : MapI w b ps) (hb : Below w.heap.size w w') : MapI w' b ps := h.keep (hb.block b h.lt)
end

theorem zeroInt (w : World) : (zeroValue 3).run Tryz.prog w = .ok (.int .i64 0) w := by kernel_rfl

/-- variables and what stands for them -/
def pairsI (ins to : List Int) : List (Int × Int) := (ins.zip to).map fun p => ((PC.varOf p.1 : Int), p.2)

theorem pairsI_find (ins to : List Int) (v : Nat) : (pairsI ins to).find? (fun p => p.1 == (v : Int)) = (PC.movI ins to v).map fun t => ((v : Int), t) := by
  unfold pairsI PC.movI
  generalize ins.zip to = l
  induction l with
  | nil => rfl
  | cons p r ih =>
    rw [List.map_cons, List.find?_cons, List.find?_cons]
    by_cases e : PC.varOf p.1 = v
    · rw [e]; simp
    · have e1 : (((PC.varOf p.1 : Nat) : Int) == (v : Int)) = false := by rw [beq_eq_false_iff_ne]; omega
      have e2 : (PC.varOf p.1 == v) = false := by simpa using e
      simp only [e1, e2]
      exact ih

/-- a move of literals: its map and its number -/
def Shf (w : World) (v : Value) (ins to : List Int) (n : Int) : Prop := ∃ b, v = .agg #[.map (some b), .int .i64 n] ∧ MapI w b (pairsI ins to)

theorem Shf.mono {w w' : World} {v : Value} {ins to : List Int} {n : Int} (h : Shf w v ins to n) (hb : Below w.heap.size w w') : Shf w' v ins to n := by
  obtain ⟨b, rfl, h1⟩ := h
  exact ⟨b, rfl, h1.mono hb⟩

/-- two cells at a block's head -/
theorem box2_later (w : World) (x0 x1 : Value) (t : TypeId) : (∀ x : Later (w.alloc (.cells #[x0, x1] t)), x.at_.cell? ⟨w.heap.size, 0, none⟩ = some x0) ∧ (∀ x : Later (w.alloc (.cells #[x0, x1] t)), x.at_.cell? ⟨w.heap.size, 1, none⟩ = some x1) := by
  have h : ∀ j, (w.alloc (.cells #[x0, x1] t)).cell? ⟨w.heap.size, j, none⟩ = (#[x0, x1] : Array Value)[j]? := fun j => World.cell?_alloc_mark _ _ _ _ _
  exact ⟨fun x => x.cell (h 0), fun x => x.cell (h 1)⟩

set_option maxHeartbeats 1000000 in
theorem mLit_any (ins to : List Int) (n l : Int) (v : Value) (w : World) (h : Shf w v ins to n) (ht : ∀ t ∈ to, 2 ≤ t ∧ t % 2 = 0 ∧ t ≤ 9223372036854775806) (h0 : 0 ≤ l) (h1 : l ≤ 1000000) (hn0 : 0 ≤ n) (hn1 : n ≤ 1000000) :
    Calls Tryz.prog 30 #[v, .int .i64 l] w fun e w' => e = .returned (.int .i64 (PC.mov ins to n l)) ∧ Below w.heap.size w w' := by
  obtain ⟨b, rfl, hm⟩ := h
  have hr : rng l := ⟨by omega, by omega⟩
  have hmW := hm.mono ((Below.refl w.heap.size w).alloc (Nat.le_refl _) (.cells #[.map (some b), .int .i64 n] 61))
  have hV : ∀ x : Later (w.alloc (.cells #[.map (some b), .int .i64 n] 61)), _ := fun x => litsVar_any l x.at_ hr
  have hVV := Lib.hid fun w => litsVar_any l w hr
  obtain ⟨p0, p1⟩ := box2_later w (.map (some b)) (.int .i64 n) 61
  have hlook := mapI_lookup (T := 59) (K := 3) (E := 3) Tryz.underlying59 Tryz.underlying3 zeroInt hmW (PC.varOf l)
  rw [pairsI_find] at hlook
  have hblk : ∀ x : Later (w.alloc (.cells #[.map (some b), .int .i64 n] 61)), x.at_.heap[b]? = (w.alloc (.cells #[.map (some b), .int .i64 n] 61)).heap[b]? := fun x => x.below.block b hmW.lt
  have hb0 := Lib.hid ((Below.refl w.heap.size w).alloc (Nat.le_refl _) (.cells #[.map (some b), .int .i64 n] 61))
  obtain ⟨R, hR⟩ : ∃ R, R = PC.mov ins to n l := ⟨_, rfl⟩
  rw [← hR]
  have HR := Lib.hid hR
  clear hR hm hmW
  cases hmv : PC.movI ins to (PC.varOf l) with
  | none =>
    rw [hmv] at hlook
    have hlk : ∀ x : Later (w.alloc (.cells #[.map (some b), .int .i64 n] 61)), _ := fun x => hlook.2 rfl x.at_ (hblk x)
    clear hlook hblk
    by_cases hz : PC.varOf l = 0
    · have hz' : ((PC.varOf l : Nat) : Int) = 0 := by omega
      have e : R = l := by rw [HR.out, PC.mov, if_pos hz]
      clear hz HR hmv
      generalize ((PC.varOf l : Nat) : Int) = V at *
      subst hz'
      go_enter Tryz.func30, Tryz.ntmps30
      go_wp2_with fail
      refine wp_region_later (by kernel_rfl) (by kernel_rfl) ?_; (repeat (go_big_quiet_step ((go_at_call 27; with_reducible exact Calls.later_same (hV _))))); refine wpQuiet_nil ?_; rintro w3 ⟨⟨_, hb3⟩, rfl⟩
      go_wp2_with (go_at_call 27; refine (hVV.out _).mono ?_; rintro e1 w4 ⟨rfl, rfl⟩)
      go_ret
      exact ⟨by rw [e]; rfl, Below.of hb0.out hb3⟩
    · have hz' : ¬ ((PC.varOf l : Nat) : Int) = 0 := by omega
      have hzb : ((((PC.varOf l : Nat) : Int)) == 0) = false := by simpa using hz
      have e1 : IntKind.i64.wrap (2 * n) = 2 * n := IntWalk.i64_in _ (by omega)
      have e2 : IntKind.i64.wrap (l + 2 * n) = l + 2 * n := IntWalk.i64_in _ (by omega)
      have e : R = l + 2 * n := by rw [HR.out, PC.mov, if_neg hz, hmv]
      clear hz HR hmv
      generalize ((PC.varOf l : Nat) : Int) = V at *
      go_enter Tryz.func30, Tryz.ntmps30
      go_wp2_with fail
      refine wp_region_later (by kernel_rfl) (by kernel_rfl) ?_; (repeat (go_big_quiet_step ((go_at_call 27; with_reducible exact Calls.later_same (hV _))))); refine wpQuiet_nil ?_; rintro w3 ⟨⟨_, hb3⟩, rfl⟩
      have hc1 := p1 ⟨_, hb3⟩
      go_wp2_with (go_at_call 27; refine (hVV.out _).mono ?_; rintro e1 w4 ⟨rfl, rfl⟩)
      go_ret
      exact ⟨by rw [e]; rfl, Below.of hb0.out hb3⟩
  | some t =>
    rw [hmv] at hlook
    have htm : t ∈ to := by
      unfold PC.movI at hmv
      obtain ⟨p, hp, rfl⟩ := Option.map_eq_some_iff.1 hmv
      exact (List.of_mem_zip (List.mem_of_find?_eq_some hp)).2
    obtain ⟨t1, t2, t3⟩ := ht t htm
    have hx := xor_bit t l t1 (by omega) t2 h0 (by omega)
    have hlk : ∀ x : Later (w.alloc (.cells #[.map (some b), .int .i64 n] 61)), _ := fun x => hlook.1 _ rfl x.at_ (hblk x)
    clear hlook hblk
    by_cases hz : PC.varOf l = 0
    · have hz' : ((PC.varOf l : Nat) : Int) = 0 := by omega
      have e : R = l := by rw [HR.out, PC.mov, if_pos hz]
      clear hz HR hmv hx
      generalize ((PC.varOf l : Nat) : Int) = V at *
      subst hz'
      go_enter Tryz.func30, Tryz.ntmps30
      go_wp2_with fail
      refine wp_region_later (by kernel_rfl) (by kernel_rfl) ?_; (repeat (go_big_quiet_step ((go_at_call 27; with_reducible exact Calls.later_same (hV _))))); refine wpQuiet_nil ?_; rintro w3 ⟨⟨_, hb3⟩, rfl⟩
      go_wp2_with (go_at_call 27; refine (hVV.out _).mono ?_; rintro e1 w4 ⟨rfl, rfl⟩)
      go_ret
      exact ⟨by rw [e]; rfl, Below.of hb0.out hb3⟩
    · have hz' : ¬ ((PC.varOf l : Nat) : Int) = 0 := by omega
      have hzb : ((((PC.varOf l : Nat) : Int)) == 0) = false := by simpa using hz
      have e : R = t + l % 2 := by rw [HR.out, PC.mov, if_neg hz, hmv]
      clear hz HR hmv
      generalize ((PC.varOf l : Nat) : Int) = V at *
      go_enter Tryz.func30, Tryz.ntmps30
      go_wp2_with fail
      refine wp_region_later (by kernel_rfl) (by kernel_rfl) ?_; (repeat (go_big_quiet_step ((go_at_call 27; with_reducible exact Calls.later_same (hV _))))); refine wpQuiet_nil ?_; rintro w3 ⟨⟨_, hb3⟩, rfl⟩
      go_wp2_with (go_at_call 27; refine (hVV.out _).mono ?_; rintro e1 w4 ⟨rfl, rfl⟩)
      go_ret
      exact ⟨by rw [e]; rfl, Below.of hb0.out hb3⟩

end Go.Proofs.YtpkaoabpifeigaaGreatDoor

namespace Go.Proofs.YtpkaoabpifeigaaGreatDoor
open Go.RowKit Go.Shelf

theorem infoI : (Tryz.prog.info? 3).map (fun i => (i.zero, i.size, i.bytes)) = some (some (.int .i64 0), 1, 8) := by kernel_rfl

theorem owns_below {w w' : World} {B : Nat} {e : TypeId} {k : Nat} {v : Value} {n : Nat} {xs : List Value} (h : w.ownsRow B e k v n xs) (hb : Below w.heap.size w w') : w'.ownsRow B e k v n xs :=
  h.kept ⟨hb.os, hb.tape, hb.output, hb.size, fun b hb' _ => hb.block b hb'⟩ (row := none) (by cases v.ownBlock <;> simp)

/-- ints that the call made -/
def OwnI (w : World) (B : Nat) (v : Value) (l : List Int) : Prop := w.ownsRow B 3 1 v l.length (l.map (Value.int .i64)) ∧ ∀ x ∈ l, rng x

theorem OwnI.ints {w : World} {B : Nat} {v : Value} {l : List Int} (h : OwnI w B v l) : Ints w v l := ⟨Cells.of_owns h.1, h.2⟩
theorem OwnI.mono {w w' : World} {B : Nat} {v : Value} {l : List Int} (h : OwnI w B v l) (hb : Below w.heap.size w w') : OwnI w' B v l := ⟨owns_below h.1 hb, h.2⟩

theorem owns_empty (w : World) (e : TypeId) (k : Nat) : (w.alloc (.cells #[] e)).ownsRow w.heap.size e k (.slice (some ⟨w.heap.size, 0, none⟩) 0 0) 0 [] :=
  ⟨by simp, Or.inr ⟨w.heap.size, 0, #[], rfl, Nat.le_refl _, heap_alloc_new w _, Nat.le_refl _, by omega, by simp, by simp⟩⟩

set_option maxRecDepth 100000 in
set_option maxHeartbeats 1000000 in
theorem CloneI_any (l : List Int) (v : Value) (w : World) (hv : Ints w v l) (hl : l.length * 8 ≤ 140737488355328) :
    Calls Tryz.prog 28 #[v] w fun e w' => ∃ u, e = .returned u ∧ OwnI w' w.heap.size u l ∧ Below w.heap.size w w' := by
  have hcl := hv.1
  have hr := Lib.hid hv.2
  obtain ⟨ao, cap, rfl, h1, h2, h0, h3, h4⟩ := hv.1
  have q22 : ∀ (w : World) (a : Option Addr) (n c n' c' : Nat), (binOp .eql 22 (.slice a n c) (.slice none n' c')).run Tryz.prog w = .ok (.bool a.isNone) w := fun w a n c n' c' => Lib.run_eql_slice_nil w _ _ a n c n' c' Tryz.underlying22
  clear hv h4
  cases ao with
  | none =>
    have := h0 rfl
    subst this
    obtain rfl : l = [] := List.eq_nil_of_length_eq_zero (by omega)
    clear hcl h0 h1 h2 h3 hl
    go_enter Tryz.func28, Tryz.ntmps28
    go_wp2
    go_ret
    exact ⟨_, rfl, ⟨World.ownsRow_nil _ _ _ _, hr.out⟩, Below.refl _ _⟩
  | some ad =>
    have hE := owns_empty w 3 1
    have hbE := (Below.refl w.heap.size w).alloc (Nat.le_refl _) (.cells #[] 3)
    have hcl' := hcl.mono hbE
    clear hcl h0 h3
    have HE := Lib.hid hE
    have HB := Lib.hid hbE
    have HC := Lib.hid hcl'
    have HL := Lib.hid hl
    clear hE hbE hcl' hl h1 h2
    go_enter Tryz.func28, Tryz.ntmps28
    go_wp2_with (at_builtin; refine app_cells rfl _ _ 22 rfl 3 1 8 _ Tryz.underlying22 infoI rfl (by decide) (w0 := w) (B0 := w.heap.size) rfl HE.out HB.out (Nat.le_refl _) HB.out.size rfl HC.out (by intro u hu; obtain ⟨x, _, rfl⟩ := List.mem_map.1 hu; rfl) (by have := HL.out; omega) (by have := HL.out; omega) ?_; intro v3 w3 hown3 hb3 hbs3 hgr3)
    go_ret
    refine ⟨_, rfl, ⟨?_, hr.out⟩, hb3⟩
    rw [Nat.zero_add, List.nil_append] at hown3
    exact hown3

/-- two cells of a block -/
def Box2 (w : World) (b : Nat) (x0 x1 : Value) : Prop := w.cell? ⟨b, 0, none⟩ = some x0 ∧ w.cell? ⟨b, 1, none⟩ = some x1
theorem Box2.new (w : World) (x0 x1 : Value) (t : TypeId) : Box2 (w.alloc (.cells #[x0, x1] t)) w.heap.size x0 x1 := by
  have h : ∀ j, (w.alloc (.cells #[x0, x1] t)).cell? ⟨w.heap.size, j, none⟩ = (#[x0, x1] : Array Value)[j]? := fun j => World.cell?_alloc_mark _ _ _ _ _
  exact ⟨h 0, h 1⟩
theorem Box2.lt {w : World} {b : Nat} {x0 x1 : Value} (h : Box2 w b x0 x1) : b < w.heap.size := World.block_lt_of_cell? w _ h.1
theorem Box2.mono {w w' : World} {b : Nat} {x0 x1 : Value} (h : Box2 w b x0 x1) (hb : Below w.heap.size w w') : Box2 w' b x0 x1 := by
  have hl := h.lt
  exact ⟨(hb.cell hl).trans h.1, (hb.cell hl).trans h.2⟩

/-- what the moved literals may stand for -/
def Tos (to : List Int) : Prop := ∀ t ∈ to, 2 ≤ t ∧ t % 2 = 0 ∧ t ≤ 9223372036854775806

theorem mov_rng {ins to : List Int} {n l : Int} (ht : Tos to) (h0 : 0 ≤ l) (h1 : l ≤ 1000000) (hn0 : 0 ≤ n) (hn1 : n ≤ 1000000) : rng (PC.mov ins to n l) := by
  unfold PC.mov rng
  split
  · omega
  · cases hm : PC.movI ins to (PC.varOf l) with
    | none => simp only; omega
    | some t =>
      have : t ∈ to := by
        unfold PC.movI at hm
        obtain ⟨p, hp, rfl⟩ := Option.map_eq_some_iff.1 hm
        exact (List.of_mem_zip (List.mem_of_find?_eq_some hp)).2
      have := ht t this
      simp only
      omega

set_option maxRecDepth 100000 in
set_option maxHeartbeats 2000000 in
theorem mAll_any (ins to l : List Int) (n : Int) (v vl : Value) (w : World) (h : Shf w v ins to n) (hl : Ints w vl l) (ht : Tos to) (hr : ∀ x ∈ l, 0 ≤ x ∧ x ≤ 1000000) (hn0 : 0 ≤ n) (hn1 : n ≤ 1000000) (hm : l.length ≤ 64) :
    Calls Tryz.prog 29 #[v, vl] w fun e w' => ∃ u, e = .returned u ∧ OwnI w' w.heap.size u (l.map (PC.mov ins to n)) ∧ Below w.heap.size w w' := by
  have hS := Lib.hid h
  have hb0 := (Below.refl w.heap.size w).alloc (Nat.le_refl _) (.cells (v.cells) 61)
  obtain ⟨b, rfl, hmp⟩ := h
  obtain ⟨ao, cap, rfl, h1, h2, hc⟩ := hl.open_
  have hbx := Box2.new w (.map (some b)) (.int .i64 n) 61
  simp only [Value.cells] at hb0
  have hSW := hS.out.mono hb0
  obtain ⟨W, hW⟩ : ∃ W, W = w.alloc (.cells #[.map (some b), .int .i64 n] 61) := ⟨_, rfl⟩
  rw [← hW] at hb0 hbx hSW
  have HW := Lib.hid hW
  have HB := Lib.hid hb0
  have HX := Lib.hid hbx
  have HS := Lib.hid hSW
  have HC := Lib.hid hc
  have HR := Lib.hid hr
  have HT := Lib.hid ht
  have hnil : Hid (W.ownsRow W.heap.size 3 1 (.slice none 0 0) 0 []) := World.ownsRow_nil _ _ _ _
  clear hW hb0 hbx hSW hc hr hl hmp hS ht
  go_enter Tryz.func29, Tryz.ntmps29
  go_wp2_with fail
  rw [← HW.out]
  go_loopg [5, 10] l.length (fun gg s5 s10 wr => ∃ k : Nat, k ≤ l.length ∧ l.length - k ≤ gg ∧ s10 = .int .i64 k ∧ Hid (wr.ownsRow W.heap.size 3 1 s5 k (((l.take k).map (PC.mov ins to n)).map (Value.int .i64))) ∧ Below W.heap.size W wr)
  case atStart => exact ⟨0, Nat.zero_le _, by omega, rfl, hnil, Below.refl _ _⟩
  case round =>
    obtain ⟨k, hk, hg, rfl, hown, hbr⟩ := hrel
    by_cases hlt : k < l.length
    · obtain ⟨b', off, rfl, hbs, hyr, hcell⟩ := HC.out k hlt
      have hmea : ∀ g : Nat, l.length - k ≤ g → l.length - (k + 1) < g := fun g h => by omega
      have hcell := ((Below.of HB.out hbr).cell hbs).trans hcell
      have htk : Hid (((l.take (k + 1)).map (PC.mov ins to n)).map (Value.int .i64) = ((l.take k).map (PC.mov ins to n)).map (Value.int .i64) ++ [.int .i64 (PC.mov ins to n l[k])]) := by
        show _ = _
        rw [List.take_succ_eq_append_getElem hlt, List.map_append, List.map_append]; rfl
      obtain ⟨g0, g1⟩ := HR.out l[k] (List.getElem_mem _)
      have hL := Lib.hid (mLit_any ins to n l[k] _ wr (HS.out.mono hbr) HT.out g0 g1 hn0 hn1)
      generalize l[k] = y at *
      have hltz : (k : Int) < (l.length : Int) := by omega
      obtain ⟨q0, q1⟩ := HX.out.mono hbr
      clear g0 g1 hyr
      go_wp2_with (first | (go_at_call 30; refine hL.out.mono ?_; rintro e w4 ⟨rfl, hb4⟩; have hown4 := Lib.hid (owns_below hown.out hb4); have hb04 := Below.of hbr hb4; clear q0 q1 hcell) | (at_builtin; refine app_new rfl _ _ 22 rfl 3 1 8 _ Tryz.underlying22 infoI rfl (by decide) (w0 := W) (B0 := W.heap.size) rfl hown4.out hb04 (Nat.le_refl _) hb04.size _ 1 1 rfl (by intro u hu; simp at hu; subst hu; rfl) rfl (by omega) (by omega) ?_; intro v3 w5 hown5 hb5 hbs5 hgr5))
      go_roundg (l.length - (k + 1))
      case measure => exact hmea _ hg
      case rel =>
        refine ⟨k + 1, by omega, by omega, by go_num, ?_, hb5⟩
        show World.ownsRow _ _ _ _ _ _ _
        rw [htk.out]; exact hown5
    · have hltz : ¬ (k : Int) < (l.length : Int) := by omega
      obtain rfl : k = l.length := by omega

      have hOut : Hid (OwnI wr w.heap.size u5 (l.map (PC.mov ins to n))) := by
        refine ⟨?_, fun x hx => ?_⟩
        · have := hown.out
          rw [List.take_length] at this
          rw [List.length_map]
          exact World.ownsRow.mono this HB.out.size
        · obtain ⟨y, hy, rfl⟩ := List.mem_map.1 hx
          obtain ⟨g0, g1⟩ := HR.out y hy
          exact mov_rng HT.out g0 g1 hn0 hn1
      go_wp2_with fail
      go_ret
      exact ⟨_, rfl, hOut.out, Below.of HB.out hbr⟩

set_option maxRecDepth 100000 in
set_option maxHeartbeats 1000000 in
theorem mReset_any (ins to : List Int) (n : Int) (x : PC.Lat) (v : Value) (w : World) (h : Shf w v ins to n) (ht : Tos to) (h0 : 0 ≤ x.lit) (h1 : x.lit ≤ 1000000) (hn0 : 0 ≤ n) (hn1 : n ≤ 1000000) :
    Calls Tryz.prog 31 #[v, .agg #[.int .i64 x.lit, .int .i64 x.next, .int .i64 x.reset]] w fun e w' => e = .returned (.int .i64 (PC.movReset ins to n x)) ∧ Below w.heap.size w w' := by
  obtain ⟨xl, xn, xr⟩ := x
  simp only at h0 h1
  unfold PC.movReset
  simp only
  have hS := Lib.hid h
  obtain ⟨b, rfl, hmp⟩ := h
  clear hmp
  have hb0 := (Below.refl w.heap.size w).alloc (Nat.le_refl _) (.cells #[.map (some b), .int .i64 n] 61)
  have hb1 := (Below.refl (w.alloc (.cells #[.map (some b), .int .i64 n] 61)).heap.size (w.alloc (.cells #[.map (some b), .int .i64 n] 61))).alloc (Nat.le_refl _) (.cells #[.int .i64 xl, .int .i64 xn, .int .i64 xr] 38)
  have hbW := Lib.hid (Below.of hb0 hb1)
  have hL := Lib.hid (mLit_any ins to n xl _ _ (hS.out.mono hbW.out) ht h0 h1 hn0 hn1)
  clear hb0 hb1
  by_cases hz : xr = xl
  · have hzb : (xr == xl) = true := by simpa using hz
    rw [if_pos hz]
    clear hz
    go_enter Tryz.func31, Tryz.ntmps31
    go_wp2_with (go_at_call 30; refine hL.out.mono ?_; rintro e w4 ⟨rfl, hb4⟩)
    go_ret
    exact ⟨rfl, Below.of hbW.out hb4⟩
  · have hzb : (xr == xl) = false := by simpa using hz
    rw [if_neg hz]
    clear hz
    go_enter Tryz.func31, Tryz.ntmps31
    go_wp2_with fail
    go_ret
    exact ⟨rfl, hbW.out⟩

end Go.Proofs.YtpkaoabpifeigaaGreatDoor
