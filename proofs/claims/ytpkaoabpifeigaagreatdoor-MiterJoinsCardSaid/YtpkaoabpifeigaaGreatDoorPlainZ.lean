/- Plain: a circuit with other variables; two circuits' miter. -/
import Derived.Test.YtpkaoabpifeigaaGreatDoorPlainU
import Derived.Test.YtpkaoabpifeigaaGreatDoorPlainN
namespace Go.Proofs.YtpkaoabpifeigaaGreatDoor.PC

/-- what stands for an input's variable -/
def movI (ins to : List Int) (v : Nat) : Option Int := ((ins.zip to).find? fun p => varOf p.1 == v).map (·.2)

/-- a literal, moved -/
def mov (ins to : List Int) (n l : Int) : Int :=
  if varOf l = 0 then l else match movI ins to (varOf l) with
    | some t => t + l % 2
    | none => l + 2 * n

def movReset (ins to : List Int) (n : Int) (x : Lat) : Int := if x.reset = x.lit then mov ins to n x.lit else x.reset
def movLat (ins to : List Int) (n : Int) (x : Lat) : Lat := ⟨mov ins to n x.lit, mov ins to n x.next, movReset ins to n x⟩
def movGat (ins to : List Int) (n : Int) (a : Gat) : Gat := ⟨mov ins to n a.lit, mov ins to n a.left, mov ins to n a.right⟩

/-- a circuit with other variables -/
def shiftC (c : Circ) (to : List Int) (n : Int) : Circ :=
  ⟨c.max + n, to, c.latches.map (movLat c.inputs to n), c.outputs.map (mov c.inputs to n), c.bads.map (mov c.inputs to n), c.invars.map (mov c.inputs to n), c.ands.map (movGat c.inputs to n), []⟩

def strangeL (l : Int) : Bool := decide (l < 2) || decide (l % 2 = 1)

def noC : Circ := ⟨0, [], [], [], [], [], [], []⟩

def shiftE (c : Circ) (to : List Int) (n : Int) : Int :=
  if chk c = false then 9 else if to.length ≠ c.inputs.length then 3 else if n < 0 ∨ 2048 < n then 4 else if to.any strangeL = true then 23 else 0

def shiftD (c : Circ) (to : List Int) (n : Int) : Circ := if shiftE c to n = 0 then shiftC c to n else noC

/-- a literal's opposite -/
def opn (l : Int) : Int := if l % 2 = 0 then l + 1 else l - 1

structure Mk where
  mx : Int
  gs : List Gat
  bad : Int

/-- four gates more: one more output -/
def mkStep (s : Mk) (p : Int × Int) : Mk :=
  ⟨s.mx + 4, s.gs ++ [⟨2 * (s.mx + 1), p.1, opn p.2⟩, ⟨2 * (s.mx + 2), opn p.1, p.2⟩, ⟨2 * (s.mx + 3), 2 * (s.mx + 1) + 1, 2 * (s.mx + 2) + 1⟩, ⟨2 * (s.mx + 4), opn s.bad, 2 * (s.mx + 3)⟩], 2 * (s.mx + 4) + 1⟩

def mks (a b : Circ) : List (Int × Int) := a.outputs.zip (shiftC b a.inputs a.max).outputs
def mk0 (a b : Circ) : Mk := ⟨a.max + b.max, a.ands ++ (shiftC b a.inputs a.max).ands, 0⟩
def mkN (a b : Circ) (k : Nat) : Mk := ((mks a b).take k).foldl mkStep (mk0 a b)
def mkAll (a b : Circ) : Mk := (mks a b).foldl mkStep (mk0 a b)

def joinC (a b : Circ) : Circ :=
  ⟨(mkAll a b).mx, a.inputs, a.latches ++ (shiftC b a.inputs a.max).latches, [], [(mkAll a b).bad], a.invars ++ (shiftC b a.inputs a.max).invars, (mkAll a b).gs, []⟩

def togE (a b : Circ) : Int := if chk a = false ∨ chk b = false then 9 else if a.inputs.length ≠ b.inputs.length ∨ a.outputs.length ≠ b.outputs.length then 3 else 0

def joinE (a b : Circ) : Int :=
  if togE a b ≠ 0 then togE a b
  else if a.max + b.max + 4 * a.outputs.length > 2048 ∨ a.latches.length + b.latches.length > 64 ∨ a.invars.length + b.invars.length > 64 then 5 else 0

def joinD (a b : Circ) : Circ := if joinE a b = 0 then joinC a b else noC

/-! ### moved literals -/
theorem movI_hit {ins to : List Int} {k : Nat} (hn : (ins.map varOf).Nodup) (hl : to.length = ins.length) (hk : k < ins.length) : movI ins to (varOf ins[k]) = some (to[k]'(by omega)) := by
  unfold movI
  have : (ins.zip to).find? (fun p => varOf p.1 == varOf ins[k]) = some (ins[k], to[k]'(by omega)) := by
    rw [List.find?_eq_some_iff_getElem]
    refine ⟨by simp, k, by rw [List.length_zip]; omega, by simp, fun j hj => ?_⟩
    simp only [List.getElem_zip, Bool.not_eq_true', beq_eq_false_iff_ne]
    intro e
    have := (List.pairwise_iff_getElem.1 hn) j k (by simp; omega) (by simp; omega) hj
    simp only [List.getElem_map] at this
    exact this e
  rw [this]; rfl

theorem movI_miss {ins to : List Int} {v : Nat} (h : ∀ d ∈ ins, varOf d ≠ v) : movI ins to v = none := by
  unfold movI
  rw [Option.map_eq_none_iff, List.find?_eq_none]
  rintro ⟨d, t⟩ hp
  have := (List.of_mem_zip hp).1
  simpa using h d this

theorem find_congr {α : Type} (p q : α → Bool) : ∀ l : List α, (∀ x ∈ l, p x = q x) → l.find? p = l.find? q
  | [], _ => rfl
  | x :: l, h => by
    rw [List.find?_cons, List.find?_cons, h x (by simp), find_congr p q l fun y hy => h y (by simp [hy])]

/-- the page's way to tell it -/
theorem mov_page (ins to : List Int) (n l : Int) (hl : 2 ≤ l) (hi : ∀ d ∈ ins, 0 ≤ d) : mov ins to n l = match (ins.zip to).find? (fun p => p.1 / 2 == l / 2) with | some p => p.2 + l % 2 | none => l + 2 * n := by
  unfold mov movI
  rw [if_neg (by unfold varOf; omega)]
  have : (ins.zip to).find? (fun p => varOf p.1 == varOf l) = (ins.zip to).find? (fun p => p.1 / 2 == l / 2) := by
    refine find_congr _ _ _ ?_
    rintro ⟨d, t⟩ hp
    have := hi d (List.of_mem_zip hp).1
    show (varOf d == varOf l) = (d / 2 == l / 2)
    rw [Bool.eq_iff_iff]
    simp only [beq_iff_eq, varOf]
    omega
  rw [this]
  cases (ins.zip to).find? (fun p => p.1 / 2 == l / 2) <;> rfl

theorem mov_low (ins to : List Int) (n l : Int) (hl : l < 2) : mov ins to n l = l := by
  unfold mov
  rw [if_pos (by unfold varOf; omega)]

theorem mov_in {ins to : List Int} {n l : Int} {k : Nat} (hn : (ins.map varOf).Nodup) (hl : to.length = ins.length) (hk : k < ins.length) (h2 : 2 ≤ l) (e : varOf l = varOf ins[k]) : mov ins to n l = to[k]'(by omega) + l % 2 := by
  unfold mov
  rw [if_neg (by unfold varOf; omega), e, movI_hit hn hl hk]

theorem mov_far {ins to : List Int} {n l : Int} (h2 : 2 ≤ l) (h : ∀ d ∈ ins, varOf d ≠ varOf l) : mov ins to n l = l + 2 * n := by
  unfold mov
  rw [if_neg (by unfold varOf; omega), movI_miss h]

/-- a moved literal is a literal of its kind -/
theorem mov_some (ins to : List Int) (n l : Int) (h : 0 ≤ l) (hn : 0 ≤ n) (ht : ∀ t ∈ to, 2 ≤ t ∧ t % 2 = 0) : mov ins to n l % 2 = l % 2 ∧ 0 ≤ mov ins to n l ∧ (mov ins to n l < 2 ↔ l < 2) := by
  unfold mov
  split
  · exact ⟨rfl, h, Iff.rfl⟩
  · rename_i h0
    have h0 : 2 ≤ l := by unfold varOf at h0; omega
    cases hm : movI ins to (varOf l) with
    | none => simp only; omega
    | some t =>
      have : t ∈ to := by
        unfold movI at hm
        obtain ⟨p, hp, rfl⟩ := Option.map_eq_some_iff.1 hm
        exact (List.of_mem_zip (List.mem_of_find?_eq_some hp)).2
      have := ht t this
      simp only
      omega

theorem strange_no {to : List Int} (h : to.any strangeL = false) : ∀ t ∈ to, 2 ≤ t ∧ t % 2 = 0 := by
  intro t ht
  rw [List.any_eq_false] at h
  have := h t ht
  simp only [strangeL, Bool.or_eq_true, decide_eq_true_eq, not_or] at this
  omega

theorem ins_even (c : Circ) (h : Right c) : ∀ t ∈ c.inputs, 2 ≤ t ∧ t % 2 = 0 := fun t ht =>
  ⟨(h.defs t (mem_defs_in c t ht)).1, (h.defs t (mem_defs_in c t ht)).2.1⟩

theorem mov_lat {c : Circ} (h : Right c) (to : List Int) (n : Int) (x : Lat) (hx : x ∈ c.latches) : mov c.inputs to n x.lit = x.lit + 2 * n :=
  mov_far (h.defs _ (mem_defs_lat c x hx)).1 fun d hd e => (parts_nodup c h).2.2 d hd x hx e.symm

theorem mov_gat {c : Circ} (h : Right c) (to : List Int) (n : Int) (a : Gat) (ha : a ∈ c.ands) : mov c.inputs to n a.lit = a.lit + 2 * n :=
  mov_far (h.defs _ (mem_defs_gat c a ha)).1 (gate_apart c h a ha).1

theorem mov_le {ins to : List Int} {n l : Int} (ht : ∀ t ∈ to, 2 ≤ t ∧ t % 2 = 0) (hm : ∀ t ∈ to, t ≤ 5000) (h0 : 0 ≤ l) (h1 : l ≤ 5000) (hn0 : 0 ≤ n) (hn1 : n ≤ 2048) : 0 ≤ mov ins to n l ∧ mov ins to n l ≤ 10000 := by
  refine ⟨(mov_some ins to n l h0 hn0 ht).2.1, ?_⟩
  unfold mov
  split
  · omega
  · cases hx : movI ins to (varOf l) with
    | none => simp only; omega
    | some t =>
      have : t ∈ to := by
        unfold movI at hx
        obtain ⟨p, hp, rfl⟩ := Option.map_eq_some_iff.1 hx
        exact (List.of_mem_zip (List.mem_of_find?_eq_some hp)).2
      have := hm t this
      simp only
      omega
theorem shift_out (a b : Circ) (ha : Right a) (hb : Right b) (x : Int) (hx : x ∈ (shiftC b a.inputs a.max).outputs) : 0 ≤ x ∧ x ≤ 10000 := by
  obtain ⟨y, hy, rfl⟩ := List.mem_map.1 hx
  have h1 := known_range b hb y (hb.outK y hy)
  have := hb.max1
  have := ha.max1
  refine mov_le (ins_even a ha) (fun t ht => ?_) h1.1 (by omega) ha.max0 ha.max1
  have := (ha.defs t (mem_defs_in a t ht)).2.2
  omega
theorem mks_len (a b : Circ) (h : a.outputs.length = b.outputs.length) : (mks a b).length = a.outputs.length := by
  simp [mks, shiftC, h]
theorem mks_get (a b : Circ) (h : a.outputs.length = b.outputs.length) (k : Nat) (hk : k < a.outputs.length) : (mks a b)[k]'(by rw [mks_len a b h]; exact hk) = (a.outputs[k], (shiftC b a.inputs a.max).outputs[k]'(by simp [shiftC]; omega)) := by
  simp [mks]
theorem mkN_succ (a b : Circ) (h : a.outputs.length = b.outputs.length) (k : Nat) (hk : k < a.outputs.length) :
    mkN a b (k + 1) = mkStep (mkN a b k) (a.outputs[k], (shiftC b a.inputs a.max).outputs[k]'(by simp [shiftC]; omega)) := by
  unfold mkN
  rw [List.take_succ_eq_append_getElem (by rw [mks_len a b h]; exact hk), List.foldl_append, mks_get a b h k hk]
  rfl
theorem mkN_all (a b : Circ) (h : a.outputs.length = b.outputs.length) : mkN a b a.outputs.length = mkAll a b := by
  unfold mkN mkAll
  rw [← mks_len a b h, List.take_length]
theorem mkN_shape (a b : Circ) (h : a.outputs.length = b.outputs.length) : ∀ k, k ≤ a.outputs.length → (mkN a b k).mx = a.max + b.max + 4 * k ∧ (mkN a b k).gs.length = a.ands.length + b.ands.length + 4 * k ∧
    ((mkN a b k).bad = if k = 0 then 0 else 2 * (a.max + b.max + 4 * k) + 1) := by
  intro k
  induction k with
  | zero => intro _; refine ⟨by simp [mkN, mk0], by simp [mkN, mk0, shiftC], rfl⟩
  | succ k ih =>
    intro hk
    obtain ⟨h1, h2, h3⟩ := ih (by omega)
    rw [mkN_succ a b h k (by omega)]
    refine ⟨?_, ?_, ?_⟩
    · simp only [mkStep, h1]; omega
    · simp only [mkStep, List.length_append, h2, List.length_cons, List.length_nil]; omega
    · rw [if_neg (by omega)]
      simp only [mkStep, h1]; omega

end Go.Proofs.YtpkaoabpifeigaaGreatDoor.PC
