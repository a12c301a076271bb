/- Plain circuits: the program's look, stage by stage. -/
import Derived.Lib.SlTrimSet
namespace Go.Proofs.YtjcaejdokillgaaDoor.PC

abbrev Bs := List UInt8

structure Lat where
  lit : Int
  next : Int
  reset : Int
deriving DecidableEq, Inhabited

structure Gat where
  lit : Int
  left : Int
  right : Int
deriving DecidableEq, Inhabited

structure Nam where
  kind : Bs
  at_ : Int
  text : Bs
deriving DecidableEq, Inhabited

structure Circ where
  max : Int
  inputs : List Int
  latches : List Lat
  outputs : List Int
  bads : List Int
  invars : List Int
  ands : List Gat
  names : List Nam
deriving DecidableEq, Inhabited

/-- the literals that define variables -/
def Circ.defs (c : Circ) : List Int := c.inputs ++ c.latches.map (·.lit) ++ c.ands.map (·.lit)

/-- is a variable something? -/
def hasVar (l : List Int) (v : Int) : Bool := l.any fun d => decide (0 ≤ d) && decide (d / 2 = v)

/-- what a variable is -/
def kindS (c : Circ) (v : Int) : Bs :=
  if v = 0 then [48] else if hasVar c.inputs v then [105] else if hasVar (c.latches.map (·.lit)) v then [108] else if hasVar (c.ands.map (·.lit)) v then [97] else []

def known (c : Circ) (l : Int) : Bool := decide (0 ≤ l) && !(kindS c (l / 2)).isEmpty

def allKnown (c : Circ) (l : List Int) : Bool := l.all (known c) && decide (l.length ≤ 64)

/-- how many of a kind; -1: no kind -/
def count (c : Circ) (k : Bs) : Int :=
  if k = [105] then c.inputs.length else if k = [108] then c.latches.length else if k = [111] then c.outputs.length
  else if k = [98] then c.bads.length else if k = [99] then c.invars.length else -1

def rank (k : Bs) : Int := if k = [105] then 0 else if k = [108] then 1 else if k = [111] then 2 else if k = [98] then 3 else if k = [99] then 4 else -1

def textOk (t : Bs) : Bool := !t.isEmpty && decide (t.length ≤ 32) && t.all fun b => decide (33 ≤ b.toNat) && decide (b.toNat ≤ 126)

def nameOk (c : Circ) (x : Nam) : Bool := decide (0 ≤ x.at_) && decide (x.at_ < count c x.kind) && textOk x.text

/-- does a name stand ahead of another one? -/
def ahead (y x : Nam) : Bool := !(decide (rank x.kind < rank y.kind) || (decide (y.kind = x.kind) && decide (x.at_ ≤ y.at_)))

/-- all names, one behind the other; 'p' stands ahead -/
def namesFrom (c : Circ) : Option Nam → List Nam → Bool
  | _, [] => true
  | none, x :: r => nameOk c x && namesFrom c (some x) r
  | some y, x :: r => nameOk c x && ahead y x && namesFrom c (some x) r

def latOk (c : Circ) (x : Lat) : Bool := (decide (x.reset = 0) || decide (x.reset = 1) || decide (x.reset = x.lit)) && known c x.next

def gatOk (c : Circ) (a : Gat) : Bool := decide (a.left < a.lit) && decide (a.right < a.lit) && known c a.left && known c a.right

def rising : Option Int → List Gat → Bool
  | _, [] => true
  | none, a :: r => rising (some a.lit) r
  | some p, a :: r => decide (p < a.lit) && rising (some a.lit) r

def defOk (c : Circ) (d : Int) : Bool := decide (2 ≤ d) && decide (d % 2 = 0) && decide (d ≤ 2 * c.max)

def nodupB : List Int → Bool
  | [] => true
  | x :: r => !r.contains x && nodupB r

/-- may a circuit be? -/
def chk (c : Circ) : Bool :=
  decide (0 ≤ c.max) && decide (c.max ≤ 2048) && decide (c.inputs.length ≤ 64) && decide (c.latches.length ≤ 64) && namesFrom c none c.names
    && c.latches.all (latOk c) && c.ands.all (gatOk c) && rising none c.ands && c.defs.all (defOk c) && nodupB c.defs
    && allKnown c c.outputs && allKnown c c.bads && allKnown c c.invars

end Go.Proofs.YtjcaejdokillgaaDoor.PC

namespace Go.Proofs.YtjcaejdokillgaaDoor.PC

def defineOk (most : Int) (met : List Int) (l : Int) : Bool := decide (2 ≤ l) && decide (l % 2 = 0) && decide (l / 2 ≤ most) && !met.contains (l / 2)

def resetOk (x : Lat) : Bool := decide (x.reset = 0) || decide (x.reset = 1) || decide (x.reset = x.lit)

def stageGat (most : Int) : List Int → Option Int → List Gat → Bool
  | _, _, [] => true
  | met, none, a :: r => defineOk most met a.lit && stageGat most (met ++ [a.lit / 2]) (some a.lit) r
  | met, some p, a :: r => defineOk most met a.lit && decide (p < a.lit) && stageGat most (met ++ [a.lit / 2]) (some a.lit) r

def stageLat (most : Int) (ands : List Gat) : List Int → List Lat → Bool
  | met, [] => stageGat most met none ands
  | met, x :: r => defineOk most met x.lit && resetOk x && stageLat most ands (met ++ [x.lit / 2]) r

def stageIn (most : Int) (lats : List Lat) (ands : List Gat) : List Int → List Int → Bool
  | met, [] => stageLat most ands met lats
  | met, l :: r => defineOk most met l && stageIn most lats ands (met ++ [l / 2]) r

def definedOk (c : Circ) : Bool := stageIn c.max c.latches c.ands [] c.inputs

def knownP (met : List Int) (l : Int) : Bool := decide (0 ≤ l) && (decide (l < 2) || met.contains (l / 2))

def kindsOk (k : Bs) : Bool := decide (k = [105]) || decide (k = [108]) || decide (k = [111]) || decide (k = [98]) || decide (k = [99])

/-- the program's count: another kind counts what must be -/
def countP (c : Circ) (k : Bs) : Int :=
  if k = [105] then c.inputs.length else if k = [108] then c.latches.length else if k = [111] then c.outputs.length
  else if k = [98] then c.bads.length else c.invars.length

def nameOkP (c : Circ) (x : Nam) : Bool := kindsOk x.kind && decide (0 ≤ x.at_) && decide (x.at_ < countP c x.kind) && textOk x.text

def rankP (x : Nam) : Int := rank x.kind * 2048 + x.at_

def namedP (c : Circ) : Option Nam → List Nam → Bool
  | _, [] => true
  | none, x :: r => nameOkP c x && namedP c (some x) r
  | some y, x :: r => nameOkP c x && decide (rankP y < rankP x) && namedP c (some x) r

def boundsOk (c : Circ) : Bool :=
  decide (0 ≤ c.max) && decide (c.max ≤ 2048) && decide (c.inputs.length ≤ 64) && decide (c.latches.length ≤ 64) && decide (c.outputs.length ≤ 64) && decide (c.bads.length ≤ 64) && decide (c.invars.length ≤ 64)

def mets (c : Circ) : List Int := c.defs.map (· / 2)

def pchk (c : Circ) : Bool :=
  boundsOk c && definedOk c && c.latches.all (fun x => knownP (mets c) x.next)
    && c.ands.all (fun a => knownP (mets c) a.left && knownP (mets c) a.right && decide (a.left < a.lit) && decide (a.right < a.lit))
    && c.outputs.all (knownP (mets c)) && c.bads.all (knownP (mets c)) && c.invars.all (knownP (mets c)) && namedP c none c.names

/-! ### what is defined -/
def defsFrom (most : Int) : List Int → List Int → Bool
  | _, [] => true
  | met, d :: r => defineOk most met d && defsFrom most (met ++ [d / 2]) r

theorem stageGat_eq (most : Int) : ∀ (ands : List Gat) (met : List Int) (p : Option Int), stageGat most met p ands = (defsFrom most met (ands.map (·.lit)) && rising p ands) := by
  intro ands
  induction ands with
  | nil => intro met p; cases p <;> rfl
  | cons a r ih =>
    intro met p
    cases p with
    | none => simp only [stageGat, List.map_cons, defsFrom, rising, ih, Bool.and_assoc]
    | some p =>
      simp only [stageGat, List.map_cons, defsFrom, rising, ih]
      cases defineOk most met a.lit <;> cases decide (p < a.lit) <;> simp

theorem defsFrom_append (most : Int) : ∀ (l m : List Int) (met : List Int), defsFrom most met (l ++ m) = (defsFrom most met l && defsFrom most (met ++ l.map (· / 2)) m) := by
  intro l
  induction l with
  | nil => intro m met; simp [defsFrom]
  | cons d r ih => intro m met; simp only [List.cons_append, defsFrom, ih, List.map_cons, List.append_assoc, List.nil_append, Bool.and_assoc]

theorem stageLat_eq (most : Int) (ands : List Gat) : ∀ (lats : List Lat) (met : List Int), stageLat most ands met lats = (defsFrom most met (lats.map (·.lit) ++ ands.map (·.lit)) && lats.all resetOk && rising none ands) := by
  intro lats
  induction lats with
  | nil => intro met; simp [stageLat, stageGat_eq]
  | cons x r ih =>
    intro met
    simp only [stageLat, ih, List.map_cons, List.cons_append, defsFrom, List.all_cons]
    cases defineOk most met x.lit <;> cases resetOk x <;> simp

theorem stageIn_eq (most : Int) (lats : List Lat) (ands : List Gat) : ∀ (ins : List Int) (met : List Int),
    stageIn most lats ands met ins = (defsFrom most met (ins ++ lats.map (·.lit) ++ ands.map (·.lit)) && lats.all resetOk && rising none ands) := by
  intro ins
  induction ins with
  | nil => intro met; simp [stageIn, stageLat_eq]
  | cons x r ih =>
    intro met
    simp only [stageIn, ih, List.cons_append, defsFrom]
    cases defineOk most met x <;> simp

theorem definedOk_eq (c : Circ) : definedOk c = (defsFrom c.max [] c.defs && c.latches.all resetOk && rising none c.ands) := stageIn_eq _ _ _ _ _

theorem nodupB_iff (l : List Int) : nodupB l = true ↔ l.Nodup := by
  induction l with
  | nil => simp [nodupB]
  | cons x r ih => simp [nodupB, ih]

theorem defsFrom_iff (most : Int) : ∀ (l met : List Int), defsFrom most met l = true ↔
    (∀ d ∈ l, 2 ≤ d ∧ d % 2 = 0 ∧ d / 2 ≤ most) ∧ (l.map (· / 2)).Nodup ∧ ∀ d ∈ l, ¬ d / 2 ∈ met := by
  intro l
  induction l with
  | nil => intro met; simp [defsFrom]
  | cons d r ih =>
    intro met
    simp only [defsFrom, defineOk, Bool.and_eq_true, decide_eq_true_eq, Bool.not_eq_true', List.contains_eq_mem, decide_eq_false_iff_not, ih, List.mem_cons, forall_eq_or_imp, List.map_cons, List.nodup_cons, List.mem_map, List.mem_append, List.mem_nil_iff, or_false, not_or]
    constructor
    · rintro ⟨⟨⟨⟨h1, h2⟩, h3⟩, h4⟩, h5, h6, h7⟩
      exact ⟨⟨⟨h1, h2, h3⟩, h5⟩, ⟨fun ⟨y, hy, e⟩ => (h7 y hy).2 e, h6⟩, h4, fun y hy => (h7 y hy).1⟩
    · rintro ⟨⟨⟨h1, h2, h3⟩, h5⟩, ⟨h6, h7⟩, h8, h9⟩
      exact ⟨⟨⟨⟨h1, h2⟩, h3⟩, h8⟩, h5, h7, fun y hy => ⟨h9 y hy, fun e => h6 ⟨y, hy, e⟩⟩⟩

theorem nodup_half (l : List Int) (h : ∀ d ∈ l, 2 ≤ d ∧ d % 2 = 0) : (l.map (· / 2)).Nodup ↔ l.Nodup := by
  induction l with
  | nil => simp
  | cons x r ih =>
    simp only [List.map_cons, List.nodup_cons, List.mem_map, ih (fun d hd => h d (List.mem_cons_of_mem _ hd))]
    have hx := h x (by simp)
    constructor
    · rintro ⟨h1, h2⟩
      exact ⟨fun hm => h1 ⟨x, hm, rfl⟩, h2⟩
    · rintro ⟨h1, h2⟩
      refine ⟨fun ⟨y, hy, e⟩ => h1 ?_, h2⟩
      have := h y (List.mem_cons_of_mem _ hy)
      have e' : y = x := by omega
      exact e' ▸ hy

theorem defsFrom_eq (c : Circ) : defsFrom c.max [] c.defs = (c.defs.all (defOk c) && nodupB c.defs) := by
  rw [Bool.eq_iff_iff, defsFrom_iff, Bool.and_eq_true, nodupB_iff, List.all_eq_true]
  simp only [defOk, Bool.and_eq_true, decide_eq_true_eq, List.not_mem_nil, not_false_eq_true, implies_true, and_true]
  constructor
  · rintro ⟨h1, h2⟩
    exact ⟨fun d hd => ⟨⟨(h1 d hd).1, (h1 d hd).2.1⟩, by have := h1 d hd; omega⟩, (nodup_half _ fun d hd => ⟨(h1 d hd).1, (h1 d hd).2.1⟩).1 h2⟩
  · rintro ⟨h1, h2⟩
    exact ⟨fun d hd => ⟨(h1 d hd).1.1, (h1 d hd).1.2, by have := h1 d hd; omega⟩, (nodup_half _ fun d hd => (h1 d hd).1).2 h2⟩

/-! ### what is known -/
theorem hasVar_iff (l : List Int) (v : Int) : hasVar l v = true ↔ ∃ d ∈ l, 0 ≤ d ∧ d / 2 = v := by
  simp [hasVar, List.any_eq_true]

theorem kindS_ne (c : Circ) (v : Int) : (kindS c v).isEmpty = false ↔ v = 0 ∨ hasVar c.defs v = true := by
  have hd : hasVar c.defs v = (hasVar c.inputs v || hasVar (c.latches.map (·.lit)) v || hasVar (c.ands.map (·.lit)) v) := by
    simp [Circ.defs, hasVar, List.any_append, Bool.or_assoc]
  rw [hd]
  unfold kindS
  by_cases h0 : v = 0
  · simp [h0]
  · rw [if_neg h0]
    cases h1 : hasVar c.inputs v <;> cases h2 : hasVar (c.latches.map (·.lit)) v <;> cases h3 : hasVar (c.ands.map (·.lit)) v <;> simp [h0]

theorem known_eq (c : Circ) (h : ∀ d ∈ c.defs, 2 ≤ d) (l : Int) : knownP (mets c) l = known c l := by
  rw [Bool.eq_iff_iff]
  simp only [knownP, known, Bool.and_eq_true, decide_eq_true_eq, Bool.or_eq_true, Bool.not_eq_true', kindS_ne, hasVar_iff, List.contains_eq_mem, mets, List.mem_map]
  constructor
  · rintro ⟨h0, h1⟩
    refine ⟨h0, ?_⟩
    rcases h1 with h1 | ⟨d, hd, e⟩
    · left; omega
    · right; exact ⟨d, hd, by have := h d hd; omega, e⟩
  · rintro ⟨h0, h1⟩
    refine ⟨h0, ?_⟩
    rcases h1 with h1 | ⟨d, hd, _, e⟩
    · left; omega
    · right; exact ⟨d, hd, e⟩

/-! ### names -/
theorem nameOk_eq (c : Circ) (x : Nam) : nameOkP c x = nameOk c x := by
  unfold nameOkP nameOk countP count kindsOk
  by_cases h1 : x.kind = [105]
  · simp [h1]
  by_cases h2 : x.kind = [108]
  · simp [h2]
  by_cases h3 : x.kind = [111]
  · simp [h3]
  by_cases h4 : x.kind = [98]
  · simp [h4]
  by_cases h5 : x.kind = [99]
  · simp [h5]
  simp only [h1, h2, h3, h4, h5, if_false, decide_false, Bool.or_false, Bool.false_and]
  symm
  rw [Bool.and_eq_false_iff, Bool.and_eq_false_iff]
  left
  by_cases h : 0 ≤ x.at_
  · right; simp; omega
  · left; simpa using h

theorem kind_rank (c : Circ) (x : Nam) (h : nameOk c x = true) (hb : boundsOk c = true) :
    0 ≤ x.at_ ∧ x.at_ < 2048 ∧ 0 ≤ rank x.kind ∧ (x.kind = [105] ∨ x.kind = [108] ∨ x.kind = [111] ∨ x.kind = [98] ∨ x.kind = [99]) := by
  simp only [nameOk, Bool.and_eq_true, decide_eq_true_eq] at h
  simp only [boundsOk, Bool.and_eq_true, decide_eq_true_eq] at hb
  obtain ⟨⟨h1, h2⟩, _⟩ := h
  unfold count at h2
  refine ⟨h1, ?_⟩
  by_cases k1 : x.kind = [105]
  · rw [if_pos k1] at h2; exact ⟨by omega, by simp [rank, k1], Or.inl k1⟩
  by_cases k2 : x.kind = [108]
  · rw [if_neg k1, if_pos k2] at h2; exact ⟨by omega, by simp [rank, k2], Or.inr (Or.inl k2)⟩
  by_cases k3 : x.kind = [111]
  · rw [if_neg k1, if_neg k2, if_pos k3] at h2; exact ⟨by omega, by simp [rank, k3], Or.inr (Or.inr (Or.inl k3))⟩
  by_cases k4 : x.kind = [98]
  · rw [if_neg k1, if_neg k2, if_neg k3, if_pos k4] at h2; exact ⟨by omega, by simp [rank, k4], Or.inr (Or.inr (Or.inr (Or.inl k4)))⟩
  by_cases k5 : x.kind = [99]
  · rw [if_neg k1, if_neg k2, if_neg k3, if_neg k4, if_pos k5] at h2; exact ⟨by omega, by simp [rank, k5], Or.inr (Or.inr (Or.inr (Or.inr k5)))⟩
  rw [if_neg k1, if_neg k2, if_neg k3, if_neg k4, if_neg k5] at h2
  omega

theorem ahead_eq (c : Circ) (y x : Nam) (hy : nameOk c y = true) (hx : nameOk c x = true) (hb : boundsOk c = true) : decide (rankP y < rankP x) = ahead y x := by
  obtain ⟨y1, y2, y3, yk⟩ := kind_rank c y hy hb
  obtain ⟨x1, x2, x3, xk⟩ := kind_rank c x hx hb
  have hinj : y.kind = x.kind ↔ rank y.kind = rank x.kind := by
    constructor
    · intro e; rw [e]
    · intro e
      rcases yk with h | h | h | h | h <;> rcases xk with k | k | k | k | k <;> rw [h, k] at e ⊢ <;> simp [rank] at e
  rw [Bool.eq_iff_iff, decide_eq_true_iff]
  simp only [rankP, ahead, Bool.not_eq_true', Bool.or_eq_false_iff, Bool.and_eq_false_iff, decide_eq_false_iff_not, hinj]
  omega

theorem named_eq (c : Circ) (hb : boundsOk c = true) : ∀ (l : List Nam) (p : Option Nam), (∀ y, p = some y → nameOk c y = true) → namedP c p l = namesFrom c p l := by
  intro l
  induction l with
  | nil => intro p _; cases p <;> rfl
  | cons x r ih =>
    intro p hp
    cases hx : nameOk c x with
    | false => cases p <;> simp [namedP, namesFrom, nameOk_eq, hx]
    | true =>
      have hr := ih (some x) (fun y e => by cases e; exact hx)
      cases p with
      | none => simp [namedP, namesFrom, nameOk_eq, hx, hr]
      | some y => simp [namedP, namesFrom, nameOk_eq, hx, hr, ahead_eq c y x (hp y rfl) hx hb]

/-! ### all of it -/
theorem pchk_eq (c : Circ) : pchk c = chk c := by
  unfold pchk chk
  rw [definedOk_eq, defsFrom_eq]
  cases hB : boundsOk c with
  | false =>
    simp only [Bool.false_and]
    symm
    rw [Bool.eq_false_iff]
    intro h
    simp only [Bool.and_eq_true, decide_eq_true_eq, allKnown] at h
    have : boundsOk c = true := by
      simp only [boundsOk, Bool.and_eq_true, decide_eq_true_eq]
      omega
    rw [hB] at this
    cases this
  | true =>
    rw [named_eq c hB c.names none (fun y e => by cases e)]
    simp only [boundsOk, Bool.and_eq_true, decide_eq_true_eq] at hB
    cases hD : c.defs.all (defOk c) with
    | false => simp
    | true =>
      have h2 : ∀ d ∈ c.defs, 2 ≤ d := fun d hd => by
        have := List.all_eq_true.1 hD d hd
        simp only [defOk, Bool.and_eq_true, decide_eq_true_eq] at this
        exact this.1.1
      have hk := known_eq c h2
      have hkf : knownP (mets c) = known c := funext hk
      rw [hkf]
      have hl : c.latches.all (latOk c) = (c.latches.all resetOk && c.latches.all (fun x => known c x.next)) := by
        rw [Bool.eq_iff_iff]
        simp only [List.all_eq_true, latOk, resetOk, Bool.and_eq_true]
        exact ⟨fun h => ⟨fun x hx => (h x hx).1, fun x hx => (h x hx).2⟩, fun h x hx => ⟨h.1 x hx, h.2 x hx⟩⟩
      have hg : c.ands.all (gatOk c) = c.ands.all (fun a => known c a.left && known c a.right && decide (a.left < a.lit) && decide (a.right < a.lit)) := by
        congr 1
        funext a
        unfold gatOk
        cases decide (a.left < a.lit) <;> cases decide (a.right < a.lit) <;> cases known c a.left <;> cases known c a.right <;> rfl
      rw [hl, hg]
      simp only [allKnown, hB, decide_true, Bool.true_and, Bool.and_true]
      cases namesFrom c none c.names <;> cases c.latches.all resetOk <;> cases (c.latches.all fun x => known c x.next) <;>
        cases (c.ands.all (fun a => known c a.left && known c a.right && decide (a.left < a.lit) && decide (a.right < a.lit))) <;> cases rising none c.ands <;> cases nodupB c.defs <;>
        cases c.outputs.all (known c) <;> cases c.bads.all (known c) <;> simp

end Go.Proofs.YtjcaejdokillgaaDoor.PC

namespace Go.Proofs.YtjcaejdokillgaaDoor.PC

/-- is a number in a list? -/
def hasI (l : List Int) (n : Int) : Bool := l.contains n
theorem hasI_eq (l : List Int) (n : Int) : hasI l n = l.contains n := rfl

/-- a literal's variable; is it one that is not? -/
def varOf (l : Int) : Nat := l.toNat / 2
def negOf (l : Int) : Bool := decide (0 < l) && decide (l % 2 = 1)

/-- is a literal true? -/
def tru (s : Bs) (l : Int) : Bool := (s[varOf l]? == some 49) != negOf l

def bitsOk (s : Bs) (n : Nat) : Bool := s.all (fun b => b == 48 || b == 49) && decide (s.length = n)

/-- octets laid at the variables of literals, one by one -/
def setAll (s : Bs) : List (Int × UInt8) → Bs
  | [] => s
  | (l, b) :: r => setAll (s.set (varOf l) b) r

/-- gate by gate -/
def setGats (s : Bs) : List Gat → Bs
  | [] => s
  | a :: r => setGats (if tru s a.left && tru s a.right then s.set (varOf a.lit) 49 else s) r

def start (c : Circ) (state input : Bs) : Bs :=
  setAll (setAll (List.replicate (c.max.toNat + 1) 48) (c.inputs.zip input)) ((c.latches.map (·.lit)).zip state)

def vals (c : Circ) (state input : Bs) : Bs := setGats (start c state input) c.ands

/-- the page's answer: values, or why there are none -/
def valuesE (c : Circ) (state input : Bs) : Int :=
  if chk c = false then 9 else if bitsOk state c.latches.length = false ∨ bitsOk input c.inputs.length = false then 5 else 0

def valuesS (c : Circ) (state input : Bs) : Bs := if valuesE c state input = 0 then vals c state input else []

def nexts (c : Circ) (v : Bs) : Bs := c.latches.map fun x => if tru v x.next then 49 else 48

def holds (v : Bs) (l : List Int) : Bool := l.any (tru v)

def allowed (c : Circ) (assume : List (List Int)) (v : Bs) : Bool := c.invars.all (tru v) && assume.all (holds v)

def initial (c : Circ) (state : Bs) : Bool :=
  bitsOk state c.latches.length && (c.latches.zip state).all fun p => !(p.1.reset != p.1.lit && (p.1.reset == 1) != (p.2 == 49))

/-! ### what chk says -/
structure Right (c : Circ) : Prop where
  max0 : 0 ≤ c.max
  max1 : c.max ≤ 2048
  ins : c.inputs.length ≤ 64
  lats : c.latches.length ≤ 64
  outs : c.outputs.length ≤ 64
  bads : c.bads.length ≤ 64
  invs : c.invars.length ≤ 64
  defs : ∀ d ∈ c.defs, 2 ≤ d ∧ d % 2 = 0 ∧ d ≤ 2 * c.max
  nodup : c.defs.Nodup
  latNext : ∀ x ∈ c.latches, known c x.next = true
  latReset : ∀ x ∈ c.latches, x.reset = 0 ∨ x.reset = 1 ∨ x.reset = x.lit
  gats : ∀ a ∈ c.ands, a.left < a.lit ∧ a.right < a.lit ∧ known c a.left = true ∧ known c a.right = true
  rise : rising none c.ands = true
  outK : ∀ l ∈ c.outputs, known c l = true
  badK : ∀ l ∈ c.bads, known c l = true
  invK : ∀ l ∈ c.invars, known c l = true

theorem right_of (c : Circ) (h : chk c = true) : Right c := by
  simp only [chk, Bool.and_eq_true, decide_eq_true_eq, List.all_eq_true, allKnown, nodupB_iff] at h
  obtain ⟨⟨⟨⟨⟨⟨⟨⟨⟨⟨⟨⟨h1, h2⟩, h3⟩, h4⟩, h5⟩, h6⟩, h7⟩, h8⟩, h9⟩, h10⟩, h11⟩, h12⟩, h13⟩ := h
  refine ⟨h1, h2, h3, h4, h11.2, h12.2, h13.2, ?_, h10, ?_, ?_, ?_, h8, h11.1, h12.1, h13.1⟩
  · intro d hd
    have := h9 d hd
    simp only [defOk, Bool.and_eq_true, decide_eq_true_eq] at this
    exact ⟨this.1.1, this.1.2, this.2⟩
  · intro x hx
    have := h6 x hx
    simp only [latOk, Bool.and_eq_true] at this
    exact this.2
  · intro x hx
    have := h6 x hx
    simp only [latOk, Bool.and_eq_true, Bool.or_eq_true, decide_eq_true_eq] at this
    omega
  · intro a ha
    have := h7 a ha
    simp only [gatOk, Bool.and_eq_true, decide_eq_true_eq] at this
    exact ⟨this.1.1.1, this.1.1.2, this.1.2, this.2⟩

theorem known_range (c : Circ) (h : Right c) (l : Int) (hk : known c l = true) : 0 ≤ l ∧ l ≤ 2 * c.max + 1 := by
  simp only [known, Bool.and_eq_true, decide_eq_true_eq, Bool.not_eq_true', kindS_ne, hasVar_iff] at hk
  obtain ⟨h0, h1⟩ := hk
  refine ⟨h0, ?_⟩
  rcases h1 with h1 | ⟨d, hd, _, e⟩
  · have := h.max0; omega
  · have := h.defs d hd; omega

theorem setAll_length (l : List (Int × UInt8)) : ∀ s : Bs, (setAll s l).length = s.length := by
  induction l with
  | nil => intro s; rfl
  | cons p r ih => intro s; obtain ⟨l, b⟩ := p; simp [setAll, ih]

theorem setGats_length (l : List Gat) : ∀ s : Bs, (setGats s l).length = s.length := by
  induction l with
  | nil => intro s; rfl
  | cons a r ih =>
    intro s
    simp only [setGats, ih]
    split <;> simp

theorem start_length (c : Circ) (st i : Bs) : (start c st i).length = c.max.toNat + 1 := by simp [start, setAll_length]
theorem vals_length (c : Circ) (st i : Bs) : (vals c st i).length = c.max.toNat + 1 := by simp [vals, setGats_length, start_length]

end Go.Proofs.YtjcaejdokillgaaDoor.PC

namespace Go.Proofs.YtjcaejdokillgaaDoor.PC

theorem rising_iff (l : List Gat) : rising none l = true ↔ ∀ k (h : k + 1 < l.length), l[k].lit < l[k + 1].lit := by
  have key : ∀ (l : List Gat) (a : Gat), rising (some a.lit) l = true ↔ ∀ k (h : k + 1 < (a :: l).length), (a :: l)[k].lit < (a :: l)[k + 1].lit := by
    intro l
    induction l with
    | nil => intro a; simp [rising]
    | cons b r ih =>
      intro a
      simp only [rising, Bool.and_eq_true, decide_eq_true_eq, ih b]
      constructor
      · rintro ⟨h1, h2⟩ k h
        cases k with
        | zero => simpa using h1
        | succ k => exact h2 k (by simp at h ⊢; omega)
      · intro h
        refine ⟨by simpa using h 0 (by simp), fun k hk => ?_⟩
        exact h (k + 1) (by simp at hk ⊢; omega)
  cases l with
  | nil => simp [rising]
  | cons a r => exact key r a

theorem nodup_iff (l : List Int) : l.Nodup ↔ ∀ i (h : i < l.length), ¬ l[i] ∈ l.take i := by
  constructor
  · intro hn i hi hm
    obtain ⟨j, hj, e⟩ := List.getElem_of_mem hm
    rw [List.getElem_take] at e
    have hj' : j < i := by rw [List.length_take] at hj; omega
    have := (List.nodup_iff_pairwise_ne.1 hn)
    rw [List.pairwise_iff_getElem] at this
    exact this j i (by omega) hi hj' e
  · intro h
    rw [List.nodup_iff_pairwise_ne, List.pairwise_iff_getElem]
    intro i j hi hj hij e
    refine h j hj ?_
    rw [← e]
    have : i < (l.take j).length := by rw [List.length_take]; omega
    have := List.getElem_mem this
    rwa [List.getElem_take] at this

theorem chk_iff (c : Circ) : chk c = true ↔ (0 ≤ c.max ∧ c.max ≤ 2048 ∧ c.inputs.length ≤ 64 ∧ c.latches.length ≤ 64) ∧ namesFrom c none c.names = true ∧
    (∀ k (h : k < c.latches.length), latOk c c.latches[k] = true) ∧ (∀ k (h : k < c.ands.length), gatOk c c.ands[k] = true) ∧ (∀ k (h : k + 1 < c.ands.length), c.ands[k].lit < c.ands[k + 1].lit) ∧
    (∀ i (h : i < c.defs.length), defOk c c.defs[i] = true ∧ hasI (c.defs.take i) c.defs[i] = false) ∧
    allKnown c c.outputs = true ∧ allKnown c c.bads = true ∧ allKnown c c.invars = true := by
  have hall : ∀ {α : Type} (l : List α) (p : α → Bool), l.all p = true ↔ ∀ k (h : k < l.length), p l[k] = true := by
    intro α l p
    rw [List.all_eq_true]
    constructor
    · intro g k h; exact g _ (List.getElem_mem h)
    · intro g x hx; obtain ⟨k, h, e⟩ := List.getElem_of_mem hx; rw [← e]; exact g k h
  unfold chk
  simp only [Bool.and_eq_true, decide_eq_true_eq, hall, nodupB_iff, nodup_iff, rising_iff]
  have hn : ∀ i (h : i < c.defs.length), hasI (c.defs.take i) c.defs[i] = false ↔ ¬ c.defs[i] ∈ c.defs.take i := by
    intro i h
    rw [hasI_eq, Bool.eq_false_iff]
    simp
  constructor
  · rintro ⟨⟨⟨⟨⟨⟨⟨⟨⟨⟨⟨⟨h1, h2⟩, h3⟩, h4⟩, h5⟩, h6⟩, h7⟩, h8⟩, h9⟩, h10⟩, h11⟩, h12⟩, h13⟩
    exact ⟨⟨h1, h2, h3, h4⟩, h5, h6, h7, h8, fun i h => ⟨h9 i h, (hn i h).2 (h10 i h)⟩, h11, h12, h13⟩
  · rintro ⟨⟨h1, h2, h3, h4⟩, h5, h6, h7, h8, h9, h11, h12, h13⟩
    exact ⟨⟨⟨⟨⟨⟨⟨⟨⟨⟨⟨⟨h1, h2⟩, h3⟩, h4⟩, h5⟩, h6⟩, h7⟩, h8⟩, fun i h => (h9 i h).1⟩, fun i h => (hn i h).1 (h9 i h).2⟩, h11⟩, h12⟩, h13⟩

theorem chk_false_of {c : Circ} (h : ¬ chk c = true) : chk c = false := by simpa using h

theorem take_defs_in (c : Circ) : c.defs.take c.inputs.length = c.inputs := by simp [Circ.defs, List.append_assoc]
theorem defs_lat (c : Circ) (k : Nat) (h : k < c.latches.length) : c.inputs ++ (c.latches.take (k + 1)).map (·.lit) = (c.inputs ++ (c.latches.take k).map (·.lit)) ++ [c.latches[k].lit] := by
  rw [List.take_succ_eq_append_getElem h, List.map_append, ← List.append_assoc]; rfl
theorem defs_gat (c : Circ) (k : Nat) (h : k < c.ands.length) : c.inputs ++ c.latches.map (·.lit) ++ (c.ands.take (k + 1)).map (·.lit) = (c.inputs ++ c.latches.map (·.lit) ++ (c.ands.take k).map (·.lit)) ++ [c.ands[k].lit] := by
  rw [List.take_succ_eq_append_getElem h, List.map_append, ← List.append_assoc]; rfl

end Go.Proofs.YtjcaejdokillgaaDoor.PC

namespace Go.Proofs.YtjcaejdokillgaaDoor.PC

/-- a circuit's literal, as a solver's, from a base -/
def litT (b l : Int) : Int := if min (max l 0) 4097 % 2 = 1 then -(b + min (max l 0) 4097 / 2 + 1) else b + min (max l 0) 4097 / 2 + 1

def isM (m : Bs) (x : Int) : Bool := decide (1 ≤ max x (-x)) && decide (max x (-x) ≤ m.length) && ((m[(max x (-x)).toNat - 1]? == some 49) == decide (0 < x))

def one (m : Bs) (cl : List Int) : Bool := cl.any (isM m)

def force (c : Circ) (assume : List (List Int)) (b : Int) : List (List Int) := c.invars.map (fun l => [litT b l]) ++ assume.map (fun a => a.map (litT b))

theorem litT_small (b l : Int) (h0 : 0 ≤ b) (h1 : b ≤ 262144) : -264194 ≤ litT b l ∧ litT b l ≤ 264194 := by
  unfold litT; split <;> omega

theorem isM_lit (v : Bs) (l : Int) (h0 : 0 ≤ l) (h1 : l ≤ 4097) (h2 : varOf l < v.length) : isM v (litT 0 l) = tru v l := by
  have hm : min (max l 0) 4097 = l := by omega
  unfold litT isM tru negOf
  rw [hm]
  unfold varOf at *
  by_cases ho : l % 2 = 1
  · rw [if_pos ho]
    have e : max (-(0 + l / 2 + 1)) (-(-(0 + l / 2 + 1))) = l / 2 + 1 := by omega
    rw [e]
    have e2 : (l / 2 + 1).toNat - 1 = l.toNat / 2 := by omega
    rw [e2]
    have d1 : decide (1 ≤ l / 2 + 1) = true := by simp; omega
    have d2 : decide (l / 2 + 1 ≤ (v.length : Int)) = true := by simp; omega
    have d3 : decide (0 < -(0 + l / 2 + 1)) = false := by simp; omega
    have d4 : decide (0 < l) = true := by simp; omega
    rw [d1, d2, d3, d4]
    simp only [ho, decide_true, Bool.true_and, Bool.and_true]
    cases (v[l.toNat / 2]? == some 49) <;> rfl
  · rw [if_neg ho]
    have e : max (0 + l / 2 + 1) (-(0 + l / 2 + 1)) = l / 2 + 1 := by omega
    rw [e]
    have e2 : (l / 2 + 1).toNat - 1 = l.toNat / 2 := by omega
    rw [e2]
    have d1 : decide (1 ≤ l / 2 + 1) = true := by simp; omega
    have d2 : decide (l / 2 + 1 ≤ (v.length : Int)) = true := by simp; omega
    have d3 : decide (0 < 0 + l / 2 + 1) = true := by simp; omega
    rw [d1, d2, d3]
    simp only [ho, decide_false, Bool.true_and, Bool.and_false]
    cases (v[l.toNat / 2]? == some 49) <;> rfl

theorem all_congr' {α : Type} (l : List α) (p q : α → Bool) (h : ∀ x ∈ l, p x = q x) : l.all p = l.all q := by
  induction l with
  | nil => rfl
  | cons x r ih => simp only [List.all_cons, h x (by simp), ih fun y hy => h y (by simp [hy])]

theorem any_congr' {α : Type} (l : List α) (p q : α → Bool) (h : ∀ x ∈ l, p x = q x) : l.any p = l.any q := by
  induction l with
  | nil => rfl
  | cons x r ih => simp only [List.any_cons, h x (by simp), ih fun y hy => h y (by simp [hy])]

theorem force_law (c : Circ) (h : Right c) (assume : List (List Int)) (ha : ∀ a ∈ assume, ∀ l ∈ a, 0 ≤ l ∧ l / 2 ≤ c.max) (v : Bs) (hv : v.length = c.max.toNat + 1) :
    (force c assume 0).all (one v) = allowed c assume v := by
  have h1 := h.max1
  have h0 := h.max0
  have key : ∀ l : Int, 0 ≤ l → l ≤ 2 * c.max + 1 → isM v (litT 0 l) = tru v l := fun l g0 g1 => isM_lit v l g0 (by omega) (by rw [hv]; unfold varOf; omega)
  unfold force allowed
  rw [List.all_append, List.all_map, List.all_map]
  congr 1
  · refine all_congr' _ _ _ fun l hl => ?_
    obtain ⟨g0, g1⟩ := known_range c h l (h.invK l hl)
    simp [Function.comp, one, key l g0 g1]
  · refine all_congr' _ _ _ fun a hm => ?_
    simp only [Function.comp, one, holds, List.any_map]
    refine any_congr' _ _ _ fun l hl => ?_
    have := ha a hm l hl
    exact key l this.1 (by omega)

end Go.Proofs.YtjcaejdokillgaaDoor.PC

namespace Go.Proofs.YtjcaejdokillgaaDoor.PC

theorem tru_even (s : Bs) (l : Int) (h : l % 2 = 0) : tru s l = (s[varOf l]? == some 49) := by
  have : negOf l = false := by simp [negOf]; omega
  simp [tru, this]

theorem tru_congr (s t : Bs) (l : Int) (h : s[varOf l]? = t[varOf l]?) : tru s l = tru t l := by simp [tru, h]

theorem setGats_other : ∀ (l : List Gat) (s : Bs) (x : Nat), (∀ a ∈ l, varOf a.lit ≠ x) → (setGats s l)[x]? = s[x]? := by
  intro l
  induction l with
  | nil => intro s x _; rfl
  | cons a r ih =>
    intro s x h
    simp only [setGats]
    rw [ih _ _ fun b hb => h b (by simp [hb])]
    split
    · rw [List.getElem?_set_ne (h a (by simp))]
    · rfl

theorem rising_lt : ∀ (r : List Gat) (p : Int), rising (some p) r = true → ∀ b ∈ r, p < b.lit := by
  intro r
  induction r with
  | nil => intro p _ b hb; cases hb
  | cons a r ih =>
    intro p h b hb
    simp only [rising, Bool.and_eq_true, decide_eq_true_eq] at h
    rcases List.mem_cons.1 hb with rfl | hb
    · exact h.1
    · have := ih a.lit h.2 b hb; omega

theorem setGats_gate : ∀ (l : List Gat) (s : Bs) (p : Option Int), rising p l = true →
    (∀ a ∈ l, 2 ≤ a.lit ∧ a.lit % 2 = 0 ∧ a.left < a.lit ∧ a.right < a.lit ∧ 0 ≤ a.left ∧ 0 ≤ a.right ∧ varOf a.lit < s.length ∧ s[varOf a.lit]? = some 48) →
    ∀ a ∈ l, tru (setGats s l) a.lit = (tru (setGats s l) a.left && tru (setGats s l) a.right) := by
  intro l
  induction l with
  | nil => intro s p _ _ a ha; cases ha
  | cons g r ih =>
    intro s p hr h a ha
    have hr' : rising (some g.lit) r = true := by
      cases p with
      | none => exact hr
      | some q => simp only [rising, Bool.and_eq_true] at hr; exact hr.2
    have hlt := rising_lt r g.lit hr'
    obtain ⟨g1, g2, g3, g4, g5, g6, g7, g8⟩ := h g (by simp)
    simp only [setGats]
    generalize hs : (if tru s g.left && tru s g.right then s.set (varOf g.lit) 49 else s) = s'
    have hother : ∀ x, x ≠ varOf g.lit → s'[x]? = s[x]? := by
      intro x hx
      rw [← hs]
      split
      · rw [List.getElem?_set_ne (Ne.symm hx)]
      · rfl
    have hlen : s'.length = s.length := by rw [← hs]; split <;> simp
    have hrest : ∀ b ∈ r, 2 ≤ b.lit ∧ b.lit % 2 = 0 ∧ b.left < b.lit ∧ b.right < b.lit ∧ 0 ≤ b.left ∧ 0 ≤ b.right ∧ varOf b.lit < s'.length ∧ s'[varOf b.lit]? = some 48 := by
      intro b hb
      obtain ⟨b1, b2, b3, b4, b5, b6, b7, b8⟩ := h b (by simp [hb])
      have := hlt b hb
      refine ⟨b1, b2, b3, b4, b5, b6, by omega, ?_⟩
      rw [hother _ (by unfold varOf; omega)]
      exact b8
    rcases List.mem_cons.1 ha with rfl | ha
    · have hfar : ∀ x, x ≤ varOf a.lit → (setGats s' r)[x]? = s'[x]? := by
        intro x hx
        refine setGats_other r s' x fun b hb => ?_
        have := hlt b hb
        have hb2 := (hrest b hb).2.1
        unfold varOf at *; omega
      have el : tru (setGats s' r) a.left = tru s a.left := by
        refine tru_congr _ _ _ ?_
        rw [hfar _ (by unfold varOf; omega), hother _ (by unfold varOf; omega)]
      have er : tru (setGats s' r) a.right = tru s a.right := by
        refine tru_congr _ _ _ ?_
        rw [hfar _ (by unfold varOf; omega), hother _ (by unfold varOf; omega)]
      rw [el, er, tru_even _ _ g2, hfar _ (Nat.le_refl _), ← hs]
      cases hc : (tru s a.left && tru s a.right) with
      | true => simp [g7]
      | false => simp [g8]
    · exact ih s' _ hr' hrest a ha

theorem setAll_other : ∀ (l : List (Int × UInt8)) (s : Bs) (x : Nat), (∀ p ∈ l, varOf p.1 ≠ x) → (setAll s l)[x]? = s[x]? := by
  intro l
  induction l with
  | nil => intro s x _; rfl
  | cons p r ih =>
    intro s x h
    obtain ⟨d, b⟩ := p
    simp only [setAll]
    rw [ih _ _ fun q hq => h q (by simp [hq]), List.getElem?_set_ne (h (d, b) (by simp))]

theorem start_other (c : Circ) (st i : Bs) (x : Nat) (hx : x < c.max.toNat + 1) (h1 : ∀ d ∈ c.inputs, varOf d ≠ x) (h2 : ∀ y ∈ c.latches, varOf y.lit ≠ x) : (start c st i)[x]? = some 48 := by
  unfold start
  rw [setAll_other _ _ _ fun p hp => by
    have := (List.of_mem_zip hp).1
    obtain ⟨y, hy, e⟩ := List.mem_map.1 this
    rw [← e]; exact h2 y hy]
  rw [setAll_other _ _ _ fun p hp => h1 _ (List.of_mem_zip hp).1]
  simp [hx]

theorem varOf_inj (a b : Int) (ha : 2 ≤ a ∧ a % 2 = 0) (hb : 2 ≤ b ∧ b % 2 = 0) (h : varOf a = varOf b) : a = b := by
  unfold varOf at h; omega

/-- the gates' variables are no input's and no latch's -/
theorem gate_apart (c : Circ) (h : Right c) (a : Gat) (ha : a ∈ c.ands) : (∀ d ∈ c.inputs, varOf d ≠ varOf a.lit) ∧ (∀ y ∈ c.latches, varOf y.lit ≠ varOf a.lit) := by
  have hnd := h.nodup
  unfold Circ.defs at hnd
  rw [List.nodup_append] at hnd
  have hd : ∀ d ∈ c.inputs ++ c.latches.map (·.lit), d ≠ a.lit := fun d hd => hnd.2.2 d hd a.lit (List.mem_map.2 ⟨a, ha, rfl⟩)
  have hr : ∀ d ∈ c.defs, 2 ≤ d ∧ d % 2 = 0 := fun d hd => ⟨(h.defs d hd).1, (h.defs d hd).2.1⟩
  have hg : a.lit ∈ c.defs := by unfold Circ.defs; simp only [List.mem_append, List.mem_map]; exact Or.inr ⟨a, ha, rfl⟩
  constructor
  · intro d hdm e
    refine hd d (by simp [hdm]) (varOf_inj _ _ (hr d ?_) (hr _ hg) e)
    unfold Circ.defs; simp [hdm]
  · intro y hy e
    refine hd y.lit (by simp only [List.mem_append, List.mem_map]; exact Or.inr ⟨y, hy, rfl⟩) (varOf_inj _ _ (hr y.lit ?_) (hr _ hg) e)
    unfold Circ.defs; simp only [List.mem_append, List.mem_map]; exact Or.inl (Or.inr ⟨y, hy, rfl⟩)

theorem def_lt (c : Circ) (h : Right c) (d : Int) (hd : d ∈ c.defs) : varOf d < c.max.toNat + 1 := by
  have := h.defs d hd
  unfold varOf; omega

theorem mem_defs_gat (c : Circ) (a : Gat) (ha : a ∈ c.ands) : a.lit ∈ c.defs := by
  unfold Circ.defs; simp only [List.mem_append, List.mem_map]; exact Or.inr ⟨a, ha, rfl⟩
theorem mem_defs_lat (c : Circ) (x : Lat) (hx : x ∈ c.latches) : x.lit ∈ c.defs := by
  unfold Circ.defs; simp only [List.mem_append, List.mem_map]; exact Or.inl (Or.inr ⟨x, hx, rfl⟩)
theorem mem_defs_in (c : Circ) (l : Int) (hl : l ∈ c.inputs) : l ∈ c.defs := by
  unfold Circ.defs; simp [hl]

/-- P7: each and is the and of its literals -/
theorem vals_gate (c : Circ) (h : Right c) (st i : Bs) (a : Gat) (ha : a ∈ c.ands) : tru (vals c st i) a.lit = (tru (vals c st i) a.left && tru (vals c st i) a.right) := by
  refine setGats_gate c.ands (start c st i) none h.rise (fun b hb => ?_) a ha
  have hd := h.defs b.lit (mem_defs_gat c b hb)
  obtain ⟨h1, h2, h3, h4⟩ := h.gats b hb
  obtain ⟨k1, _⟩ := known_range c h _ h3
  obtain ⟨k2, _⟩ := known_range c h _ h4
  obtain ⟨q1, q2⟩ := gate_apart c h b hb
  have hlt := def_lt c h b.lit (mem_defs_gat c b hb)
  exact ⟨hd.1, hd.2.1, h1, h2, k1, k2, by rw [start_length]; exact hlt, start_other c st i _ hlt q1 q2⟩

/-- a variable that nothing defines is 0 -/
theorem vals_undef (c : Circ) (st i : Bs) (x : Nat) (hx : x < c.max.toNat + 1) (hd : ∀ d ∈ c.defs, varOf d ≠ x) : (vals c st i)[x]? = some 48 := by
  unfold vals
  rw [setGats_other _ _ _ fun a ha => hd _ (mem_defs_gat c a ha)]
  exact start_other c st i x hx (fun d hm => hd d (mem_defs_in c d hm)) (fun y hy => hd _ (mem_defs_lat c y hy))

theorem setAll_bits : ∀ (l : List (Int × UInt8)) (s : Bs), (∀ b ∈ s, b = 48 ∨ b = 49) → (∀ p ∈ l, p.2 = 48 ∨ p.2 = 49) → ∀ b ∈ setAll s l, b = 48 ∨ b = 49 := by
  intro l
  induction l with
  | nil => intro s h _; exact h
  | cons p r ih =>
    intro s h hp
    obtain ⟨d, b⟩ := p
    refine ih _ (fun x hx => ?_) (fun q hq => hp q (by simp [hq]))
    rcases List.mem_or_eq_of_mem_set hx with hx | rfl
    · exact h x hx
    · exact hp (d, x) (by simp)

theorem setGats_bits : ∀ (l : List Gat) (s : Bs), (∀ b ∈ s, b = 48 ∨ b = 49) → ∀ b ∈ setGats s l, b = 48 ∨ b = 49 := by
  intro l
  induction l with
  | nil => intro s h; exact h
  | cons a r ih =>
    intro s h
    refine ih _ fun x hx => ?_
    split at hx
    · rcases List.mem_or_eq_of_mem_set hx with hx | rfl
      · exact h x hx
      · exact Or.inr rfl
    · exact h x hx

theorem vals_bits (c : Circ) (st i : Bs) (h1 : ∀ b ∈ st, b = 48 ∨ b = 49) (h2 : ∀ b ∈ i, b = 48 ∨ b = 49) : ∀ b ∈ vals c st i, b = 48 ∨ b = 49 := by
  refine setGats_bits _ _ (setAll_bits _ _ (setAll_bits _ _ (fun b hb => Or.inl (List.eq_of_mem_replicate hb)) fun p hp => h2 _ (List.of_mem_zip hp).2) fun p hp => h1 _ (List.of_mem_zip hp).2)

theorem bitsOk_mem {s : Bs} {n : Nat} (h : bitsOk s n = true) : (∀ b ∈ s, b = 48 ∨ b = 49) ∧ s.length = n := by
  simp only [bitsOk, Bool.and_eq_true, List.all_eq_true, Bool.or_eq_true, beq_iff_eq, decide_eq_true_eq] at h
  exact h

/-! ### the clauses -/
def isDef (c : Circ) (v : Nat) : Bool := c.defs.any fun d => varOf d == v

def gateClauses (b : Int) (a : Gat) : List (List Int) := [[-litT b a.lit, litT b a.left], [-litT b a.lit, litT b a.right], [litT b a.lit, -litT b a.left, -litT b a.right]]

def gatesT (c : Circ) (b : Int) : List (List Int) :=
  ((List.range (c.max.toNat + 1)).filter fun v => !isDef c v).map (fun (v : Nat) => [-(b + (v : Int) + 1)]) ++ c.ands.flatMap (gateClauses b)

theorem isM_neg (m : Bs) (x : Int) (h1 : 1 ≤ max x (-x)) (h2 : max x (-x) ≤ m.length) : isM m (-x) = !isM m x := by
  unfold isM
  have e : max (-x) (- -x) = max x (-x) := by omega
  rw [e]
  have d1 : decide (1 ≤ max x (-x)) = true := by simpa using h1
  have d2 : decide (max x (-x) ≤ (m.length : Int)) = true := by simpa using h2
  rw [d1, d2]
  have d3 : decide (0 < -x) = !decide (0 < x) := by
    by_cases h : 0 < x
    · rw [decide_eq_true h, decide_eq_false (show ¬ 0 < -x by omega)]; rfl
    · rw [decide_eq_false h, decide_eq_true (show 0 < -x by omega)]; rfl
  rw [d3]
  cases (m[(max x (-x)).toNat - 1]? == some 49) <;> cases decide (0 < x) <;> rfl

theorem litT_abs (l : Int) (h0 : 0 ≤ l) (h1 : l ≤ 4097) : max (litT 0 l) (-litT 0 l) = l / 2 + 1 := by
  unfold litT
  have hm : min (max l 0) 4097 = l := by omega
  rw [hm]
  split <;> omega

theorem isM_unit (w : Bs) (v : Nat) (hv : v < w.length) : isM w (-(0 + (v : Int) + 1)) = !(w[v]? == some 49) := by
  have h := isM_neg w (0 + (v : Int) + 1) (by omega) (by omega)
  rw [h]
  congr 1
  unfold isM
  have e : max (0 + (v : Int) + 1) (-(0 + (v : Int) + 1)) = v + 1 := by omega
  rw [e]
  have d1 : decide (1 ≤ (v : Int) + 1) = true := decide_eq_true (by omega)
  have d2 : decide ((v : Int) + 1 ≤ (w.length : Int)) = true := decide_eq_true (by omega)
  have d3 : decide (0 < 0 + (v : Int) + 1) = true := decide_eq_true (by omega)
  rw [d1, d2, d3, show ((v : Int) + 1).toNat - 1 = v from by omega]
  cases (w[v]? == some 49) <;> rfl

theorem gate_clauses (c : Circ) (h : Right c) (w : Bs) (hw : w.length = c.max.toNat + 1) (a : Gat) (ha : a ∈ c.ands) :
    (gateClauses 0 a).all (one w) = (tru w a.lit == (tru w a.left && tru w a.right)) := by
  have hm := h.max1
  have h0 := h.max0
  have hd := h.defs a.lit (mem_defs_gat c a ha)
  obtain ⟨_, _, h3, h4⟩ := h.gats a ha
  have k1 := known_range c h _ h3
  have k2 := known_range c h _ h4
  have key : ∀ l : Int, 0 ≤ l → l ≤ 2 * c.max + 1 → isM w (litT 0 l) = tru w l ∧ isM w (-litT 0 l) = !tru w l := by
    intro l g0 g1
    have e := isM_lit w l g0 (by omega) (by rw [hw]; unfold varOf; omega)
    refine ⟨e, ?_⟩
    rw [isM_neg _ _ (by rw [litT_abs l g0 (by omega)]; omega) (by rw [litT_abs l g0 (by omega)]; omega), e]
  have eg := key a.lit (by omega) (by omega)
  have el := key a.left k1.1 k1.2
  have er := key a.right k2.1 k2.2
  simp only [gateClauses, List.all_cons, List.all_nil, Bool.and_true, one, List.any_cons, List.any_nil, Bool.or_false, eg.1, eg.2, el.1, el.2, er.1, er.2]
  cases tru w a.lit <;> cases tru w a.left <;> cases tru w a.right <;> rfl

theorem gatesT_iff (c : Circ) (h : Right c) (w : Bs) (hw : w.length = c.max.toNat + 1) :
    (gatesT c 0).all (one w) = true ↔ (∀ v, v < c.max.toNat + 1 → isDef c v = false → w[v]? ≠ some 49) ∧ ∀ a ∈ c.ands, tru w a.lit = (tru w a.left && tru w a.right) := by
  unfold gatesT
  rw [List.all_append, Bool.and_eq_true, List.all_eq_true, List.all_eq_true]
  constructor
  · rintro ⟨h1, h2⟩
    refine ⟨fun v hv hd => ?_, fun a ha => ?_⟩
    · have := h1 [-(0 + (v : Int) + 1)] (List.mem_map.2 ⟨v, List.mem_filter.2 ⟨List.mem_range.2 hv, by simp [hd]⟩, rfl⟩)
      simp only [one, List.any_cons, List.any_nil, Bool.or_false, isM_unit w v (by omega)] at this
      simpa using this
    · have : (gateClauses 0 a).all (one w) = true := List.all_eq_true.2 fun cl hcl => h2 cl (List.mem_flatMap.2 ⟨a, ha, hcl⟩)
      rw [gate_clauses c h w hw a ha] at this
      simpa using this
  · rintro ⟨h1, h2⟩
    refine ⟨fun cl hcl => ?_, fun cl hcl => ?_⟩
    · obtain ⟨v, hv, rfl⟩ := List.mem_map.1 hcl
      obtain ⟨hv1, hv2⟩ := List.mem_filter.1 hv
      have hv3 := List.mem_range.1 hv1
      simp only [one, List.any_cons, List.any_nil, Bool.or_false, isM_unit w v (by omega)]
      have := h1 v hv3 (by simpa using hv2)
      simpa using this
    · obtain ⟨a, ha, hcl'⟩ := List.mem_flatMap.1 hcl
      have : (gateClauses 0 a).all (one w) = true := by rw [gate_clauses c h w hw a ha, h2 a ha]; simp
      exact List.all_eq_true.1 this cl hcl'

/-- the values make the clauses true -/
theorem vals_models (c : Circ) (h : Right c) (st i : Bs) : (gatesT c 0).all (one (vals c st i)) = true := by
  rw [gatesT_iff c h _ (vals_length c st i)]
  refine ⟨fun v hv hd => ?_, fun a ha => vals_gate c h st i a ha⟩
  rw [vals_undef c st i v hv fun d hm e => by
    have : isDef c v = true := List.any_eq_true.2 ⟨d, hm, by simpa using e⟩
    rw [hd] at this; cases this]
  simp

theorem bit_eq {b b' : UInt8} (h : b = 48 ∨ b = 49) (h' : b' = 48 ∨ b' = 49) (e : (b == 49) = (b' == 49)) : b = b' := by
  rcases h with rfl | rfl <;> rcases h' with rfl | rfl <;> first | rfl | (simp at e)

/-- nothing else with the same inputs and latches does -/
theorem models_unique (c : Circ) (h : Right c) (w v : Bs) (hw : w.length = c.max.toNat + 1) (hv : v.length = c.max.toNat + 1) (bw : ∀ b ∈ w, b = 48 ∨ b = 49) (bv : ∀ b ∈ v, b = 48 ∨ b = 49)
    (hd : ∀ d, d ∈ c.inputs ∨ d ∈ c.latches.map (·.lit) → w[varOf d]? = v[varOf d]?) (h1 : (gatesT c 0).all (one w) = true) (h2 : (gatesT c 0).all (one v) = true) : w = v := by
  rw [gatesT_iff c h w hw] at h1
  rw [gatesT_iff c h v hv] at h2
  have key : ∀ n : Nat, n < c.max.toNat + 1 → w[n]? = v[n]? := by
    intro n
    induction n using Nat.strongRecOn with
    | _ n ih =>
      intro hn
      have gw : w[n]? = some w[n] := List.getElem?_eq_getElem (by omega)
      have gv : v[n]? = some v[n] := List.getElem?_eq_getElem (by omega)
      have mw := bw w[n] (List.getElem_mem _)
      have mv := bv v[n] (List.getElem_mem _)
      cases hdn : isDef c n with
      | false =>
        have e1 := h1.1 n hn hdn
        have e2 := h2.1 n hn hdn
        rw [gw] at e1
        rw [gv] at e2
        rw [gw, gv]
        simp only [ne_eq, Option.some.injEq] at e1 e2
        rcases mw with mw | mw
        · rcases mv with mv | mv
          · rw [mw, mv]
          · exact absurd mv e2
        · exact absurd mw e1
      | true =>
        obtain ⟨d, hm, e⟩ := List.any_eq_true.1 hdn
        have e : varOf d = n := by simpa using e
        have hm' := hm
        unfold Circ.defs at hm
        rw [List.mem_append, List.mem_append] at hm
        rcases hm with hm | hm
        · rw [← e]; exact hd d hm
        · obtain ⟨a, ha, rfl⟩ := List.mem_map.1 hm
          have hda := h.defs _ hm'
          obtain ⟨l1, l2, l3, l4⟩ := h.gats a ha
          have k1 := known_range c h _ l3
          have k2 := known_range c h _ l4
          have el : tru w a.left = tru v a.left := tru_congr _ _ _ (ih _ (by unfold varOf at *; omega) (by unfold varOf at *; omega))
          have er : tru w a.right = tru v a.right := tru_congr _ _ _ (ih _ (by unfold varOf at *; omega) (by unfold varOf at *; omega))
          have q1 := h1.2 a ha
          have q2 := h2.2 a ha
          rw [el, er, ← q2, tru_even _ _ hda.2.1, tru_even _ _ hda.2.1, e, gw, gv] at q1
          rw [gw, gv]
          congr 1
          exact bit_eq mw mv (by simpa using q1)
  refine List.ext_getElem? fun n => ?_
  by_cases hn : n < c.max.toNat + 1
  · exact key n hn
  · rw [List.getElem?_eq_none (by omega), List.getElem?_eq_none (by omega)]

end Go.Proofs.YtjcaejdokillgaaDoor.PC

namespace Go.Proofs.YtjcaejdokillgaaDoor.PC

theorem setAll_get : ∀ (l : List (Int × UInt8)) (s : Bs), (l.map fun p => varOf p.1).Nodup → ∀ p ∈ l, varOf p.1 < s.length → (setAll s l)[varOf p.1]? = some p.2 := by
  intro l
  induction l with
  | nil => intro s _ p hp; cases hp
  | cons q r ih =>
    intro s hn p hp hlt
    obtain ⟨d, b⟩ := q
    simp only [List.map_cons, List.nodup_cons] at hn
    simp only [setAll]
    rcases List.mem_cons.1 hp with rfl | hp
    · rw [setAll_other _ _ _ fun x hx e => hn.1 (List.mem_map.2 ⟨x, hx, e⟩)]
      simp [hlt]
    · exact ih _ hn.2 p hp (by simpa using hlt)

theorem varOf_nodup (l : List Int) (h : ∀ d ∈ l, 2 ≤ d ∧ d % 2 = 0) (hn : l.Nodup) : (l.map varOf).Nodup := by
  induction l with
  | nil => simp
  | cons x r ih =>
    simp only [List.map_cons, List.nodup_cons] at hn ⊢
    refine ⟨fun hm => ?_, ih (fun d hd => h d (by simp [hd])) hn.2⟩
    obtain ⟨y, hy, e⟩ := List.mem_map.1 hm
    have := varOf_inj y x (h y (by simp [hy])) (h x (by simp)) e
    exact hn.1 (this ▸ hy)

theorem zip_fst_map {α β γ : Type} (f : α → γ) (l : List α) (m : List β) (h : l.length = m.length) : (l.zip m).map (fun p => f p.1) = l.map f := by
  induction l generalizing m with
  | nil => simp
  | cons x r ih =>
    cases m with
    | nil => simp at h
    | cons y m => simp only [List.zip_cons_cons, List.map_cons, ih m (by simpa using h)]

theorem parts_nodup (c : Circ) (h : Right c) : (c.inputs.map varOf).Nodup ∧ ((c.latches.map (·.lit)).map varOf).Nodup ∧ (∀ d ∈ c.inputs, ∀ x ∈ c.latches, varOf x.lit ≠ varOf d) := by
  have hnd := h.nodup
  have hr : ∀ d ∈ c.defs, 2 ≤ d ∧ d % 2 = 0 := fun d hd => ⟨(h.defs d hd).1, (h.defs d hd).2.1⟩
  have hv := varOf_nodup _ hr hnd
  unfold Circ.defs at hv
  rw [List.map_append, List.map_append, List.nodup_append, List.nodup_append] at hv
  refine ⟨hv.1.1, hv.1.2.1, fun d hd x hx e => ?_⟩
  exact hv.1.2.2 (varOf d) (List.mem_map.2 ⟨d, hd, rfl⟩) (varOf x.lit) (List.mem_map.2 ⟨x.lit, List.mem_map.2 ⟨x, hx, rfl⟩, rfl⟩) e.symm

/-- a latch's value is its state's -/
theorem vals_lat (c : Circ) (h : Right c) (st i : Bs) (hs : st.length = c.latches.length) (k : Nat) (hk : k < c.latches.length) : (vals c st i)[varOf c.latches[k].lit]? = st[k]? := by
  have hm : c.latches[k] ∈ c.latches := List.getElem_mem hk
  have hlt := def_lt c h _ (mem_defs_lat c _ hm)
  unfold vals
  rw [setGats_other _ _ _ fun a ha e => (gate_apart c h a ha).2 _ hm e.symm]
  unfold start
  have hz : (c.latches[k].lit, st[k]'(by omega)) ∈ (c.latches.map (·.lit)).zip st := by
    rw [List.mem_iff_getElem]
    exact ⟨k, by simp; omega, by simp⟩
  have := setAll_get ((c.latches.map (·.lit)).zip st) (setAll (List.replicate (c.max.toNat + 1) 48) (c.inputs.zip i)) (by
    rw [zip_fst_map varOf _ _ (by simp [hs])]
    exact (parts_nodup c h).2.1) _ hz (by rw [setAll_length]; simpa using hlt)
  rw [this, List.getElem?_eq_getElem (by omega)]

/-- an input's value is what came in -/
theorem vals_in (c : Circ) (h : Right c) (st i : Bs) (hi : i.length = c.inputs.length) (k : Nat) (hk : k < c.inputs.length) : (vals c st i)[varOf c.inputs[k]]? = i[k]? := by
  have hm : c.inputs[k] ∈ c.inputs := List.getElem_mem hk
  have hlt := def_lt c h _ (mem_defs_in c _ hm)
  unfold vals
  rw [setGats_other _ _ _ fun a ha e => (gate_apart c h a ha).1 _ hm e.symm]
  unfold start
  rw [setAll_other _ _ _ fun p hp e => by
    have h1 := (List.of_mem_zip hp).1
    obtain ⟨x, hx, e'⟩ := List.mem_map.1 h1
    rw [← e'] at e
    exact (parts_nodup c h).2.2 _ hm x hx e]
  have hz : (c.inputs[k], i[k]'(by omega)) ∈ c.inputs.zip i := by
    rw [List.mem_iff_getElem]
    exact ⟨k, by simp; omega, by simp⟩
  have := setAll_get (c.inputs.zip i) (List.replicate (c.max.toNat + 1) 48) (by
    rw [zip_fst_map varOf _ _ (by simp [hi])]
    exact (parts_nodup c h).1) _ hz (by simpa using hlt)
  rw [this, List.getElem?_eq_getElem (by omega)]

/-! ### first -/
def firstT (c : Circ) : List (List Int) := c.latches.flatMap fun x => if x.reset = 0 then [[-litT 0 x.lit]] else if x.reset = 1 then [[litT 0 x.lit]] else []

theorem all_flatMap {α β : Type} (l : List α) (f : α → List β) (p : β → Bool) : (l.flatMap f).all p = l.all fun x => (f x).all p := by
  induction l with
  | nil => rfl
  | cons x r ih => simp [List.flatMap_cons, List.all_append, ih]

theorem all_zip {α β : Type} (l : List α) (m : List β) (h : m.length = l.length) (p : α × β → Bool) : (l.zip m).all p = true ↔ ∀ k (hk : k < l.length), p (l[k], m[k]'(by omega)) = true := by
  rw [List.all_eq_true]
  constructor
  · intro g k hk
    exact g _ (List.mem_iff_getElem.2 ⟨k, by simp; omega, by simp⟩)
  · intro g x hx
    obtain ⟨k, hk, e⟩ := List.mem_iff_getElem.1 hx
    have hk' : k < l.length := by simp at hk; omega
    have := g k hk'
    rw [← e]; simpa using this

theorem lat_lit (c : Circ) (h : Right c) (x : Lat) (hx : x ∈ c.latches) (w : Bs) (hw : w.length = c.max.toNat + 1) :
    isM w (litT 0 x.lit) = (w[varOf x.lit]? == some 49) ∧ isM w (-litT 0 x.lit) = !(w[varOf x.lit]? == some 49) := by
  have hd := h.defs _ (mem_defs_lat c x hx)
  have h1 := h.max1
  have h0 := h.max0
  have e := isM_lit w x.lit (by omega) (by omega) (by rw [hw]; exact def_lt c h _ (mem_defs_lat c x hx))
  refine ⟨by rw [e, tru_even _ _ hd.2.1], ?_⟩
  rw [isM_neg _ _ (by rw [litT_abs x.lit (by omega) (by omega)]; omega) (by rw [litT_abs x.lit (by omega) (by omega)]; omega), e, tru_even _ _ hd.2.1]

theorem first_law (c : Circ) (h : Right c) (st i : Bs) (hs : bitsOk st c.latches.length = true) : (firstT c).all (one (vals c st i)) = initial c st := by
  have hb := bitsOk_mem hs
  rw [Bool.eq_iff_iff]
  unfold firstT initial
  rw [hs, Bool.true_and, all_flatMap, all_zip c.latches st hb.2, List.all_eq_true]
  have key : ∀ k (hk : k < c.latches.length), ((if c.latches[k].reset = 0 then [[-litT 0 c.latches[k].lit]] else if c.latches[k].reset = 1 then [[litT 0 c.latches[k].lit]] else []).all (one (vals c st i)) = true) ↔
      (!(c.latches[k].reset != c.latches[k].lit && (c.latches[k].reset == 1) != (st[k]'(by omega) == 49))) = true := by
    intro k hk
    have hm : c.latches[k] ∈ c.latches := List.getElem_mem hk
    have hd := h.defs _ (mem_defs_lat c _ hm)
    have hr := h.latReset _ hm
    obtain ⟨e1, e2⟩ := lat_lit c h _ hm _ (vals_length c st i)
    have hv := vals_lat c h st i hb.2 k hk
    have hg : st[k]? = some (st[k]'(by omega)) := List.getElem?_eq_getElem (by omega)
    rw [hv, hg] at e1 e2
    by_cases r0 : c.latches[k].reset = 0
    · have n1 : (c.latches[k].reset != c.latches[k].lit) = true := by rw [bne_iff_ne]; omega
      rw [if_pos r0, n1, r0]
      simp [one, e2]
    · rw [if_neg r0]
      by_cases r1 : c.latches[k].reset = 1
      · have n1 : (c.latches[k].reset != c.latches[k].lit) = true := by rw [bne_iff_ne]; omega
        rw [if_pos r1, n1, r1]
        simp [one, e1]
      · have n1 : (c.latches[k].reset != c.latches[k].lit) = false := by
          have : c.latches[k].reset = c.latches[k].lit := by omega
          rw [this]; simp
        rw [if_neg r1, n1]
        simp
  constructor
  · intro g k hk
    exact (key k hk).1 (g _ (List.getElem_mem hk))
  · intro g x hx
    obtain ⟨k, hk, e⟩ := List.getElem_of_mem hx
    rw [← e]
    exact (key k hk).2 (g k hk)

end Go.Proofs.YtjcaejdokillgaaDoor.PC

namespace Go.Proofs.YtjcaejdokillgaaDoor.PC

theorem gate_lit_ge (c : Circ) (h : Right c) : ∀ k (hk : k < c.ands.length), 2 * ((k : Int) + 1) ≤ c.ands[k].lit := by
  have hr := (rising_iff c.ands).1 h.rise
  intro k
  induction k with
  | zero => intro hk; have := (h.defs _ (mem_defs_gat c _ (List.getElem_mem hk))).1; omega
  | succ k ih =>
    intro hk
    have h1 := ih (by omega)
    have h2 := hr k hk
    have h3 := (h.defs _ (mem_defs_gat c _ (List.getElem_mem (show k < c.ands.length by omega)))).2.1
    have h4 := (h.defs _ (mem_defs_gat c _ (List.getElem_mem hk))).2.1
    omega

theorem ands_len (c : Circ) (h : Right c) : c.ands.length ≤ 2048 := by
  by_cases h0 : c.ands.length = 0
  · omega
  · have h1 := gate_lit_ge c h (c.ands.length - 1) (by omega)
    have h2 := (h.defs _ (mem_defs_gat c _ (List.getElem_mem (show c.ands.length - 1 < c.ands.length by omega)))).2.2
    have := h.max1
    omega

def dfI (c : Circ) (k v : Nat) : Bool := (c.inputs.take k).any fun d => varOf d == v
def dfL (c : Circ) (k v : Nat) : Bool := (c.inputs ++ (c.latches.take k).map (·.lit)).any fun d => varOf d == v
def dfG (c : Circ) (k v : Nat) : Bool := (c.inputs ++ c.latches.map (·.lit) ++ (c.ands.take k).map (·.lit)).any fun d => varOf d == v
theorem dfI_zero (c : Circ) (v : Nat) : dfI c 0 v = false := by simp [dfI]
theorem dfI_succ (c : Circ) (k v : Nat) (h : k < c.inputs.length) : dfI c (k + 1) v = (dfI c k v || varOf c.inputs[k] == v) := by
  unfold dfI
  rw [List.take_succ_eq_append_getElem h, List.any_append]; simp
theorem dfI_end (c : Circ) (v : Nat) : dfI c c.inputs.length v = dfL c 0 v := by simp [dfI, dfL]
theorem dfL_succ (c : Circ) (k v : Nat) (h : k < c.latches.length) : dfL c (k + 1) v = (dfL c k v || varOf c.latches[k].lit == v) := by
  unfold dfL
  rw [defs_lat c k h, List.any_append]; simp
theorem dfL_end (c : Circ) (v : Nat) : dfL c c.latches.length v = dfG c 0 v := by simp [dfL, dfG]
theorem dfG_succ (c : Circ) (k v : Nat) (h : k < c.ands.length) : dfG c (k + 1) v = (dfG c k v || varOf c.ands[k].lit == v) := by
  unfold dfG
  rw [defs_gat c k h, List.any_append]; simp
theorem dfG_end (c : Circ) (v : Nat) : dfG c c.ands.length v = isDef c v := by
  unfold dfG isDef Circ.defs
  rw [List.take_length]

end Go.Proofs.YtjcaejdokillgaaDoor.PC

namespace Go.Proofs.YtjcaejdokillgaaDoor
namespace PC

/-- a bit's octet -/
def bitB (b : Bool) : UInt8 := if b then 49 else 48

theorem bit_min (a b : Bool) : min (bitB a) (bitB b) = bitB (a && b) := by cases a <;> cases b <;> decide

theorem setGats_take_next (s : Bs) (l : List Gat) (k : Nat) (h : k < l.length) : setGats s (l.take (k + 1)) = (if tru (setGats s (l.take k)) l[k].left && tru (setGats s (l.take k)) l[k].right then (setGats s (l.take k)).set (varOf l[k].lit) 49 else setGats s (l.take k)) := by
  induction l generalizing s k with
  | nil => simp at h
  | cons a r ih =>
    cases k with
    | zero => simp [setGats]
    | succ k =>
      have h' : k < r.length := by simpa using h
      rw [List.take_succ_cons, setGats, ih _ k h', List.take_succ_cons, setGats]
      simp

theorem setAll_take_next (l : List (Int × UInt8)) (k : Nat) (h : k < l.length) (s : Bs) : setAll s (l.take (k + 1)) = (setAll s (l.take k)).set (varOf l[k].1) l[k].2 := by
  induction l generalizing s k with
  | nil => simp at h
  | cons p r ih =>
    cases k with
    | zero => rfl
    | succ k =>
      simp only [List.take_succ_cons, setAll, List.getElem_cons_succ]
      exact ih k (by simpa using h) _

theorem gate_bit (c : Circ) (h : Right c) (st i : Bs) (k : Nat) (hk : k < c.ands.length) : (setGats (start c st i) (c.ands.take k))[varOf c.ands[k].lit]? = some 48 := by
  have hm := List.getElem_mem hk
  have hap := gate_apart c h _ hm
  rw [setGats_other _ _ _ fun a ha e => ?_]
  · exact start_other c st i _ (def_lt c h _ (mem_defs_gat c _ hm)) hap.1 hap.2
  · obtain ⟨j, hj, rfl⟩ := List.getElem_of_mem ha
    rw [List.getElem_take] at e
    have hj' : j < k := by simp at hj; omega
    have hr := (rising_iff c.ands).1 h.rise
    have hlt : ∀ m, j < m → (hm : m < c.ands.length) → (c.ands[j]'(by omega)).lit < c.ands[m].lit := by
      intro m
      induction m with
      | zero => intro h0; omega
      | succ m ih =>
        intro h0 hm
        have h1 := hr m hm
        by_cases e : j = m
        · subst e; exact h1
        · have := ih (by omega) (by omega)
          omega
    have h1 := hlt k hj' hk
    have d1 := h.defs _ (mem_defs_gat c _ (List.getElem_mem (show j < c.ands.length by omega)))
    have d2 := h.defs _ (mem_defs_gat c _ hm)
    have := varOf_inj _ _ ⟨d1.1, d1.2.1⟩ ⟨d2.1, d2.2.1⟩ e
    omega

theorem gate_step (c : Circ) (h : Right c) (st i : Bs) (k : Nat) (hk : k < c.ands.length) :
    setGats (start c st i) (c.ands.take (k + 1)) = (setGats (start c st i) (c.ands.take k)).set (varOf c.ands[k].lit) (min (bitB (tru (setGats (start c st i) (c.ands.take k)) c.ands[k].left)) (bitB (tru (setGats (start c st i) (c.ands.take k)) c.ands[k].right))) := by
  rw [setGats_take_next _ _ _ hk]
  have hb := gate_bit c h st i k hk
  generalize setGats (start c st i) (c.ands.take k) = S at *
  have hself : S.set (varOf c.ands[k].lit) 48 = S := by
    apply List.ext_getElem?
    intro j
    rw [List.getElem?_set]
    by_cases e : varOf c.ands[k].lit = j
    · subst e
      obtain ⟨hl, hb2⟩ := List.getElem?_eq_some_iff.1 hb
      simp [hl, hb2]
    · simp [e]
  rw [bit_min]
  cases (tru S c.ands[k].left && tru S c.ands[k].right) with
  | true => rfl
  | false => exact hself.symm

theorem tru_of_bits (m : Bs) (l : Int) (hb : ∀ b ∈ m, b = 48 ∨ b = 49) :
    bitB (tru m l) = (if negOf l then 97 - (m[varOf l]?.getD 48) else m[varOf l]?.getD 48) := by
  unfold tru bitB
  cases hx : m[varOf l]? with
  | none => cases negOf l <;> rfl
  | some b =>
    have := hb b (List.mem_of_getElem? hx)
    rcases this with rfl | rfl <;> cases negOf l <;> rfl

theorem head_not (p : UInt8 → Bool) : ∀ (l : List UInt8) (b : UInt8) (r : List UInt8), l.dropWhile p = b :: r → p b = false
  | [], _, _, h => by simp at h
  | x :: l, b, r, h => by
    rw [List.dropWhile_cons] at h
    cases hx : p x with
    | true => rw [hx] at h; exact head_not p l b r (by simpa using h)
    | false =>
      rw [hx] at h
      have h' : x :: l = b :: r := by simpa using h
      injection h' with h1 h2
      rw [← h1]; exact hx

/-- a text of bits is trimmed to nothing -/
theorem trim_bits (s : Bs) : (Go.Lib.trimS s [48, 49] = []) ↔ s.all (fun b => b == 48 || b == 49) = true := by
  have hp : ∀ b : UInt8, ([48, 49] : List UInt8).contains b = (b == 48 || b == 49) := by
    intro b
    simp only [List.contains, List.elem]
    cases b == 48 <;> cases b == 49 <;> rfl
  have hd : ∀ l : List UInt8, l.dropWhile (fun b => ([48, 49] : List UInt8).contains b) = [] ↔ l.all (fun b => b == 48 || b == 49) = true := by
    intro l
    induction l with
    | nil => simp
    | cons b r ih =>
      rw [List.dropWhile_cons, List.all_cons, ← hp b]
      cases ([48, 49] : List UInt8).contains b with
      | true => simpa using ih
      | false => simp
  unfold Go.Lib.trimS Go.Lib.trimLeftS Go.Lib.trimRightS
  rw [hd]
  constructor
  · intro h
    have h2 : (s.reverse.dropWhile (fun b => ([48, 49] : List UInt8).contains b)) = [] := by
      cases e : s.reverse.dropWhile (fun b => ([48, 49] : List UInt8).contains b) with
      | nil => rfl
      | cons b r =>
        have h3 := head_not (fun b => ([48, 49] : List UInt8).contains b) s.reverse b r e
        rw [e] at h
        rw [List.all_reverse, List.all_cons, Bool.and_eq_true, ← hp b] at h
        exact absurd h.1 (by rw [h3]; decide)
    have := (hd _).1 h2
    rwa [List.all_reverse] at this
  · intro h
    have h2 := (hd s.reverse).2 (by rwa [List.all_reverse])
    rw [h2]; rfl
theorem chk_of_valuesE (c : Circ) (st i : Bs) (h : valuesE c st i = 0) : chk c = true ∧ bitsOk st c.latches.length = true ∧ bitsOk i c.inputs.length = true := by
  unfold valuesE at h
  split at h
  · cases h
  split at h
  · cases h
  · rename_i h1 h2
    refine ⟨by simpa using h1, ?_, ?_⟩
    · cases e : bitsOk st c.latches.length with
      | true => rfl
      | false => exact absurd (Or.inl e) h2
    · cases e : bitsOk i c.inputs.length with
      | true => rfl
      | false => exact absurd (Or.inr e) h2
end PC
end Go.Proofs.YtjcaejdokillgaaDoor

namespace Go.Proofs.YtjcaejdokillgaaDoor.PC

def metI (c : Circ) (k : Nat) : List Int := (c.inputs.take k).map (· / 2)
def metL (c : Circ) (k : Nat) : List Int := c.inputs.map (· / 2) ++ (c.latches.take k).map (fun x => x.lit / 2)
def metG (c : Circ) (k : Nat) : List Int := c.inputs.map (· / 2) ++ c.latches.map (fun x => x.lit / 2) ++ (c.ands.take k).map (fun x => x.lit / 2)
def prevLit (c : Circ) (k : Nat) : Option Int := if k = 0 then none else (c.ands[k - 1]?).map (·.lit)
def sIn (c : Circ) (k : Nat) : Bool := stageIn c.max c.latches c.ands (metI c k) (c.inputs.drop k)
def sLat (c : Circ) (k : Nat) : Bool := stageLat c.max c.ands (metL c k) (c.latches.drop k)
def sGat (c : Circ) (k : Nat) : Bool := stageGat c.max (metG c k) (prevLit c k) (c.ands.drop k)

theorem metI_succ (c : Circ) (k : Nat) (h : k < c.inputs.length) : metI c (k + 1) = metI c k ++ [c.inputs[k] / 2] := by
  unfold metI; rw [List.take_succ_eq_append_getElem h, List.map_append]; rfl
theorem metL_succ (c : Circ) (k : Nat) (h : k < c.latches.length) : metL c (k + 1) = metL c k ++ [c.latches[k].lit / 2] := by
  unfold metL; rw [List.take_succ_eq_append_getElem h, List.map_append, ← List.append_assoc]; rfl
theorem metG_succ (c : Circ) (k : Nat) (h : k < c.ands.length) : metG c (k + 1) = metG c k ++ [c.ands[k].lit / 2] := by
  unfold metG; rw [List.take_succ_eq_append_getElem h, List.map_append, ← List.append_assoc]; rfl

theorem sIn_zero (c : Circ) : definedOk c = sIn c 0 := by simp [definedOk, sIn, metI]
theorem sIn_step (c : Circ) (k : Nat) (h : k < c.inputs.length) : sIn c k = (defineOk c.max (metI c k) c.inputs[k] && sIn c (k + 1)) := by
  unfold sIn
  rw [List.drop_eq_getElem_cons h, stageIn, metI_succ c k h]
theorem sIn_end (c : Circ) : sIn c c.inputs.length = sLat c 0 := by
  simp [sIn, sLat, stageIn, metI, metL]
theorem sLat_step (c : Circ) (k : Nat) (h : k < c.latches.length) : sLat c k = (defineOk c.max (metL c k) c.latches[k].lit && resetOk c.latches[k] && sLat c (k + 1)) := by
  unfold sLat
  rw [List.drop_eq_getElem_cons h, stageLat, metL_succ c k h]
theorem sLat_end (c : Circ) : sLat c c.latches.length = sGat c 0 := by
  simp [sLat, sGat, stageLat, metL, metG, prevLit]
theorem sGat_zero (c : Circ) (h : 0 < c.ands.length) : sGat c 0 = (defineOk c.max (metG c 0) c.ands[0].lit && sGat c 1) := by
  unfold sGat
  rw [List.drop_eq_getElem_cons h, metG_succ c 0 h]
  simp [prevLit, stageGat, h]
theorem sGat_step (c : Circ) (k : Nat) (h0 : 0 < k) (h : k < c.ands.length) :
    sGat c k = (defineOk c.max (metG c k) c.ands[k].lit && decide ((c.ands[k - 1]'(by omega)).lit < c.ands[k].lit) && sGat c (k + 1)) := by
  unfold sGat
  rw [List.drop_eq_getElem_cons h, metG_succ c k h]
  have e1 : prevLit c k = some (c.ands[k - 1]'(by omega)).lit := by
    simp [prevLit, show ¬ k = 0 by omega, List.getElem?_eq_getElem (show k - 1 < c.ands.length by omega)]
  have e2 : prevLit c (k + 1) = some c.ands[k].lit := by
    simp [prevLit, List.getElem?_eq_getElem h]
  rw [e1, e2, stageGat]
theorem sGat_end (c : Circ) : sGat c c.ands.length = true := by
  unfold sGat
  rw [List.drop_length]
  cases prevLit c c.ands.length <;> rfl
theorem metG_end (c : Circ) : metG c c.ands.length = mets c := by
  simp [metG, mets, Circ.defs, Function.comp_def]

theorem pchk_iff (c : Circ) : pchk c = true ↔ boundsOk c = true ∧ definedOk c = true ∧ (∀ k (h : k < c.latches.length), knownP (mets c) c.latches[k].next = true) ∧
    (∀ k (h : k < c.ands.length), knownP (mets c) c.ands[k].left = true ∧ knownP (mets c) c.ands[k].right = true ∧ c.ands[k].left < c.ands[k].lit ∧ c.ands[k].right < c.ands[k].lit) ∧
    c.outputs.all (knownP (mets c)) = true ∧ c.bads.all (knownP (mets c)) = true ∧ c.invars.all (knownP (mets c)) = true ∧ namedP c none c.names = true := by
  unfold pchk
  simp only [Bool.and_eq_true]
  constructor
  · rintro ⟨⟨⟨⟨⟨⟨⟨h1, h2⟩, h3⟩, h4⟩, h5⟩, h6⟩, h7⟩, h8⟩
    rw [List.all_eq_true] at h3 h4
    refine ⟨h1, h2, fun k h => h3 _ (List.getElem_mem h), fun k h => ?_, h5, h6, h7, h8⟩
    have := h4 _ (List.getElem_mem h)
    simp only [Bool.and_eq_true, decide_eq_true_eq] at this
    exact ⟨this.1.1.1, this.1.1.2, this.1.2, this.2⟩
  · rintro ⟨h1, h2, h3, h4, h5, h6, h7, h8⟩
    refine ⟨⟨⟨⟨⟨⟨⟨h1, h2⟩, ?_⟩, ?_⟩, h5⟩, h6⟩, h7⟩, h8⟩
    · rw [List.all_eq_true]
      intro x hx
      obtain ⟨k, hk, rfl⟩ := List.getElem_of_mem hx
      exact h3 k hk
    · rw [List.all_eq_true]
      intro x hx
      obtain ⟨k, hk, rfl⟩ := List.getElem_of_mem hx
      obtain ⟨a, b, d, e⟩ := h4 k hk
      simp [a, b, d, e]

theorem pchk_false_of {c : Circ} (h : ¬ pchk c = true) : pchk c = false := by simpa using h

end Go.Proofs.YtjcaejdokillgaaDoor.PC
