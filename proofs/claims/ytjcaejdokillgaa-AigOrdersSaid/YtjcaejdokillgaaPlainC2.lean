/- Plain circuits: the program's own look at a circuit answers as the page's. -/
import Derived.Test.YtjcaejdokillgaaPlainC
namespace Go.Proofs.Ytjcaejdokillgaa.PC

def defineOk (most : Int) (met : List Int) (l : Int) : Bool := decide (2 ≤ l) && decide (l % 2 = 0) && decide (l / 2 ≤ most) && !met.contains (l / 2)

def resetOk (x : Lat) : Bool := decide (x.reset = 0) || decide (x.reset = 1) || decide (x.reset = x.lit)

def stageGat (most : Int) : List Int → Option Int → List Gat → Bool
  | _, _, [] => true
  | met, none, a :: r => defineOk most met a.lit && stageGat most (met ++ [a.lit / 2]) (some a.lit) r
  | met, some p, a :: r => defineOk most met a.lit && decide (p < a.lit) && stageGat most (met ++ [a.lit / 2]) (some a.lit) r

def stageLat (most : Int) (ands : List Gat) : List Int → List Lat → Bool
  | met, [] => stageGat most met none ands
  | met, x :: r => defineOk most met x.lit && resetOk x && stageLat most ands (met ++ [x.lit / 2]) r

def stageIn (most : Int) (lats : List Lat) (ands : List Gat) : List Int → List Int → Bool
  | met, [] => stageLat most ands met lats
  | met, l :: r => defineOk most met l && stageIn most lats ands (met ++ [l / 2]) r

def definedOk (c : Circ) : Bool := stageIn c.max c.latches c.ands [] c.inputs

def knownP (met : List Int) (l : Int) : Bool := decide (0 ≤ l) && (decide (l < 2) || met.contains (l / 2))

def kindsOk (k : Bs) : Bool := decide (k = [105]) || decide (k = [108]) || decide (k = [111]) || decide (k = [98]) || decide (k = [99])

/-- the program's count: another kind counts what must be -/
def countP (c : Circ) (k : Bs) : Int :=
  if k = [105] then c.inputs.length else if k = [108] then c.latches.length else if k = [111] then c.outputs.length
  else if k = [98] then c.bads.length else c.invars.length

def nameOkP (c : Circ) (x : Nam) : Bool := kindsOk x.kind && decide (0 ≤ x.at_) && decide (x.at_ < countP c x.kind) && textOk x.text

def rankP (x : Nam) : Int := rank x.kind * 2048 + x.at_

def namedP (c : Circ) : Option Nam → List Nam → Bool
  | _, [] => true
  | none, x :: r => nameOkP c x && namedP c (some x) r
  | some y, x :: r => nameOkP c x && decide (rankP y < rankP x) && namedP c (some x) r

def boundsOk (c : Circ) : Bool :=
  decide (0 ≤ c.max) && decide (c.max ≤ 2048) && decide (c.inputs.length ≤ 64) && decide (c.latches.length ≤ 64) && decide (c.outputs.length ≤ 64) && decide (c.bads.length ≤ 64) && decide (c.invars.length ≤ 64)

def mets (c : Circ) : List Int := c.defs.map (· / 2)

def pchk (c : Circ) : Bool :=
  boundsOk c && definedOk c && c.latches.all (fun x => knownP (mets c) x.next)
    && c.ands.all (fun a => knownP (mets c) a.left && knownP (mets c) a.right && decide (a.left < a.lit) && decide (a.right < a.lit))
    && c.outputs.all (knownP (mets c)) && c.bads.all (knownP (mets c)) && c.invars.all (knownP (mets c)) && namedP c none c.names

/-! ### what is defined -/
def defsFrom (most : Int) : List Int → List Int → Bool
  | _, [] => true
  | met, d :: r => defineOk most met d && defsFrom most (met ++ [d / 2]) r

theorem stageGat_eq (most : Int) : ∀ (ands : List Gat) (met : List Int) (p : Option Int), stageGat most met p ands = (defsFrom most met (ands.map (·.lit)) && rising p ands) := by
  intro ands
  induction ands with
  | nil => intro met p; cases p <;> rfl
  | cons a r ih =>
    intro met p
    cases p with
    | none => simp only [stageGat, List.map_cons, defsFrom, rising, ih, Bool.and_assoc]
    | some p =>
      simp only [stageGat, List.map_cons, defsFrom, rising, ih]
      cases defineOk most met a.lit <;> cases decide (p < a.lit) <;> simp

theorem defsFrom_append (most : Int) : ∀ (l m : List Int) (met : List Int), defsFrom most met (l ++ m) = (defsFrom most met l && defsFrom most (met ++ l.map (· / 2)) m) := by
  intro l
  induction l with
  | nil => intro m met; simp [defsFrom]
  | cons d r ih => intro m met; simp only [List.cons_append, defsFrom, ih, List.map_cons, List.append_assoc, List.nil_append, Bool.and_assoc]

theorem stageLat_eq (most : Int) (ands : List Gat) : ∀ (lats : List Lat) (met : List Int), stageLat most ands met lats = (defsFrom most met (lats.map (·.lit) ++ ands.map (·.lit)) && lats.all resetOk && rising none ands) := by
  intro lats
  induction lats with
  | nil => intro met; simp [stageLat, stageGat_eq]
  | cons x r ih =>
    intro met
    simp only [stageLat, ih, List.map_cons, List.cons_append, defsFrom, List.all_cons]
    cases defineOk most met x.lit <;> cases resetOk x <;> simp

theorem stageIn_eq (most : Int) (lats : List Lat) (ands : List Gat) : ∀ (ins : List Int) (met : List Int),
    stageIn most lats ands met ins = (defsFrom most met (ins ++ lats.map (·.lit) ++ ands.map (·.lit)) && lats.all resetOk && rising none ands) := by
  intro ins
  induction ins with
  | nil => intro met; simp [stageIn, stageLat_eq]
  | cons x r ih =>
    intro met
    simp only [stageIn, ih, List.cons_append, defsFrom]
    cases defineOk most met x <;> simp

theorem definedOk_eq (c : Circ) : definedOk c = (defsFrom c.max [] c.defs && c.latches.all resetOk && rising none c.ands) := stageIn_eq _ _ _ _ _

theorem nodupB_iff (l : List Int) : nodupB l = true ↔ l.Nodup := by
  induction l with
  | nil => simp [nodupB]
  | cons x r ih => simp [nodupB, ih]

theorem defsFrom_iff (most : Int) : ∀ (l met : List Int), defsFrom most met l = true ↔
    (∀ d ∈ l, 2 ≤ d ∧ d % 2 = 0 ∧ d / 2 ≤ most) ∧ (l.map (· / 2)).Nodup ∧ ∀ d ∈ l, ¬ d / 2 ∈ met := by
  intro l
  induction l with
  | nil => intro met; simp [defsFrom]
  | cons d r ih =>
    intro met
    simp only [defsFrom, defineOk, Bool.and_eq_true, decide_eq_true_eq, Bool.not_eq_true', List.contains_eq_mem, decide_eq_false_iff_not, ih, List.mem_cons, forall_eq_or_imp, List.map_cons, List.nodup_cons, List.mem_map, List.mem_append, List.mem_nil_iff, or_false, not_or]
    constructor
    · rintro ⟨⟨⟨⟨h1, h2⟩, h3⟩, h4⟩, h5, h6, h7⟩
      exact ⟨⟨⟨h1, h2, h3⟩, h5⟩, ⟨fun ⟨y, hy, e⟩ => (h7 y hy).2 e, h6⟩, h4, fun y hy => (h7 y hy).1⟩
    · rintro ⟨⟨⟨h1, h2, h3⟩, h5⟩, ⟨h6, h7⟩, h8, h9⟩
      exact ⟨⟨⟨⟨h1, h2⟩, h3⟩, h8⟩, h5, h7, fun y hy => ⟨h9 y hy, fun e => h6 ⟨y, hy, e⟩⟩⟩

theorem nodup_half (l : List Int) (h : ∀ d ∈ l, 2 ≤ d ∧ d % 2 = 0) : (l.map (· / 2)).Nodup ↔ l.Nodup := by
  induction l with
  | nil => simp
  | cons x r ih =>
    simp only [List.map_cons, List.nodup_cons, List.mem_map, ih (fun d hd => h d (List.mem_cons_of_mem _ hd))]
    have hx := h x (by simp)
    constructor
    · rintro ⟨h1, h2⟩
      exact ⟨fun hm => h1 ⟨x, hm, rfl⟩, h2⟩
    · rintro ⟨h1, h2⟩
      refine ⟨fun ⟨y, hy, e⟩ => h1 ?_, h2⟩
      have := h y (List.mem_cons_of_mem _ hy)
      have e' : y = x := by omega
      exact e' ▸ hy

theorem defsFrom_eq (c : Circ) : defsFrom c.max [] c.defs = (c.defs.all (defOk c) && nodupB c.defs) := by
  rw [Bool.eq_iff_iff, defsFrom_iff, Bool.and_eq_true, nodupB_iff, List.all_eq_true]
  simp only [defOk, Bool.and_eq_true, decide_eq_true_eq, List.not_mem_nil, not_false_eq_true, implies_true, and_true]
  constructor
  · rintro ⟨h1, h2⟩
    exact ⟨fun d hd => ⟨⟨(h1 d hd).1, (h1 d hd).2.1⟩, by have := h1 d hd; omega⟩, (nodup_half _ fun d hd => ⟨(h1 d hd).1, (h1 d hd).2.1⟩).1 h2⟩
  · rintro ⟨h1, h2⟩
    exact ⟨fun d hd => ⟨(h1 d hd).1.1, (h1 d hd).1.2, by have := h1 d hd; omega⟩, (nodup_half _ fun d hd => (h1 d hd).1).2 h2⟩

/-! ### what is known -/
theorem hasVar_iff (l : List Int) (v : Int) : hasVar l v = true ↔ ∃ d ∈ l, 0 ≤ d ∧ d / 2 = v := by
  simp [hasVar, List.any_eq_true]

theorem kindS_ne (c : Circ) (v : Int) : (kindS c v).isEmpty = false ↔ v = 0 ∨ hasVar c.defs v = true := by
  have hd : hasVar c.defs v = (hasVar c.inputs v || hasVar (c.latches.map (·.lit)) v || hasVar (c.ands.map (·.lit)) v) := by
    simp [Circ.defs, hasVar, List.any_append, Bool.or_assoc]
  rw [hd]
  unfold kindS
  by_cases h0 : v = 0
  · simp [h0]
  · rw [if_neg h0]
    cases h1 : hasVar c.inputs v <;> cases h2 : hasVar (c.latches.map (·.lit)) v <;> cases h3 : hasVar (c.ands.map (·.lit)) v <;> simp [h0]

theorem known_eq (c : Circ) (h : ∀ d ∈ c.defs, 2 ≤ d) (l : Int) : knownP (mets c) l = known c l := by
  rw [Bool.eq_iff_iff]
  simp only [knownP, known, Bool.and_eq_true, decide_eq_true_eq, Bool.or_eq_true, Bool.not_eq_true', kindS_ne, hasVar_iff, List.contains_eq_mem, mets, List.mem_map]
  constructor
  · rintro ⟨h0, h1⟩
    refine ⟨h0, ?_⟩
    rcases h1 with h1 | ⟨d, hd, e⟩
    · left; omega
    · right; exact ⟨d, hd, by have := h d hd; omega, e⟩
  · rintro ⟨h0, h1⟩
    refine ⟨h0, ?_⟩
    rcases h1 with h1 | ⟨d, hd, _, e⟩
    · left; omega
    · right; exact ⟨d, hd, e⟩

/-! ### names -/
theorem nameOk_eq (c : Circ) (x : Nam) : nameOkP c x = nameOk c x := by
  unfold nameOkP nameOk countP count kindsOk
  by_cases h1 : x.kind = [105]
  · simp [h1]
  by_cases h2 : x.kind = [108]
  · simp [h2]
  by_cases h3 : x.kind = [111]
  · simp [h3]
  by_cases h4 : x.kind = [98]
  · simp [h4]
  by_cases h5 : x.kind = [99]
  · simp [h5]
  simp only [h1, h2, h3, h4, h5, if_false, decide_false, Bool.or_false, Bool.false_and]
  symm
  rw [Bool.and_eq_false_iff, Bool.and_eq_false_iff]
  left
  by_cases h : 0 ≤ x.at_
  · right; simp; omega
  · left; simpa using h

theorem kind_rank (c : Circ) (x : Nam) (h : nameOk c x = true) (hb : boundsOk c = true) :
    0 ≤ x.at_ ∧ x.at_ < 2048 ∧ 0 ≤ rank x.kind ∧ (x.kind = [105] ∨ x.kind = [108] ∨ x.kind = [111] ∨ x.kind = [98] ∨ x.kind = [99]) := by
  simp only [nameOk, Bool.and_eq_true, decide_eq_true_eq] at h
  simp only [boundsOk, Bool.and_eq_true, decide_eq_true_eq] at hb
  obtain ⟨⟨h1, h2⟩, _⟩ := h
  unfold count at h2
  refine ⟨h1, ?_⟩
  by_cases k1 : x.kind = [105]
  · rw [if_pos k1] at h2; exact ⟨by omega, by simp [rank, k1], Or.inl k1⟩
  by_cases k2 : x.kind = [108]
  · rw [if_neg k1, if_pos k2] at h2; exact ⟨by omega, by simp [rank, k2], Or.inr (Or.inl k2)⟩
  by_cases k3 : x.kind = [111]
  · rw [if_neg k1, if_neg k2, if_pos k3] at h2; exact ⟨by omega, by simp [rank, k3], Or.inr (Or.inr (Or.inl k3))⟩
  by_cases k4 : x.kind = [98]
  · rw [if_neg k1, if_neg k2, if_neg k3, if_pos k4] at h2; exact ⟨by omega, by simp [rank, k4], Or.inr (Or.inr (Or.inr (Or.inl k4)))⟩
  by_cases k5 : x.kind = [99]
  · rw [if_neg k1, if_neg k2, if_neg k3, if_neg k4, if_pos k5] at h2; exact ⟨by omega, by simp [rank, k5], Or.inr (Or.inr (Or.inr (Or.inr k5)))⟩
  rw [if_neg k1, if_neg k2, if_neg k3, if_neg k4, if_neg k5] at h2
  omega

theorem ahead_eq (c : Circ) (y x : Nam) (hy : nameOk c y = true) (hx : nameOk c x = true) (hb : boundsOk c = true) : decide (rankP y < rankP x) = ahead y x := by
  obtain ⟨y1, y2, y3, yk⟩ := kind_rank c y hy hb
  obtain ⟨x1, x2, x3, xk⟩ := kind_rank c x hx hb
  have hinj : y.kind = x.kind ↔ rank y.kind = rank x.kind := by
    constructor
    · intro e; rw [e]
    · intro e
      rcases yk with h | h | h | h | h <;> rcases xk with k | k | k | k | k <;> rw [h, k] at e ⊢ <;> simp [rank] at e
  rw [Bool.eq_iff_iff, decide_eq_true_iff]
  simp only [rankP, ahead, Bool.not_eq_true', Bool.or_eq_false_iff, Bool.and_eq_false_iff, decide_eq_false_iff_not, hinj]
  omega

theorem named_eq (c : Circ) (hb : boundsOk c = true) : ∀ (l : List Nam) (p : Option Nam), (∀ y, p = some y → nameOk c y = true) → namedP c p l = namesFrom c p l := by
  intro l
  induction l with
  | nil => intro p _; cases p <;> rfl
  | cons x r ih =>
    intro p hp
    cases hx : nameOk c x with
    | false => cases p <;> simp [namedP, namesFrom, nameOk_eq, hx]
    | true =>
      have hr := ih (some x) (fun y e => by cases e; exact hx)
      cases p with
      | none => simp [namedP, namesFrom, nameOk_eq, hx, hr]
      | some y => simp [namedP, namesFrom, nameOk_eq, hx, hr, ahead_eq c y x (hp y rfl) hx hb]

/-! ### all of it -/
theorem pchk_eq (c : Circ) : pchk c = chk c := by
  unfold pchk chk
  rw [definedOk_eq, defsFrom_eq]
  cases hB : boundsOk c with
  | false =>
    simp only [Bool.false_and]
    symm
    rw [Bool.eq_false_iff]
    intro h
    simp only [Bool.and_eq_true, decide_eq_true_eq, allKnown] at h
    have : boundsOk c = true := by
      simp only [boundsOk, Bool.and_eq_true, decide_eq_true_eq]
      omega
    rw [hB] at this
    cases this
  | true =>
    rw [named_eq c hB c.names none (fun y e => by cases e)]
    simp only [boundsOk, Bool.and_eq_true, decide_eq_true_eq] at hB
    cases hD : c.defs.all (defOk c) with
    | false => simp
    | true =>
      have h2 : ∀ d ∈ c.defs, 2 ≤ d := fun d hd => by
        have := List.all_eq_true.1 hD d hd
        simp only [defOk, Bool.and_eq_true, decide_eq_true_eq] at this
        exact this.1.1
      have hk := known_eq c h2
      have hkf : knownP (mets c) = known c := funext hk
      rw [hkf]
      have hl : c.latches.all (latOk c) = (c.latches.all resetOk && c.latches.all (fun x => known c x.next)) := by
        rw [Bool.eq_iff_iff]
        simp only [List.all_eq_true, latOk, resetOk, Bool.and_eq_true]
        exact ⟨fun h => ⟨fun x hx => (h x hx).1, fun x hx => (h x hx).2⟩, fun h x hx => ⟨h.1 x hx, h.2 x hx⟩⟩
      have hg : c.ands.all (gatOk c) = c.ands.all (fun a => known c a.left && known c a.right && decide (a.left < a.lit) && decide (a.right < a.lit)) := by
        congr 1
        funext a
        unfold gatOk
        cases decide (a.left < a.lit) <;> cases decide (a.right < a.lit) <;> cases known c a.left <;> cases known c a.right <;> rfl
      rw [hl, hg]
      simp only [allKnown, hB, decide_true, Bool.true_and, Bool.and_true]
      cases namesFrom c none c.names <;> cases c.latches.all resetOk <;> cases (c.latches.all fun x => known c x.next) <;>
        cases (c.ands.all (fun a => known c a.left && known c a.right && decide (a.left < a.lit) && decide (a.right < a.lit))) <;> cases rising none c.ands <;> cases nodupB c.defs <;>
        cases c.outputs.all (known c) <;> cases c.bads.all (known c) <;> simp

end Go.Proofs.Ytjcaejdokillgaa.PC
