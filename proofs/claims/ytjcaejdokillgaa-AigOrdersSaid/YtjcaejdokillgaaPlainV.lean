/- Plain circuits: the values of a state and an input. -/
import Derived.Test.YtjcaejdokillgaaPlainC2
namespace Go.Proofs.Ytjcaejdokillgaa.PC

/-- is a number in a list? -/
def hasI (l : List Int) (n : Int) : Bool := l.contains n
theorem hasI_eq (l : List Int) (n : Int) : hasI l n = l.contains n := rfl

/-- a literal's variable; is it one that is not? -/
def varOf (l : Int) : Nat := l.toNat / 2
def negOf (l : Int) : Bool := decide (0 < l) && decide (l % 2 = 1)

/-- is a literal true? -/
def tru (s : Bs) (l : Int) : Bool := (s[varOf l]? == some 49) != negOf l

def bitsOk (s : Bs) (n : Nat) : Bool := s.all (fun b => b == 48 || b == 49) && decide (s.length = n)

/-- octets laid at the variables of literals, one by one -/
def setAll (s : Bs) : List (Int × UInt8) → Bs
  | [] => s
  | (l, b) :: r => setAll (s.set (varOf l) b) r

/-- gate by gate -/
def setGats (s : Bs) : List Gat → Bs
  | [] => s
  | a :: r => setGats (if tru s a.left && tru s a.right then s.set (varOf a.lit) 49 else s) r

def start (c : Circ) (state input : Bs) : Bs :=
  setAll (setAll (List.replicate (c.max.toNat + 1) 48) (c.inputs.zip input)) ((c.latches.map (·.lit)).zip state)

def vals (c : Circ) (state input : Bs) : Bs := setGats (start c state input) c.ands

/-- the page's answer: values, or why there are none -/
def valuesE (c : Circ) (state input : Bs) : Int :=
  if chk c = false then 9 else if bitsOk state c.latches.length = false ∨ bitsOk input c.inputs.length = false then 5 else 0

def valuesS (c : Circ) (state input : Bs) : Bs := if valuesE c state input = 0 then vals c state input else []

def nexts (c : Circ) (v : Bs) : Bs := c.latches.map fun x => if tru v x.next then 49 else 48

def holds (v : Bs) (l : List Int) : Bool := l.any (tru v)

def allowed (c : Circ) (assume : List (List Int)) (v : Bs) : Bool := c.invars.all (tru v) && assume.all (holds v)

def initial (c : Circ) (state : Bs) : Bool :=
  bitsOk state c.latches.length && (c.latches.zip state).all fun p => !(p.1.reset != p.1.lit && (p.1.reset == 1) != (p.2 == 49))

/-! ### what chk says -/
structure Right (c : Circ) : Prop where
  max0 : 0 ≤ c.max
  max1 : c.max ≤ 2048
  ins : c.inputs.length ≤ 64
  lats : c.latches.length ≤ 64
  outs : c.outputs.length ≤ 64
  bads : c.bads.length ≤ 64
  invs : c.invars.length ≤ 64
  defs : ∀ d ∈ c.defs, 2 ≤ d ∧ d % 2 = 0 ∧ d ≤ 2 * c.max
  nodup : c.defs.Nodup
  latNext : ∀ x ∈ c.latches, known c x.next = true
  latReset : ∀ x ∈ c.latches, x.reset = 0 ∨ x.reset = 1 ∨ x.reset = x.lit
  gats : ∀ a ∈ c.ands, a.left < a.lit ∧ a.right < a.lit ∧ known c a.left = true ∧ known c a.right = true
  rise : rising none c.ands = true
  outK : ∀ l ∈ c.outputs, known c l = true
  badK : ∀ l ∈ c.bads, known c l = true
  invK : ∀ l ∈ c.invars, known c l = true

theorem right_of (c : Circ) (h : chk c = true) : Right c := by
  simp only [chk, Bool.and_eq_true, decide_eq_true_eq, List.all_eq_true, allKnown, nodupB_iff] at h
  obtain ⟨⟨⟨⟨⟨⟨⟨⟨⟨⟨⟨⟨h1, h2⟩, h3⟩, h4⟩, h5⟩, h6⟩, h7⟩, h8⟩, h9⟩, h10⟩, h11⟩, h12⟩, h13⟩ := h
  refine ⟨h1, h2, h3, h4, h11.2, h12.2, h13.2, ?_, h10, ?_, ?_, ?_, h8, h11.1, h12.1, h13.1⟩
  · intro d hd
    have := h9 d hd
    simp only [defOk, Bool.and_eq_true, decide_eq_true_eq] at this
    exact ⟨this.1.1, this.1.2, this.2⟩
  · intro x hx
    have := h6 x hx
    simp only [latOk, Bool.and_eq_true] at this
    exact this.2
  · intro x hx
    have := h6 x hx
    simp only [latOk, Bool.and_eq_true, Bool.or_eq_true, decide_eq_true_eq] at this
    omega
  · intro a ha
    have := h7 a ha
    simp only [gatOk, Bool.and_eq_true, decide_eq_true_eq] at this
    exact ⟨this.1.1.1, this.1.1.2, this.1.2, this.2⟩

theorem known_range (c : Circ) (h : Right c) (l : Int) (hk : known c l = true) : 0 ≤ l ∧ l ≤ 2 * c.max + 1 := by
  simp only [known, Bool.and_eq_true, decide_eq_true_eq, Bool.not_eq_true', kindS_ne, hasVar_iff] at hk
  obtain ⟨h0, h1⟩ := hk
  refine ⟨h0, ?_⟩
  rcases h1 with h1 | ⟨d, hd, _, e⟩
  · have := h.max0; omega
  · have := h.defs d hd; omega

theorem setAll_length (l : List (Int × UInt8)) : ∀ s : Bs, (setAll s l).length = s.length := by
  induction l with
  | nil => intro s; rfl
  | cons p r ih => intro s; obtain ⟨l, b⟩ := p; simp [setAll, ih]

theorem setGats_length (l : List Gat) : ∀ s : Bs, (setGats s l).length = s.length := by
  induction l with
  | nil => intro s; rfl
  | cons a r ih =>
    intro s
    simp only [setGats, ih]
    split <;> simp

theorem start_length (c : Circ) (st i : Bs) : (start c st i).length = c.max.toNat + 1 := by simp [start, setAll_length]
theorem vals_length (c : Circ) (st i : Bs) : (vals c st i).length = c.max.toNat + 1 := by simp [vals, setGats_length, start_length]

end Go.Proofs.Ytjcaejdokillgaa.PC
