/- Plain circuits: what the pages say of them, with no program in sight. -/
namespace Go.Proofs.Ytjcaejdokillgaa.PC

abbrev Bs := List UInt8

structure Lat where
  lit : Int
  next : Int
  reset : Int
deriving DecidableEq, Inhabited

structure Gat where
  lit : Int
  left : Int
  right : Int
deriving DecidableEq, Inhabited

structure Nam where
  kind : Bs
  at_ : Int
  text : Bs
deriving DecidableEq, Inhabited

structure Circ where
  max : Int
  inputs : List Int
  latches : List Lat
  outputs : List Int
  bads : List Int
  invars : List Int
  ands : List Gat
  names : List Nam
deriving DecidableEq, Inhabited

/-- the literals that define variables -/
def Circ.defs (c : Circ) : List Int := c.inputs ++ c.latches.map (·.lit) ++ c.ands.map (·.lit)

/-- is a variable something? -/
def hasVar (l : List Int) (v : Int) : Bool := l.any fun d => decide (0 ≤ d) && decide (d / 2 = v)

/-- what a variable is -/
def kindS (c : Circ) (v : Int) : Bs :=
  if v = 0 then [48] else if hasVar c.inputs v then [105] else if hasVar (c.latches.map (·.lit)) v then [108] else if hasVar (c.ands.map (·.lit)) v then [97] else []

def known (c : Circ) (l : Int) : Bool := decide (0 ≤ l) && !(kindS c (l / 2)).isEmpty

def allKnown (c : Circ) (l : List Int) : Bool := l.all (known c) && decide (l.length ≤ 64)

/-- how many of a kind; -1: no kind -/
def count (c : Circ) (k : Bs) : Int :=
  if k = [105] then c.inputs.length else if k = [108] then c.latches.length else if k = [111] then c.outputs.length
  else if k = [98] then c.bads.length else if k = [99] then c.invars.length else -1

def rank (k : Bs) : Int := if k = [105] then 0 else if k = [108] then 1 else if k = [111] then 2 else if k = [98] then 3 else if k = [99] then 4 else -1

def textOk (t : Bs) : Bool := !t.isEmpty && decide (t.length ≤ 32) && t.all fun b => decide (33 ≤ b.toNat) && decide (b.toNat ≤ 126)

def nameOk (c : Circ) (x : Nam) : Bool := decide (0 ≤ x.at_) && decide (x.at_ < count c x.kind) && textOk x.text

/-- does a name stand ahead of another one? -/
def ahead (y x : Nam) : Bool := !(decide (rank x.kind < rank y.kind) || (decide (y.kind = x.kind) && decide (x.at_ ≤ y.at_)))

/-- all names, one behind the other; 'p' stands ahead -/
def namesFrom (c : Circ) : Option Nam → List Nam → Bool
  | _, [] => true
  | none, x :: r => nameOk c x && namesFrom c (some x) r
  | some y, x :: r => nameOk c x && ahead y x && namesFrom c (some x) r

def latOk (c : Circ) (x : Lat) : Bool := (decide (x.reset = 0) || decide (x.reset = 1) || decide (x.reset = x.lit)) && known c x.next

def gatOk (c : Circ) (a : Gat) : Bool := decide (a.left < a.lit) && decide (a.right < a.lit) && known c a.left && known c a.right

def rising : Option Int → List Gat → Bool
  | _, [] => true
  | none, a :: r => rising (some a.lit) r
  | some p, a :: r => decide (p < a.lit) && rising (some a.lit) r

def defOk (c : Circ) (d : Int) : Bool := decide (2 ≤ d) && decide (d % 2 = 0) && decide (d ≤ 2 * c.max)

def nodupB : List Int → Bool
  | [] => true
  | x :: r => !r.contains x && nodupB r

/-- may a circuit be? -/
def chk (c : Circ) : Bool :=
  decide (0 ≤ c.max) && decide (c.max ≤ 2048) && decide (c.inputs.length ≤ 64) && decide (c.latches.length ≤ 64) && namesFrom c none c.names
    && c.latches.all (latOk c) && c.ands.all (gatOk c) && rising none c.ands && c.defs.all (defOk c) && nodupB c.defs
    && allKnown c c.outputs && allKnown c c.bads && allKnown c c.invars

end Go.Proofs.Ytjcaejdokillgaa.PC
