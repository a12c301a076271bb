/- Plain: circuits as octets: which are in order, what their octets are. -/
import Derived.Test.YtjcaejdokillgaaPlainU
import Derived.Test.YtjcaejdokillgaaPlainG
import Derived.Test.YtjcaejdokillgaaPlain01
import Derived.Lib.Join
namespace Go.Proofs.Ytjcaejdokillgaa.PA
open PC

/-- literals of variables one behind the other -/
def seqB : Int → List Int → Bool
  | _, [] => true
  | v, l :: r => decide (l = 2 * (v + 1)) && seqB (v + 1) r

def downB (a : Gat) : Bool := decide (a.right ≤ a.left)

/-- is a circuit in order? -/
def ordered (c : Circ) : Bool := chk c && (seqB 0 c.defs && c.ands.all downB && decide (c.max = c.defs.length))

/-- a number in groups of seven bits -/
def grp (n : Nat) : Bs := if n < 128 then [UInt8.ofNat n] else UInt8.ofNat (n % 128 + 128) :: grp (n / 128)
termination_by n
decreasing_by omega

def words (ahead : Bs) (l : List Int) : List Bs := (if ahead = [] then [] else [ahead]) ++ l.map P01.decI
def lineT (ahead : Bs) (l : List Int) : Bs := Lib.join (words ahead l) [32] ++ [10]
def headN (c : Circ) : List Int := [c.max, c.inputs.length, c.latches.length, c.outputs.length, c.ands.length, c.bads.length, c.invars.length]
def latN (x : Lat) : List Int := if x.reset = 0 then [x.next] else [x.next, x.reset]
def latT (x : Lat) : Bs := lineT [] (latN x)
def oneT (n : Int) : Bs := lineT [] [n]
def gatT (a : Gat) : Bs := grp (a.lit - a.left).toNat ++ grp (a.left - a.right).toNat
def namT (x : Nam) : Bs := x.kind ++ P01.decI x.at_ ++ [32] ++ x.text ++ [10]
def told (c : Circ) : List Int := c.outputs ++ c.bads ++ c.invars

def text4 (c : Circ) : Bs := c.names.flatMap namT
def text3 (c : Circ) : Bs := c.ands.flatMap gatT ++ text4 c
def text2 (c : Circ) : Bs := (told c).flatMap oneT ++ text3 c
def text1 (c : Circ) : Bs := c.latches.flatMap latT ++ text2 c
/-- a circuit's octets -/
def text (c : Circ) : Bs := lineT [97, 105, 103] (headN c) ++ text1 c

def writeE (c : Circ) : Int := if ordered c = true then 0 else 8

/-! ### as the page lays a line -/
theorem lineT_head (w : Bs) (h : w ≠ []) (l : List Int) : lineT w l = w ++ l.flatMap (fun n => 32 :: P01.decI n) ++ [10] := by
  unfold lineT words
  rw [if_neg h]
  simp only [List.cons_append, List.nil_append]
  rw [Lib.join_cons]
  simp only [Lib.joinTail, List.map_map, List.flatMap]
  rfl
theorem lineT_one (n : Int) : lineT [] [n] = P01.decI n ++ [10] := by
  unfold lineT words
  rw [if_pos rfl]
  simp [Lib.join_one]
theorem lineT_two (n m : Int) : lineT [] [n, m] = P01.decI n ++ [32] ++ P01.decI m ++ [10] := by
  unfold lineT words
  rw [if_pos rfl]
  simp [Lib.join_cons, Lib.joinTail]

/-! ### how long it is -/
theorem decI_len (n : Int) (h1 : -9223372036854775808 ≤ n) (h2 : n ≤ 9223372036854775807) : (P01.decI n).length ≤ 20 := by
  have := P01.dec_len n.natAbs 19 (by have : (10:Nat) ^ 19 = 10000000000000000000 := by decide
                                      omega) (by decide)
  unfold P01.decI
  split <;> simp <;> omega

theorem grp_len (n : Nat) (h : n < 2097152) : (grp n).length ≤ 3 := by
  rw [grp]
  split
  · simp
  · rw [grp]
    split
    · simp
    · rw [grp]
      split
      · simp
      · omega

theorem flat_len {α : Type} (f : α → Bs) (m : Nat) : ∀ l : List α, (∀ x ∈ l, (f x).length ≤ m) → (l.flatMap f).length ≤ l.length * m
  | [], _ => by simp
  | x :: l, h => by
    have h1 := h x (by simp)
    have h2 := flat_len f m l fun y hy => h y (by simp [hy])
    simp only [List.flatMap_cons, List.length_append, List.length_cons, Nat.add_mul]
    omega

theorem named_len (c : Circ) (hb : boundsOk c = true) : ∀ (l : List Nam) (y : Nam), rankP y ≤ 10240 → namedP c (some y) l = true → rankP y + l.length ≤ 10240 := by
  intro l
  induction l with
  | nil => intro y h _; simpa using h
  | cons x r ih =>
    intro y _ h
    simp only [namedP, Bool.and_eq_true, decide_eq_true_eq] at h
    obtain ⟨⟨h1, h2⟩, h3⟩ := h
    rw [nameOk_eq] at h1
    obtain ⟨a1, a2, a3, a4⟩ := kind_rank c x h1 hb
    have hr : rank x.kind ≤ 4 := by rcases a4 with e | e | e | e | e <;> rw [e] <;> decide
    have := ih x (by unfold rankP; omega) h3
    simp only [List.length_cons]
    omega

theorem bounds_of {c : Circ} (h : chk c = true) : boundsOk c = true := by
  rw [← pchk_eq] at h
  simp only [pchk, Bool.and_eq_true] at h
  exact h.1.1.1.1.1.1.1

theorem names_ok {c : Circ} (h : chk c = true) : c.names.length ≤ 10241 ∧ ∀ x ∈ c.names, nameOk c x = true := by
  have hb := bounds_of h
  have hn : namedP c none c.names = true := by
    rw [← pchk_eq] at h
    simp only [pchk, Bool.and_eq_true] at h
    exact h.2
  have key : ∀ (l : List Nam) (p : Option Nam), namedP c p l = true → ∀ x ∈ l, nameOk c x = true := by
    intro l
    induction l with
    | nil => intro p _ x hx; cases hx
    | cons a r ih =>
      intro p hp x hx
      have : nameOk c a = true ∧ namedP c (some a) r = true := by
        cases p with
        | none => simp only [namedP, Bool.and_eq_true, nameOk_eq] at hp; exact hp
        | some y => simp only [namedP, Bool.and_eq_true, nameOk_eq] at hp; exact ⟨hp.1.1, hp.2⟩
      rcases List.mem_cons.1 hx with rfl | hx
      · exact this.1
      · exact ih _ this.2 x hx
  refine ⟨?_, key _ _ hn⟩
  cases hl : c.names with
  | nil => simp
  | cons a r =>
    rw [hl] at hn
    simp only [namedP, Bool.and_eq_true, nameOk_eq] at hn
    obtain ⟨a1, a2, a3, a4⟩ := kind_rank c a hn.1 hb
    have hr : rank a.kind ≤ 4 := by rcases a4 with e | e | e | e | e <;> rw [e] <;> decide
    have := named_len c hb r a (by unfold rankP; omega) hn.2
    have h0 : 0 ≤ rankP a := by unfold rankP; omega
    simp only [List.length_cons]
    omega

theorem namT_len {c : Circ} {x : Nam} (hc : chk c = true) (h : nameOk c x = true) : (namT x).length ≤ 60 := by
  obtain ⟨a1, a2, a3, a4⟩ := kind_rank c x h (bounds_of hc)
  have hk : x.kind.length = 1 := by rcases a4 with e | e | e | e | e <;> rw [e] <;> rfl
  simp only [nameOk, textOk, Bool.and_eq_true, decide_eq_true_eq] at h
  have := decI_len x.at_ (by omega) (by omega)
  unfold namT
  simp only [List.length_append, List.length_cons, List.length_nil]
  omega

theorem lineT_len (ahead : Bs) (l : List Int) (h : ∀ n ∈ l, -9223372036854775808 ≤ n ∧ n ≤ 9223372036854775807) : (lineT ahead l).length ≤ ahead.length + 21 * l.length + 1 := by
  have hj : ∀ r : List Int, (∀ n ∈ r, -9223372036854775808 ≤ n ∧ n ≤ 9223372036854775807) → (Lib.joinTail [32] (r.map P01.decI)).length ≤ 21 * r.length := by
    intro r
    induction r with
    | nil => intro _; simp [Lib.joinTail]
    | cons n r ih =>
      intro h
      have h1 := ih fun m hm => h m (by simp [hm])
      have h2 := decI_len n (h n (by simp)).1 (h n (by simp)).2
      simp only [Lib.joinTail, List.map_cons, List.flatten_cons, List.length_append, List.length_cons, List.length_nil] at h1 ⊢
      omega
  unfold lineT words
  split
  · rename_i e
    subst e
    cases l with
    | nil => simp [Lib.join_nil]
    | cons n r =>
      simp only [List.nil_append, List.map_cons, Lib.join_cons, List.length_append, List.length_cons, List.length_nil]
      have h1 := hj r fun m hm => h m (by simp [hm])
      have h2 := decI_len n (h n (by simp)).1 (h n (by simp)).2
      omega
  · simp only [List.cons_append, List.nil_append, Lib.join_cons, List.length_append, List.length_cons, List.length_nil]
    have h1 := hj l h
    omega

theorem gat_rng {c : Circ} (h : ordered c = true) {a : Gat} (ha : a ∈ c.ands) : 0 ≤ a.lit - a.left ∧ a.lit - a.left ≤ 4096 ∧ 0 ≤ a.left - a.right ∧ a.left - a.right ≤ 4096 ∧ 0 ≤ a.right ∧ a.left ≤ 4097 ∧ 0 ≤ a.left ∧ a.lit ≤ 4096 := by
  unfold ordered at h
  simp only [Bool.and_eq_true] at h
  have hR := right_of c h.1
  obtain ⟨g1, g2, g3, g4⟩ := hR.gats a ha
  have k1 := known_range c hR _ g3
  have k2 := known_range c hR _ g4
  have hd := hR.defs _ (mem_defs_gat c a ha)
  have hm := hR.max1
  have := List.all_eq_true.1 h.2.1.2 a ha
  simp only [downB, decide_eq_true_eq] at this
  omega

theorem known_rng {c : Circ} (hR : Right c) {l : Int} (h : known c l = true) : 0 ≤ l ∧ l ≤ 4097 := by
  have := known_range c hR l h
  have := hR.max1
  omega

theorem latN_rng {c : Circ} (hR : Right c) {x : Lat} (hx : x ∈ c.latches) : ∀ n ∈ latN x, 0 ≤ n ∧ n ≤ 4097 := by
  intro n hn
  have h1 := known_rng hR (hR.latNext x hx)
  have h2 := hR.latReset x hx
  have h3 := hR.defs _ (mem_defs_lat c x hx)
  have h4 := hR.max1
  unfold latN at hn
  split at hn
  · simp only [List.mem_cons, List.mem_nil_iff, or_false] at hn
    omega
  · simp only [List.mem_cons, List.mem_nil_iff, or_false] at hn
    omega

theorem told_rng {c : Circ} (hR : Right c) : ∀ n ∈ told c, 0 ≤ n ∧ n ≤ 4097 := by
  intro n hn
  unfold told at hn
  simp only [List.mem_append] at hn
  rcases hn with (hn | hn) | hn
  · exact known_rng hR (hR.outK n hn)
  · exact known_rng hR (hR.badK n hn)
  · exact known_rng hR (hR.invK n hn)

theorem text_len {c : Circ} (h : ordered c = true) : (text c).length ≤ 700000 := by
  have hc : chk c = true := by unfold ordered at h; simp only [Bool.and_eq_true] at h; exact h.1
  have hR := right_of c hc
  obtain ⟨n1, n2⟩ := names_ok hc
  have ha := ands_len c hR
  have b0 := hR.max0
  have b1 := hR.max1
  have b2 := hR.ins
  have b3 := hR.lats
  have b4 := hR.outs
  have b5 := hR.bads
  have b6 := hR.invs
  have h1 := lineT_len [97, 105, 103] (headN c) (by
    intro n hn
    simp only [headN, List.mem_cons, List.mem_nil_iff, or_false] at hn
    omega)
  have h2 := flat_len latT 43 c.latches fun x hx => by
    have := lineT_len [] (latN x) fun n hn => by have := latN_rng hR hx n hn; omega
    have hl : (latN x).length ≤ 2 := by unfold latN; split <;> simp
    unfold latT
    simp only [List.length_nil] at this
    omega
  have h3 := flat_len oneT 22 (told c) fun n hn => by
    have := lineT_len [] [n] fun m hm => by
      have e : m = n := by simpa using hm
      have := told_rng hR n hn
      omega
    unfold oneT
    simpa using this
  have h4 := flat_len gatT 6 c.ands fun a hx => by
    have := gat_rng h hx
    have g1 := grp_len (a.lit - a.left).toNat (by omega)
    have g2 := grp_len (a.left - a.right).toNat (by omega)
    unfold gatT
    rw [List.length_append]; omega
  have h5 := flat_len namT 60 c.names fun x hx => namT_len hc (n2 x hx)
  have ht : (told c).length ≤ 192 := by unfold told; simp only [List.length_append]; omega
  unfold text text1 text2 text3 text4
  simp only [List.length_append, headN, List.length_cons, List.length_nil] at h1 ⊢
  omega

end Go.Proofs.Ytjcaejdokillgaa.PA
