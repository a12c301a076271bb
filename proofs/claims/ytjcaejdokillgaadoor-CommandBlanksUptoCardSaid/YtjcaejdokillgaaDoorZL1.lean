/- A region that draws its order, by facts and by an invariant, of which an operation may also panic. -/
import Derived.Test.YtjcaejdokillgaaDoorRows
import Derived.WalkKit
import Derived.WalkSpells
import Derived.WalkLawsBesides
import Derived.Lib.Hide
import Derived.Deep.LoopGhost
import Derived.Shelf.Abstract
import Derived.Deep.QuietTactic
import Derived.BigQuiet
import Derived.StillTailTactics
namespace Go.Proofs.YtjcaejdokillgaaDoor
open Go.RowKit

theorem Below.of {w w1 w2 : World} (h : Below w.heap.size w w1) (k : Below w1.heap.size w1 w2) : Below w.heap.size w w2 := h.trans (k.mono h.size)

theorem grownBy_drew {w w' : World} {r : Option Nat} (h : w.grownBy w' r) : w.grownBy w'.drew r := ⟨h.os, h.tape, h.output, h.size, h.block⟩

theorem mk_get (l : List UInt8) (i : Nat) (h : i < (ByteArray.mk l.toArray).size) : (ByteArray.mk l.toArray)[i]'h = l[i]'h := rfl

theorem past1 {w : World} {p : Addr} {v : Value} (h : w.cell? p = some v) : ∀ o, (w.alloc o).cell? p = some v := fun o =>
  ((Below.refl w.heap.size w).alloc (Nat.le_refl _) o).cell (World.block_lt_of_cell? w p h) |>.trans h
theorem past2 {w : World} {p : Addr} {v : Value} (h : w.cell? p = some v) : ∀ o o', ((w.alloc o).alloc o').cell? p = some v := fun o o' => past1 (past1 h o) o'
theorem past3 {w : World} {p : Addr} {v : Value} (h : w.cell? p = some v) : ∀ o o' o'', (((w.alloc o).alloc o').alloc o'').cell? p = some v := fun o o' o'' => past1 (past2 h o o') o''

/-- a world in which all that lay in w lies as it was -/
structure Later (w : World) where
  at_ : World
  below : Below w.heap.size w at_

instance (w : World) : Nonempty (Later w) := ⟨⟨w, Below.refl _ _⟩⟩

theorem below1 {w w1 : World} {o : Obj} (h : Below (w.alloc o).heap.size (w.alloc o) w1) : Below w.heap.size w w1 := Below.of ((Below.refl _ _).alloc (Nat.le_refl _) _) h

def Later.now (w : World) : Later w := ⟨w, Below.refl _ _⟩
def Later.drew (w : World) : Later w := ⟨w.drew, (Below.refl _ _).drew⟩
def Later.next {w : World} (x : Later w) {w' : World} (h : Below x.at_.heap.size x.at_ w') : Later w := ⟨w', Below.of x.below h⟩

theorem Later.cell {w : World} {p : Addr} {v : Value} (x : Later w) (h : w.cell? p = some v) : x.at_.cell? p = some v :=
  (x.below.cell (World.block_lt_of_cell? w p h)).trans h

/-- A region that draws its order, whose operations read, and whose callees make memory alone: one walk in the order of the text. -/
theorem wp_region_later {P : Program} {id : Nat} {Q : Exit → Act → World → Prop} {a : Act} {w : World} {l : List Oper} (hm : P.follows .mixedOrders = true) (hB : Region.lexB .any l.toArray = true)
    (h : wpQuiet P l.toArray (fun w' => ∃ x : Later w, w' = x.at_) (fun a' => ∀ w', (∃ x : Later w, w' = x.at_) → Q .normal a' w') l a) : (Code.region id l.toArray true).wp P Q a w :=
  wp_region_quiet (C := fun w' => ∃ x : Later w, w' = x.at_) hm hB ⟨Later.drew w, rfl⟩ (by simpa using h)

/-- a callee's contract, met in such a region -/
theorem Calls.later {P : Program} {f : FuncId} {args : Array Value} {w : World} {x : Later w} {v : Value}
    (h : Calls P f args x.at_ fun e w' => e = .returned v ∧ Below x.at_.heap.size x.at_ w') : Calls P f args x.at_ fun e w' => e = .returned v ∧ ∃ y : Later w, w' = y.at_ :=
  h.mono fun _ _ ⟨he, hb⟩ => ⟨he, x.next hb, rfl⟩

theorem Calls.later_same {P : Program} {f : FuncId} {args : Array Value} {w : World} {x : Later w} {v : Value}
    (h : Calls P f args x.at_ fun e w' => e = .returned v ∧ x.at_ = w') : Calls P f args x.at_ fun e w' => e = .returned v ∧ ∃ y : Later w, w' = y.at_ :=
  h.mono fun _ _ ⟨he, hb⟩ => ⟨he, x, hb.symm⟩

/-- 'append(out, x, ..)': what is appended lies in a new block; out is the call's own -/
theorem app_new {P : Program} {ops : Array Oper} {rest : List Oper} {o : Oper} {a : Act} {Q : Exit → Act → World → Prop} {w : World} (hgd : o.guard = none) (s x : Operand) (t : TypeId)
    (ho : o.op = .call { callee := .builtin .append, args := #[s, x], argTypes := #[t, t] }) (e : TypeId) (k bytes : Nat) (z : Value) (ht : P.underlying t = some (.slice e))
    (hinfo : (P.info? e).map (fun i => (i.zero, i.size, i.bytes)) = some (some z, k, bytes)) (hzk : z.cells.size = k) (hk0 : 0 < k)
    {B0 : Nat} {w0 : World} {B : Nat} {v : Value} {n : Nat} {xs : List Value} (hs : a.eval s = v) (hown : w.ownsRow B e k v n xs) (hb : Below B0 w0 w) (hB : B0 ≤ B) (hBw : B ≤ w.heap.size)
    (cs : Array Value) (m c : Nat) (hcs : cs.size = m * k) (h1 : ∀ u ∈ cs.toList, u.oneCell' = true) (hx : a.eval x = .slice (some ⟨w.heap.size, 0, none⟩) m c)
    (hmax : n + m ≤ 9223372036854775807) (hroom : (n + m) * bytes ≤ 140737488355328)
    (h : ∀ v' w', w'.ownsRow B e k v' (n + m) (xs ++ cs.toList) → Below B0 w0 w' → B ≤ w'.heap.size → (w.alloc (.cells cs e)).grownBy w' v.ownBlock → wpList P ops Q rest (a.put o.dst v') w') :
    wpList P ops Q (o :: rest) a (w.alloc (.cells cs e)) := by
  obtain ⟨i, hi, hz0, hz1, hz2⟩ := info_parts hinfo
  refine wpList_append_own _ hgd s x t ho B e i z k bytes ht hi hz0 hz1 hz2 hzk hk0 v n xs hs (hown.alloc _) ⟨w.heap.size, 0, none⟩ m c cs.toList hx (by simpa using hcs) ?_ h1 hmax hroom (by simp; omega) ?_
  · intro j u hj
    rw [show ((⟨w.heap.size, 0, none⟩ : Addr).add j) = ⟨w.heap.size, j, none⟩ from by unfold Addr.add; split <;> simp_all]
    rw [World.cell?_alloc_mark]
    simpa using hj
  · intro v' w' hown' hgr _
    refine h v' w' hown' ?_ ?_ hgr
    · refine (hb.alloc (by omega) _).grown hgr (by simp; omega) fun j hj => ?_
      have := (hown.lt j hj).1
      omega
    · have := hgr.size
      simp at this
      omega

theorem owns_some {w : World} {B : Nat} {e : TypeId} {k : Nat} {v : Value} {n : Nat} {xs : List Value} (h : w.ownsRow B e k v n xs) (hn : 0 < n) :
    ∃ g cap, v = .slice (some ⟨g, 0, none⟩) n cap ∧ B ≤ g ∧ g < w.heap.size ∧ n ≤ cap := by
  rcases h.2 with ⟨_, h0⟩ | ⟨g, cap, cur, rfl, hb, hg, hc, _⟩
  · omega
  · exact ⟨g, cap, rfl, hb, (Array.getElem?_eq_some_iff.1 hg).1, hc⟩

/-- what lies beside an owned slice stays where that slice is appended to -/
theorem beside {w w' W : World} {B : Nat} {e : TypeId} {k : Nat} {v : Value} {n : Nat} {xs : List Value} (hown : w.ownsRow B e k v n xs) (hgr : W.grownBy w' v.ownBlock) {p : Addr} {u : Value} (h : W.cell? p = some u) (hp : w.heap.size ≤ p.block) : w'.cell? p = some u :=
  hgr.cell h fun e => by have := (hown.lt p.block e.symm).2; omega

/-- 'string(b)' of octets that the call owns -/
theorem conv_back {P : Program} {w : World} {B : Nat} {e : TypeId} {g cap : Nat} {l : List UInt8} (src dst : TypeId) (hs : P.underlying src = some (.slice e)) (he : P.underlying e = some (.int .u8)) (hd : P.underlying dst = some .string)
    (n : Nat) (hn : l.length = n) (h : w.ownsRow B e 1 (.slice (some ⟨g, 0, none⟩) n cap) n (l.map fun c => Value.int .u8 (c.toNat : Int))) :
    (convert src dst (.slice (some ⟨g, 0, none⟩) n cap)).run P w = .ok (.string ⟨l.toArray⟩) w := by
  subst hn
  refine run_convert_bytes_back w src dst e ⟨g, 0, none⟩ cap l hs he hd fun j hj => ?_
  rw [show ((⟨g, 0, none⟩ : Addr).add j) = ⟨g, j, none⟩ from by unfold Addr.add; split <;> simp_all]
  rw [h.cellAt j (by omega), List.getElem?_map, List.getElem?_eq_getElem hj]
  rfl

end Go.Proofs.YtjcaejdokillgaaDoor

namespace Go.Proofs.YtjcaejdokillgaaDoor
open Go Go.RowKit

section
variable {P : Program} {ops : Array Oper}

/-- values laid into slots, one by one -/
def lexPut : List (Option Tmp) → Nat → (Nat → Value) → Act → Act
  | [], _, _, a => a
  | d :: r, k, vs, a => lexPut r (k + 1) vs (a.put d (vs k))

theorem lexPut_snoc (l : List (Option Tmp)) (d : Option Tmp) (vs : Nat → Value) : ∀ k a, lexPut (l ++ [d]) k vs a = (lexPut l k vs a).put d (vs (k + l.length)) := by
  induction l with
  | nil => intro k a; rfl
  | cons e r ih =>
    intro k a
    rw [List.cons_append, lexPut, ih, lexPut, List.length_cons, show k + 1 + r.length = k + (r.length + 1) by omega]

def dstOf (ops : Array Oper) (i : Nat) : Option Tmp := (ops[i]?).bind (·.dst)

/-- what stands behind the operations that s tells -/
def actOf (ops : Array Oper) (vs : Nat → Value) (s : Nat → Bool) (a : Act) : Nat → Act
  | 0 => a
  | i + 1 => if s i then (actOf ops vs s a i).put (dstOf ops i) (vs i) else actOf ops vs s a i

theorem actOf_none (vs : Nat → Value) (s : Nat → Bool) (a : Act) : ∀ m, (∀ j, j < m → s j = false) → actOf ops vs s a m = a
  | 0, _ => rfl
  | m + 1, h => by rw [actOf, h m (by omega), if_neg (by decide), actOf_none vs s a m fun j hj => h j (by omega)]

theorem actOf_lex {l : List Oper} (vs : Nat → Value) (s : Nat → Bool) (a : Act) : ∀ i, i ≤ l.length → (∀ j, j < i → s j = true) → actOf l.toArray vs s a i = lexPut ((l.take i).map (·.dst)) 0 vs a
  | 0, _, _ => by simp [actOf, lexPut]
  | i + 1, hi, h => by
    have hi' : i < l.length := by omega
    rw [actOf, h i (by omega), if_pos rfl, actOf_lex vs s a i (by omega) fun j hj => h j (by omega), List.take_succ_eq_append_getElem hi', List.map_append, List.map_singleton, lexPut_snoc]
    have e : dstOf l.toArray i = l[i].dst := by simp [dstOf, hi']
    rw [e]
    simp [List.length_take, Nat.min_eq_left (by omega : i ≤ l.length)]

theorem put_size (a : Act) (d : Option Tmp) (v : Value) : (a.put d v).tmps.size = a.tmps.size := by cases d <;> simp [Act.put]
theorem put_defers (a : Act) (d : Option Tmp) (v : Value) : (a.put d v).defers = a.defers := by cases d <;> rfl

theorem actOf_size (vs : Nat → Value) (s : Nat → Bool) (a : Act) : ∀ m, (actOf ops vs s a m).tmps.size = a.tmps.size
  | 0 => rfl
  | m + 1 => by
    rw [actOf]
    split
    · rw [put_size, actOf_size vs s a m]
    · exact actOf_size vs s a m

/-- beyond the operations that are done nothing is laid -/
theorem actOf_more (vs : Nat → Value) (s : Nat → Bool) (a : Act) (m : Nat) : ∀ k, (∀ j, m ≤ j → s j = false) → actOf ops vs s a (m + k) = actOf ops vs s a m
  | 0, _ => rfl
  | k + 1, h => by rw [← Nat.add_assoc, actOf, h (m + k) (by omega), if_neg (by decide), actOf_more vs s a m k h]

/-- a slot holds what was laid into it -/
theorem actOf_slot (vs vs' : Nat → Value) (s s' : Nat → Bool) (a : Act) (t : Nat) : ∀ m, (∀ j, j < m → dstOf ops j = some t → s j = s' j ∧ (s j = true → vs j = vs' j)) →
    (actOf ops vs s a m).tmps[t]? = (actOf ops vs' s' a m).tmps[t]?
  | 0, _ => rfl
  | m + 1, h => by
    have ih := actOf_slot vs vs' s s' a t m fun j hj => h j (by omega)
    by_cases hd : dstOf ops m = some t
    · obtain ⟨h1, h2⟩ := h m (by omega) hd
      rw [actOf, actOf, ← h1, hd]
      cases hs : s m with
      | false => simpa using ih
      | true =>
        rw [if_pos rfl, if_pos rfl, ← h2 hs]
        have e1 := actOf_size (ops := ops) vs s a m
        have e2 := actOf_size (ops := ops) vs' s' a m
        simp only [Act.put, Array.getElem?_setIfInBounds, e1, e2, ite_true]
    · have k1 : ∀ (b : Act) v, (b.put (dstOf ops m) v).tmps[t]? = b.tmps[t]? := fun b v => by
        cases hx : dstOf ops m with
        | none => rfl
        | some d =>
          have hne : d ≠ t := fun e => hd (by rw [hx, e])
          simp only [Act.put, Array.getElem?_setIfInBounds_ne hne]
      rw [actOf, actOf]
      split <;> split <;> first | exact ih | (simp only [k1]; exact ih)

/-- an operation that was not yet done is done -/
theorem actOf_set (vs : Nat → Value) (s s' : Nat → Bool) (a : Act) (i : Nat) (v : Value) (hsi : s i = false) (hs' : ∀ j, s' j = if j = i then true else s j) (vs' : Nat → Value) (hv : ∀ j, vs' j = if j = i then v else vs j) :
    ∀ m, i < m → (∀ j, j < m → j ≠ i → ∀ d, dstOf ops i = some d → dstOf ops j ≠ some d) → actOf ops vs' s' a m = (actOf ops vs s a m).put (dstOf ops i) v
  | 0, h, _ => absurd h (Nat.not_lt_zero _)
  | m + 1, h, hne => by
    by_cases e : i = m
    · subst e
      rw [actOf, actOf, hs' i, if_pos rfl, if_pos rfl, hsi, if_neg (by decide), hv i, if_pos rfl]
      congr 1
      have low : ∀ k, k ≤ i → actOf ops vs' s' a k = actOf ops vs s a k := by
        intro k
        induction k with
        | zero => intro _; rfl
        | succ k ih =>
          intro hk
          have hki : k ≠ i := by omega
          rw [actOf, actOf, ih (by omega), hs' k, if_neg hki, hv k, if_neg hki]
      exact low i (Nat.le_refl _)
    · rw [actOf, actOf, actOf_set vs s s' a i v hsi hs' vs' hv m (by omega) fun j hj => hne j (by omega), hs' m, if_neg (Ne.symm e), hv m, if_neg (Ne.symm e)]
      cases s m with
      | false => rfl
      | true =>
        rw [if_pos rfl, if_pos rfl]
        exact Act.put_comm _ _ _ fun d hd => hne m (by omega) (Ne.symm e) d hd

theorem eval_slot {a b : Act} {t : Nat} (h : a.tmps[t]? = b.tmps[t]?) : a.eval (.tmp t) = b.eval (.tmp t) := by
  simp only [Act.eval, Array.getD_eq_getD_getElem?, h]

/-- what an operation does hangs on the slots that it looks at -/
theorem execOp_slots (o : Oper) (hs : ∀ cs b, o.op ≠ .select cs b) (a b : Act) (h : ∀ t, t ∈ o.looksAt ops → a.tmps[t]? = b.tmps[t]?) : execOp a.eval o = execOp b.eval o :=
  execOp_congr o hs fun x hx => by
    cases x with
    | tmp t => exact eval_slot (h t (List.mem_append_left _ (List.mem_filterMap.2 ⟨.tmp t, by simpa using hx, rfl⟩)))
    | _ => rfl

theorem wanted_slots (o : Oper) (a b : Act) (h : ∀ t, t ∈ o.looksAt ops → a.tmps[t]? = b.tmps[t]?) : Region.wanted o (yielded ops a.tmps) = Region.wanted o (yielded ops b.tmps) := by
  unfold Region.wanted
  cases hg : o.guard with
  | none => rfl
  | some gw =>
    obtain ⟨g, want⟩ := gw
    have hy : yielded ops a.tmps g = yielded ops b.tmps g := by
      unfold yielded
      cases ht : (ops[g]?).bind (·.dst) with
      | none => rfl
      | some t =>
        have := h t (by simp [Oper.looksAt, hg, ht])
        simp [this]
    simp only [hy]

/-- one operation's way on: none but a plain one -/
def plainQ (R : Act → World → Prop) : Exit → Act → World → Prop
  | .normal, a, w => R a w
  | _, _, _ => False

theorem plainQ_lets (R : Act → World → Prop) : ¬ LetsOut (plainQ R) := fun ⟨_, _, h⟩ => h

theorem wpOp_of_plain {i : Nat} {o : Oper} {a b : Act} {y : World} {Q : Exit → Act → World → Prop} {K : Act → World → Prop} {R : Value → World → Prop} (hi : ops[i]? = some o)
    (he : execOp a.eval o = execOp b.eval o) (hw : Region.wanted o (yielded ops a.tmps) = Region.wanted o (yielded ops b.tmps)) {d : Tmp} (hd : o.dst = some d) (hb : d < b.tmps.size)
    (h : wpList P ops (plainQ fun a' y' => ∃ v, a' = b.put o.dst v ∧ R v y') [o] b y) (hK : ∀ v y', R v y' → K (a.put o.dst v) y') : wpOp P ops Q i K a y := by
  have inj : ∀ u v, b.put o.dst u = b.put o.dst v → u = v := fun u v e => by
    rw [hd] at e
    have := congrArg (fun x : Act => x.tmps[d]?) e
    simpa [Act.put, hb] using this
  unfold Go.wpOp
  simp only [hi]
  simp only [wpList] at h
  rw [hw]
  split
  · rename_i hwt
    rw [if_pos hwt] at h
    rcases h with h | ⟨_, h⟩
    case inr => exact absurd h (plainQ_lets _)
    refine .inl ?_
    unfold Oper.wp at *
    rw [he]
    generalize (execOp b.eval o).run P y = r at *
    cases r with
    | ok n w' =>
      cases n <;> simp only [Oper.upon] at h ⊢
      case value u =>
        obtain ⟨v, e, hv⟩ := h
        rw [inj _ _ e]
        exact hK _ _ hv
      case skip =>
        obtain ⟨v, e, hv⟩ := h
        rw [inj _ _ e]
        exact hK _ _ hv
      case defer dd =>
        obtain ⟨v, e, hv⟩ := h
        have := congrArg Act.defers e
        rw [put_defers, put_defers] at this
        exact absurd this (by simp)
      case enter f args =>
        refine Calls.mono h fun e w'' he => ?_
        cases e with
        | returned u =>
          obtain ⟨v, e, hv⟩ := he
          rw [inj _ _ e]
          exact hK _ _ hv
        | panicked c => exact he.elim
        | outgrown => exact absurd he (plainQ_lets _)
      case row row args =>
        refine Rows.mono h fun u w'' he => ?_
        obtain ⟨v, e, hv⟩ := he
        rw [inj _ _ e]
        exact hK _ _ hv
    | halt x w' =>
      cases x <;> simp only [Oper.upon] at h ⊢
      case panic u => exact h.elim
  · rename_i hwt
    rw [if_neg hwt] at h
    obtain ⟨v, e, hv⟩ := h
    rw [inj _ _ e]
    exact hK _ _ hv

/-- what must be so of the region's shape -/
def factsB (ops : Array Oper) (n : Nat) (kill : Nat → Nat → Bool) (sz : Nat) : Bool :=
  Region.noSelect ops && decide (n < ops.size) && Region.sinkB .any ops n && Region.chainB .any ops n &&
  Region.seqB .any ops (ops.size - n) n ((List.range ops.size).map (fun j => decide (j < n))).toArray &&
  (List.range n).all fun i => match ops[i]? with
    | none => false
    | some o => (match o.dst with | some d => decide (d < sz) | none => false) && (o.after.all fun e => !Region.binds .any e || decide (e.on < i)) &&
      (List.range n).all fun j =>
        (match dstOf ops j with | some d => (!(o.looksAt ops).contains d || (Region.waitsFor .any ops i j && decide (j < i))) && (j == i || o.dst != some d) | none => true) &&
        (!kill i j || (Region.waitsFor .any ops i j && (List.range n).all fun k => k == i || !Region.waitsFor .any ops k j))

/-- one operation's premise -/
def StepOK (P : Program) (ops : Array Oper) (n : Nat) (G : Nat → Value → World → Prop) (kill : Nat → Nat → Bool) (C : World → Prop) (a : Act) (ds : List (Option Tmp)) (i : Nat) (o : Oper) : Prop :=
  ∀ vs y, C y → (∀ j, j < n → Region.waitsFor .any ops i j = true → G j (vs j) y) →
    wpList P ops (plainQ fun a' y' => ∃ v, a' = (lexPut (ds.take i) 0 vs a).put o.dst v ∧ C y' ∧ G i v y' ∧ ∀ j, j < n → j ≠ i → kill i j = false → G j (vs j) y → G j (vs j) y') [o] (lexPut (ds.take i) 0 vs a) y

def StepsOK (P : Program) (ops : Array Oper) (n : Nat) (G : Nat → Value → World → Prop) (kill : Nat → Nat → Bool) (C : World → Prop) (a : Act) (ds : List (Option Tmp)) : List Oper → Nat → Prop
  | [], _ => True
  | o :: r, i => StepOK P ops n G kill C a ds i o ∧ StepsOK P ops n G kill C a ds r (i + 1)

theorem StepsOK.get {n : Nat} {G : Nat → Value → World → Prop} {kill : Nat → Nat → Bool} {C : World → Prop} {a : Act} {ds : List (Option Tmp)} : ∀ (l : List Oper) (k : Nat), StepsOK P ops n G kill C a ds l k →
    ∀ i o, l[i]? = some o → StepOK P ops n G kill C a ds (k + i) o
  | [], _, _, i, o, h => by simp at h
  | x :: r, k, hs, i, o, h => by
    cases i with
    | zero =>
      have : x = o := by simpa using h
      subst this
      exact hs.1
    | succ i =>
      have := StepsOK.get r (k + 1) hs.2 i o (by simpa using h)
      rwa [show k + 1 + i = k + (i + 1) by omega] at this

/-- how many of the head are left -/
def leftOf (listed : Array Bool) : Nat → Nat
  | 0 => 0
  | k + 1 => leftOf listed k + if listed.getD k false then 0 else 1

theorem leftOf_set (listed : Array Bool) (i : Nat) (hi : i < listed.size) (hl : listed.getD i false = false) : ∀ n, (i < n → leftOf (listed.setIfInBounds i true) n + 1 = leftOf listed n) ∧ (n ≤ i → leftOf (listed.setIfInBounds i true) n = leftOf listed n)
  | 0 => ⟨fun h => absurd h (Nat.not_lt_zero _), fun _ => rfl⟩
  | n + 1 => by
    have ih := leftOf_set listed i hi hl n
    refine ⟨fun h => ?_, fun h => ?_⟩
    · by_cases e : i = n
      · subst e
        rw [leftOf, leftOf, ih.2 (Nat.le_refl _), hl]
        have : (listed.setIfInBounds i true).getD i false = true := by simp [hi]
        rw [this]
        simp
      · rw [leftOf, leftOf, getD_set_ne false e]
        have := ih.1 (by omega)
        omega
    · rw [leftOf, leftOf, getD_set_ne false (by omega), ih.2 (by omega)]

theorem leftOf_zero (listed : Array Bool) : ∀ n, leftOf listed n = 0 → ∀ j, j < n → listed.getD j false = true
  | 0, _, _, h => absurd h (Nat.not_lt_zero _)
  | n + 1, h, j, hj => by
    rw [leftOf] at h
    by_cases e : j = n
    · subst e
      cases hx : listed.getD j false with
      | true => rfl
      | false => rw [hx] at h; simp at h
    · exact leftOf_zero listed n (by omega) j (by omega)

theorem leftOf_pos (listed : Array Bool) : ∀ n m, leftOf listed n = m + 1 → ∃ i, i < n ∧ listed.getD i false = false ∧ ∀ j, j < i → listed.getD j false = true
  | 0, _, h => by simp [leftOf] at h
  | n + 1, m, h => by
    by_cases h0 : leftOf listed n = 0
    · refine ⟨n, by omega, ?_, leftOf_zero listed n h0⟩
      rw [leftOf, h0] at h
      cases hx : listed.getD n false with
      | false => rfl
      | true => rw [hx] at h; simp at h
    · obtain ⟨i, h1, h2, h3⟩ := leftOf_pos listed n (leftOf listed n - 1) (by omega)
      exact ⟨i, by omega, h2, h3⟩

/-- a region that draws: its head by facts, the rest in one order -/
theorem wp_region_facts {id : Nat} {Q : Exit → Act → World → Prop} {a : Act} {w : World} {l : List Oper} (n : Nat) (kill : Nat → Nat → Bool) (G : Nat → Value → World → Prop) (C : World → Prop)
    (hm : P.follows .mixedOrders = true) (hB : factsB l.toArray n kill a.tmps.size = true) (ds : List (Option Tmp)) (hds : ds = (l.take n).map (·.dst)) (hC : C w.drew)
    (steps : StepsOK P l.toArray n G kill C a ds (l.take n) 0)
    (tail : ∀ vs y, C y → (∀ j, j < n → (∀ i, i < n → kill i j = false) → G j (vs j) y) → wpList P l.toArray Q (l.drop n) (lexPut ds 0 vs a) y) : (Code.region id l.toArray true).wp P Q a w := by
  simp only [factsB, Bool.and_eq_true, decide_eq_true_eq] at hB
  obtain ⟨⟨⟨⟨⟨hsel, hn⟩, hs⟩, hc⟩, hseq⟩, hall⟩ := hB
  have hnl : n < l.length := by simpa using hn
  have shape : ∀ i, i < n → ∃ o d, l.toArray[i]? = some o ∧ o.dst = some d ∧ d < a.tmps.size ∧ (∀ e ∈ o.after, Region.binds .any e = true → e.on < i) ∧
      (∀ j d', j < n → dstOf l.toArray j = some d' → (d' ∈ o.looksAt l.toArray → Region.waitsFor .any l.toArray i j = true ∧ j < i) ∧ (j ≠ i → o.dst ≠ some d')) ∧
      (∀ j, j < n → kill i j = true → Region.waitsFor .any l.toArray i j = true ∧ ∀ k, k < n → k ≠ i → Region.waitsFor .any l.toArray k j = false) := by
    intro i hi
    have h := List.all_eq_true.1 hall i (List.mem_range.2 hi)
    split at h
    · cases h
    · rename_i o ho
      simp only [Bool.and_eq_true] at h
      obtain ⟨⟨h1, h2⟩, h3⟩ := h
      split at h1
      · rename_i d hd
        refine ⟨o, d, ho, hd, of_decide_eq_true h1, fun e he hb => ?_, fun j d' hj hd' => ?_, fun j hj hk => ?_⟩
        · have := Array.all_eq_true_iff_forall_mem.1 h2 e he
          simp only [Bool.or_eq_true, Bool.not_eq_true', decide_eq_true_eq] at this
          rcases this with h | h
          · rw [hb] at h; cases h
          · exact h
        · have h4 := List.all_eq_true.1 h3 j (List.mem_range.2 hj)
          rw [hd'] at h4
          simp only [Bool.and_eq_true, Bool.or_eq_true, Bool.not_eq_true', decide_eq_true_eq, beq_iff_eq, bne_iff_ne] at h4
          refine ⟨fun hx => ?_, fun hx => ?_⟩
          · rcases h4.1.1 with h | h
            · have hx' : (o.looksAt l.toArray).contains d' = true := by simpa using hx
              rw [hx'] at h; cases h
            · exact h
          · rcases h4.1.2 with h | h
            · exact absurd h hx
            · exact h
        · have h4 := List.all_eq_true.1 h3 j (List.mem_range.2 hj)
          simp only [Bool.and_eq_true] at h4
          have h5 := h4.2
          rw [hk] at h5
          simp only [Bool.not_true, Bool.false_or, Bool.and_eq_true] at h5
          refine ⟨h5.1, fun k hk2 hne => ?_⟩
          have := List.all_eq_true.1 h5.2 k (List.mem_range.2 hk2)
          simp only [Bool.or_eq_true, beq_iff_eq, Bool.not_eq_true'] at this
          exact this.resolve_left hne
      · cases h1
  have main : ∀ (f : Nat) (listed : Array Bool) (vs : Nat → Value) (y : World), leftOf listed n = f → HeadInv .any l.toArray n listed → C y →
      (∀ j, j < n → listed.getD j false = true → (∀ i, i < n → kill i j = true → listed.getD i false = false) → G j (vs j) y) →
      wpAny P .any l.toArray Q (f + (l.toArray.size - n)) listed (actOf l.toArray vs (fun j => listed.getD j false) a n) y := by
    intro f
    induction f with
    | zero =>
      intro listed vs y hf inv hCy hG
      have hdone := leftOf_zero listed n hf
      have hlist : listed = ((List.range l.toArray.size).map (fun j => decide (j < n))).toArray := by
        apply Array.ext
        · rw [inv.size]; simp
        · intro j h1 h2
          have hj : j < l.toArray.size := by rw [← inv.size]; exact h1
          have e1 : listed[j] = listed.getD j false := by simp [h1]
          rw [e1]
          by_cases hjn : j < n
          · rw [hdone j hjn]; simp [hjn]
          · have := getD_both (inv.tail j (by omega) hj)
            rw [this]; simp [hjn]
      have hact : actOf l.toArray vs (fun j => listed.getD j false) a n = lexPut ds 0 vs a := by
        rw [actOf_lex vs _ a n (by omega) hdone, hds]
      rw [Nat.zero_add, hact]
      have hlen : (l.drop n).length = l.toArray.size - n := by simp
      rw [← hlen]
      refine wpAny_of_seq (l.drop n) n listed _ y (fun j => by simp [List.getElem?_drop]) ?_ (tail vs y hCy fun j hj hk => hG j hj (hdone j hj) fun i hi h => (by rw [hk i hi] at h; cases h))
      rw [hlen, hlist]; exact hseq
    | succ f ih =>
      intro listed vs y hf inv hCy hG
      have e : f + 1 + (l.toArray.size - n) = (f + (l.toArray.size - n)) + 1 := by omega
      rw [e]
      obtain ⟨i0, hi0, hun0, hlow0⟩ := leftOf_pos listed n f hf
      have hi0s : i0 < listed.size := by rw [inv.size]; omega
      refine ⟨fun hnil => ?_, fun i hir => ?_⟩
      · exfalso
        obtain ⟨o, d, ho, _, _, hafter, _⟩ := shape i0 hi0
        have : i0 ∈ Region.ready .any l.toArray listed := mem_ready.2 ⟨getD_in hi0s hun0, o, ho, fun e he hb => hlow0 _ (hafter e he hb)⟩
        rw [hnil] at this
        cases this
      · have hin : i < n := by
          rcases Nat.lt_or_ge i n with h | h
          · exact h
          · exact absurd hir (tail_waits hs hc hn inv _ i0 rfl hi0 (getD_in hi0s hun0) i h)
        obtain ⟨hiun, o', ho', hdeps⟩ := mem_ready.1 hir
        obtain ⟨o, d, ho, hd, hdsz, hafter, hslots, hkill⟩ := shape i hin
        obtain rfl : o' = o := Option.some.inj (ho'.symm.trans ho)
        have hiun' := getD_both hiun
        have hisz : i < listed.size := by rw [inv.size]; omega
        -- what it waits for is done
        have hwait : ∀ j, Region.waitsFor .any l.toArray i j = true → listed.getD j false = true := fun j hj => by
          obtain ⟨oj, hoj, e, he, hb, hon⟩ := Region.waitsFor_spec hj
          obtain rfl : oj = o' := Option.some.inj (hoj.symm.trans ho)
          rw [← hon]
          exact hdeps e he hb
        have hstep := StepsOK.get (l.take n) 0 steps i o' (by rw [List.getElem?_take, if_pos hin]; simpa using ho)
        rw [Nat.zero_add] at hstep
        have hfacts : ∀ j, j < n → Region.waitsFor .any l.toArray i j = true → G j (vs j) y := fun j hj hwt => hG j hj (hwait j hwt) fun k hk hkl => by
          by_cases e : k = i
          · subst e; exact hiun'
          · obtain ⟨_, _, _, _, _, _, _, hkill'⟩ := shape k hk
            have := (hkill' j hj hkl).2 i hin (Ne.symm e)
            rw [hwt] at this; cases this
        have hst := hstep vs y hCy hfacts
        have hlexi : lexPut (ds.take i) 0 vs a = actOf l.toArray vs (fun j => decide (j < i)) a n := by
          have : n = i + (n - i) := by omega
          rw [this, actOf_more vs _ a i (n - i) (fun j hj => by simp; omega), actOf_lex vs _ a i (by omega) (fun j hj => by simp [hj]), hds, ← List.map_take, List.take_take, Nat.min_eq_left (by omega)]
        have hslot : ∀ t, t ∈ o'.looksAt l.toArray → (actOf l.toArray vs (fun j => listed.getD j false) a n).tmps[t]? = (lexPut (ds.take i) 0 vs a).tmps[t]? := fun t ht => by
          rw [hlexi]
          refine actOf_slot vs vs _ _ a t n fun j hj hdj => ⟨?_, fun _ => rfl⟩
          obtain ⟨h1, h2⟩ := (hslots j t hj hdj).1 ht
          rw [hwait j h1]; simp [h2]
        have hsel' := fun cs b => Region.noSelect_spec hsel i o' cs b ho
        refine wpOp_of_plain (R := fun v y' => C y' ∧ G i v y' ∧ ∀ j, j < n → j ≠ i → kill i j = false → G j (vs j) y → G j (vs j) y') ho (execOp_slots o' hsel' _ _ hslot) (wanted_slots o' _ _ hslot) hd
          (by rw [hlexi, actOf_size]; exact hdsz) ?_ ?_
        · exact hst
        · intro v y' ⟨hC', hGi, hrest⟩
          have hset : ∀ j, (listed.setIfInBounds i true).getD j false = if j = i then true else listed.getD j false := fun j => by
            by_cases e : j = i
            · subst e; rw [if_pos rfl]; simp [hisz]
            · rw [if_neg e, getD_set_ne false (Ne.symm e)]
          have hact := actOf_set (ops := l.toArray) vs (fun j => listed.getD j false) (fun j => (listed.setIfInBounds i true).getD j false) a i v hiun' hset (fun j => if j = i then v else vs j) (fun _ => rfl) n hin
            (fun j hj hne d' hd' hdj => by
              have := (hslots j d' hj hdj).2 hne
              have e1 : dstOf l.toArray i = o'.dst := by simp [dstOf, ho]
              rw [e1] at hd'
              exact this hd')
          have e1 : dstOf l.toArray i = o'.dst := by simp [dstOf, ho]
          rw [e1] at hact
          rw [← hact]
          refine ih _ _ y' ?_ (inv.set hir hin) hC' ?_
          · have := (leftOf_set listed i hisz hiun' n).1 hin
            omega
          · intro j hj hjl hjk
            by_cases e : j = i
            · subst e; simpa using hGi
            · simp only [if_neg e]
              rw [hset j, if_neg e] at hjl
              have hki : kill i j = false := by
                cases hx : kill i j with
                | false => rfl
                | true =>
                  have := hjk i hin hx
                  rw [hset i, if_pos rfl] at this; cases this
              refine hrest j hj e hki (hG j hj hjl fun k hk hkl => ?_)
              have := hjk k hk hkl
              rw [hset k] at this
              by_cases ek : k = i
              · subst ek; exact hiun'
              · rwa [if_neg ek] at this
  refine wp_region_any hm ?_
  have inv : HeadInv .any l.toArray n (Array.replicate l.toArray.size false) :=
    ⟨by simp, fun j oj _ hl => (by rw [getD_replicate_false] at hl; cases hl), fun t _ ht => getD_in (by simpa using ht) (getD_replicate_false _ _)⟩
  have hleft : ∀ m, leftOf (Array.replicate l.toArray.size false) m = m := by
    intro m
    induction m with
    | zero => rfl
    | succ m ih => rw [leftOf, ih, getD_replicate_false]; rfl
  have := main n (Array.replicate l.toArray.size false) (fun _ => undef) w.drew (hleft n) inv hC fun j _ hl => (by rw [getD_replicate_false] at hl; cases hl)
  rw [actOf_none _ _ a n fun j _ => getD_replicate_false _ _, show n + (l.toArray.size - n) = l.toArray.size by omega] at this
  exact this
/-- a fact that later worlds keep -/
def Keeps (g : Value → World → Prop) : Prop := ∀ v (y y' : World), Below y.heap.size y y' → g v y → g v y'
/-- a value that hangs on no world -/
def isV (x : Value) : Value → World → Prop := fun v _ => v = x
theorem isV_keeps (x : Value) : Keeps (isV x) := fun _ _ _ _ h => h

def Facts (gs : List (Value → World → Prop)) (i : Nat) : Value → World → Prop := (gs[i]?).getD (isV undef)

def StepOK0 (P : Program) (ops : Array Oper) (n : Nat) (gs : List (Value → World → Prop)) (w : World) (a : Act) (ds : List (Option Tmp)) (i : Nat) (o : Oper) : Prop :=
  ∀ vs y, Below w.heap.size w y → (∀ j, j < n → Region.waitsFor .any ops i j = true → Facts gs j (vs j) y) →
    wpList P ops (plainQ fun a' y' => ∃ v, a' = (lexPut (ds.take i) 0 vs a).put o.dst v ∧ Below y.heap.size y y' ∧ Facts gs i v y') [o] (lexPut (ds.take i) 0 vs a) y

def StepsOK0 (P : Program) (ops : Array Oper) (n : Nat) (gs : List (Value → World → Prop)) (w : World) (a : Act) (ds : List (Option Tmp)) : List Oper → Nat → Prop
  | [], _ => True
  | o :: r, i => StepOK0 P ops n gs w a ds i o ∧ StepsOK0 P ops n gs w a ds r (i + 1)

theorem keeps_of {gs : List (Value → World → Prop)} (h : ∀ g ∈ gs, Keeps g) (i : Nat) : Keeps (Facts gs i) := by
  unfold Facts
  cases e : gs[i]? with
  | none => exact isV_keeps _
  | some g => exact h g (List.mem_of_getElem? e)

theorem plainQ_mono {R R' : Act → World → Prop} (h : ∀ a w, R a w → R' a w) : ∀ e a w, plainQ R e a w → plainQ R' e a w := fun e a w hq => by
  cases e <;> first | exact h _ _ hq | exact hq

theorem wpList_one_mono {ops : Array Oper} {o : Oper} {a : Act} {w : World} {R R' : Act → World → Prop} (h : ∀ a w, R a w → R' a w) (hq : wpList P ops (plainQ R) [o] a w) : wpList P ops (plainQ R') [o] a w := by
  simp only [wpList] at *
  split
  · rename_i hw
    rw [if_pos hw] at hq
    rcases hq with hq | ⟨_, hq⟩
    case inr => exact absurd hq (plainQ_lets _)
    refine .inl ?_
    unfold Oper.wp at *
    generalize (execOp a.eval o).run P w = r at *
    cases r with
    | ok n w' =>
      cases n <;> simp only [Oper.upon] at hq ⊢
      case value u => exact h _ _ hq
      case skip => exact h _ _ hq
      case defer d => exact h _ _ hq
      case enter f args =>
        refine Calls.mono hq fun e w'' he => ?_
        cases e with
        | returned u => exact h _ _ he
        | panicked c => exact he.elim
        | outgrown => exact absurd he (plainQ_lets _)
      case row row args => exact Rows.mono hq fun u w'' he => h _ _ he
    | halt x w' =>
      cases x <;> simp only [Oper.upon] at hq ⊢
      case panic u => exact hq.elim
  · rename_i hw
    rw [if_neg hw] at hq
    exact h _ _ hq

theorem steps_of {ops : Array Oper} {n : Nat} {gs : List (Value → World → Prop)} {w : World} {a : Act} {ds : List (Option Tmp)} (hk : ∀ g ∈ gs, Keeps g) : ∀ (l : List Oper) (i : Nat), StepsOK0 P ops n gs w a ds l i →
    StepsOK P ops n (Facts gs) (fun _ _ => false) (fun y => Below w.heap.size w y) a ds l i
  | [], _, _ => trivial
  | _o :: r, i, h => ⟨fun vs y hy hd => wpList_one_mono (fun _ _ ⟨v, e, hb, hg⟩ => ⟨v, e, Below.of hy hb, hg, fun j _ _ _ hj => keeps_of hk j _ _ _ hb hj⟩) (h.1 vs y hy hd), steps_of hk r (i + 1) h.2⟩

/-- a region that draws: its head makes memory at most; the rest in one order -/
theorem wp_region_makes {id : Nat} {Q : Exit → Act → World → Prop} {a : Act} {w : World} {l : List Oper} (n : Nat) (gs : List (Value → World → Prop)) (ds : List (Option Tmp))
    (hm : P.follows .mixedOrders = true) (hB : factsB l.toArray n (fun _ _ => false) a.tmps.size = true) (hds : ds = (l.take n).map (·.dst)) (hk : ∀ g ∈ gs, Keeps g)
    (steps : StepsOK0 P l.toArray n gs w a ds (l.take n) 0)
    (tail : ∀ vs y, Below w.heap.size w y → (∀ j, j < n → Facts gs j (vs j) y) → wpList P l.toArray Q (l.drop n) (lexPut ds 0 vs a) y) : (Code.region id l.toArray true).wp P Q a w :=
  wp_region_facts n (fun _ _ => false) (Facts gs) (fun y => Below w.heap.size w y) hm hB ds hds (Below.refl _ _).drew (steps_of hk _ _ steps) fun vs y hy hg => tail vs y hy fun j hj => hg j hj fun _ _ => rfl
end

/-- what writes out the frame of a step of the head -/
theorem opens : (∀ (k : Nat) (vs : Nat → Value) (a : Act), lexPut [] k vs a = a) ∧ (∀ (d : Option Tmp) (r : List (Option Tmp)) (k : Nat) (vs : Nat → Value) (a : Act), lexPut (d :: r) k vs a = lexPut r (k + 1) vs (a.put d (vs k))) ∧
    (∀ (x : Option Tmp) (l : List (Option Tmp)) (n : Nat), (x :: l).take (n + 1) = x :: l.take n) ∧ (∀ l : List (Option Tmp), l.take 0 = []) ∧ (∀ n : Nat, ([] : List (Option Tmp)).take n = []) ∧
    (∀ (a : Act) (d : Tmp) (v : Value), a.put (some d) v = { a with tmps := a.tmps.setIfInBounds d v }) ∧ (∀ (a : Act) (v : Value), a.put none v = a) ∧
    (∀ (l : List Value) (n : Nat) (v : Value), l.toArray.setIfInBounds n v = (l.set n v).toArray) ∧ (∀ (x v : Value) (l : List Value), (x :: l).set 0 v = v :: l) ∧ (∀ (x v : Value) (l : List Value) (n : Nat), (x :: l).set (n + 1) v = x :: l.set n v) ∧
    (∀ n : Nat, 0 + n = n) :=
  ⟨fun _ _ _ => rfl, fun _ _ _ _ _ => rfl, fun _ _ _ => rfl, fun _ => List.take_zero, fun _ => List.take_nil, fun _ _ _ => rfl, fun _ _ => rfl, fun l n v => List.setIfInBounds_toArray l n v, fun _ _ _ => rfl, fun _ _ _ _ => rfl, Nat.zero_add⟩

end Go.Proofs.YtjcaejdokillgaaDoor

namespace Go.Proofs.YtjcaejdokillgaaDoor
open Go Go.RowKit Go.Shelf

/-- a variable of some cells -/
def RowL (T : TypeId) (y : World) (g : Nat) (l : List Value) : Prop := y.heap[g]? = some (.cells l.toArray T (0, 0))

section
variable {T : TypeId} {y y' : World} {g : Nat} {l : List Value}
theorem RowL.lt (h : RowL T y g l) : g < y.heap.size := (Array.getElem?_eq_some_iff.1 h).1
theorem RowL.keep (h : RowL T y g l) (e : y'.heap[g]? = y.heap[g]?) : RowL T y' g l := e.trans h
theorem RowL.mono (h : RowL T y g l) (hb : Below y.heap.size y y') : RowL T y' g l := h.keep (hb.block g h.lt)
theorem RowL.grown (h : RowL T y g l) {r : Option Nat} (hg : y.grownBy y' r) (hr : some g ≠ r) : RowL T y' g l := h.keep (hg.block g h.lt hr)
theorem RowL.cell (h : RowL T y g l) (j : Nat) (v : Value) (hj : l[j]? = some v) : y.cell? ⟨g, j, none⟩ = some v := by
  rw [cell_of_row y g _ _ _ _ h]
  simpa using hj
theorem RowL.frozen (h : RowL T y g l) (j : Nat) : y.frozen? ⟨g, j, none⟩ = false := by
  unfold RowL at h
  simp only [World.frozen?, h]
  simp
theorem RowL.new (w : World) (l : List Value) : RowL T (w.alloc (.cells l.toArray T)) w.heap.size l := by
  unfold RowL World.alloc
  simp
theorem RowL.drew (h : RowL T y g l) : RowL T y.drew g l := h
theorem RowL.set (h : RowL T y g l) (j : Nat) (d : Value) : RowL T (y.setCell ⟨g, j, none⟩ d) g (l.set j d) := by
  unfold RowL
  rw [setCell_eq_setRow y g j _ _ (0, 0) _ h]
  have := setRow_heap y g l.toArray (l.toArray.setIfInBounds j d) T (0, 0) h
  simpa using this
/-- a row of another type is another block -/
theorem RowL.other (h : RowL T y g l) {B k : Nat} {e : TypeId} {v : Value} {n : Nat} {xs : List Value} (ho : y.ownsRow B e k v n xs) (hne : e ≠ T) : some g ≠ v.ownBlock := fun hx => by
  obtain ⟨_, ⟨rfl, _⟩ | ⟨g', c', cur, rfl, _, hh, _⟩⟩ := ho
  · cases hx
  · have : g = g' := by simpa [Value.ownBlock] using hx
    subst this
    rw [h] at hh
    simp at hh
    exact hne hh.2.symm
end

theorem set_grown' (y : World) (g j : Nat) (d : Value) : y.grownBy (y.setCell ⟨g, j, none⟩ d) (some g) :=
  ⟨rfl, rfl, rfl, by simp, fun k _ hk => heap_setCell_other y ⟨g, j, none⟩ k _ (fun e => hk (by simp [e]))⟩

theorem grownBy_two {W a b : World} {O : Nat} {r : Option Nat} (h : W.grownBy a (some O)) (k : a.grownBy b r) (hr : ∀ j, r = some j → W.heap.size ≤ j ∨ j = O) : W.grownBy b (some O) :=
  ⟨k.os.trans h.os, k.tape.trans h.tape, k.output.trans h.output, Nat.le_trans h.size k.size, fun j hj hne => (k.block j (Nat.lt_of_lt_of_le hj h.size) fun e => by
    rcases hr j e.symm with h1 | h1
    · omega
    · exact hne (by rw [h1])).trans (h.block j hj hne)⟩
theorem grownBy_below {W a b : World} {O : Nat} (h : W.grownBy a (some O)) (k : Below a.heap.size a b) : W.grownBy b (some O) :=
  grownBy_two h (r := none) ⟨k.os, k.tape, k.output, k.size, fun j hj _ => k.block j hj⟩ fun j e => by cases e
theorem grownBy_cell {W a : World} {O : Nat} (h : W.grownBy a (some O)) {p : Addr} {v : Value} (hp : W.cell? p = some v) (hne : p.block ≠ O) : a.cell? p = some v :=
  h.cell hp fun e => hne (Option.some.inj e)
theorem below_grown {B O : Nat} {w W a : World} (h : Below B w W) (k : W.grownBy a (some O)) (hB : B ≤ W.heap.size) (hO : B ≤ O) : Below B w a := h.grown k hB fun j e => by cases e; exact hO

def set8 (y : World) (g : Nat) (d0 d1 d2 d3 d4 d5 d6 d7 : Value) : World := (((((((y.setCell ⟨g, 0, none⟩ d0).setCell ⟨g, 1, none⟩ d1).setCell ⟨g, 2, none⟩ d2).setCell ⟨g, 3, none⟩ d3).setCell ⟨g, 4, none⟩ d4).setCell ⟨g, 5, none⟩ d5).setCell ⟨g, 6, none⟩ d6).setCell ⟨g, 7, none⟩ d7
theorem RowL.put8 {T : TypeId} {y : World} {g : Nat} {c0 c1 c2 c3 c4 c5 c6 c7 : Value} (h : RowL T y g [c0, c1, c2, c3, c4, c5, c6, c7]) (d0 d1 d2 d3 d4 d5 d6 d7 : Value) :
    (y.cell? ⟨g, 0, none⟩ = some c0 ∧
      y.frozen? ⟨g, 0, none⟩ = false ∧
      (y.setCell ⟨g, 0, none⟩ d0).cell? ⟨g, 1, none⟩ = some c1 ∧
      (y.setCell ⟨g, 0, none⟩ d0).frozen? ⟨g, 1, none⟩ = false ∧
      ((y.setCell ⟨g, 0, none⟩ d0).setCell ⟨g, 1, none⟩ d1).cell? ⟨g, 2, none⟩ = some c2 ∧
      ((y.setCell ⟨g, 0, none⟩ d0).setCell ⟨g, 1, none⟩ d1).frozen? ⟨g, 2, none⟩ = false ∧
      (((y.setCell ⟨g, 0, none⟩ d0).setCell ⟨g, 1, none⟩ d1).setCell ⟨g, 2, none⟩ d2).cell? ⟨g, 3, none⟩ = some c3 ∧
      (((y.setCell ⟨g, 0, none⟩ d0).setCell ⟨g, 1, none⟩ d1).setCell ⟨g, 2, none⟩ d2).frozen? ⟨g, 3, none⟩ = false ∧
      ((((y.setCell ⟨g, 0, none⟩ d0).setCell ⟨g, 1, none⟩ d1).setCell ⟨g, 2, none⟩ d2).setCell ⟨g, 3, none⟩ d3).cell? ⟨g, 4, none⟩ = some c4 ∧
      ((((y.setCell ⟨g, 0, none⟩ d0).setCell ⟨g, 1, none⟩ d1).setCell ⟨g, 2, none⟩ d2).setCell ⟨g, 3, none⟩ d3).frozen? ⟨g, 4, none⟩ = false ∧
      (((((y.setCell ⟨g, 0, none⟩ d0).setCell ⟨g, 1, none⟩ d1).setCell ⟨g, 2, none⟩ d2).setCell ⟨g, 3, none⟩ d3).setCell ⟨g, 4, none⟩ d4).cell? ⟨g, 5, none⟩ = some c5 ∧
      (((((y.setCell ⟨g, 0, none⟩ d0).setCell ⟨g, 1, none⟩ d1).setCell ⟨g, 2, none⟩ d2).setCell ⟨g, 3, none⟩ d3).setCell ⟨g, 4, none⟩ d4).frozen? ⟨g, 5, none⟩ = false ∧
      ((((((y.setCell ⟨g, 0, none⟩ d0).setCell ⟨g, 1, none⟩ d1).setCell ⟨g, 2, none⟩ d2).setCell ⟨g, 3, none⟩ d3).setCell ⟨g, 4, none⟩ d4).setCell ⟨g, 5, none⟩ d5).cell? ⟨g, 6, none⟩ = some c6 ∧
      ((((((y.setCell ⟨g, 0, none⟩ d0).setCell ⟨g, 1, none⟩ d1).setCell ⟨g, 2, none⟩ d2).setCell ⟨g, 3, none⟩ d3).setCell ⟨g, 4, none⟩ d4).setCell ⟨g, 5, none⟩ d5).frozen? ⟨g, 6, none⟩ = false ∧
      (((((((y.setCell ⟨g, 0, none⟩ d0).setCell ⟨g, 1, none⟩ d1).setCell ⟨g, 2, none⟩ d2).setCell ⟨g, 3, none⟩ d3).setCell ⟨g, 4, none⟩ d4).setCell ⟨g, 5, none⟩ d5).setCell ⟨g, 6, none⟩ d6).cell? ⟨g, 7, none⟩ = some c7 ∧
      (((((((y.setCell ⟨g, 0, none⟩ d0).setCell ⟨g, 1, none⟩ d1).setCell ⟨g, 2, none⟩ d2).setCell ⟨g, 3, none⟩ d3).setCell ⟨g, 4, none⟩ d4).setCell ⟨g, 5, none⟩ d5).setCell ⟨g, 6, none⟩ d6).frozen? ⟨g, 7, none⟩ = false) ∧
    RowL T (set8 y g d0 d1 d2 d3 d4 d5 d6 d7) g [d0, d1, d2, d3, d4, d5, d6, d7] ∧ y.grownBy (set8 y g d0 d1 d2 d3 d4 d5 d6 d7) (some g) := by
  have h0 := h.set 0 d0
  have h1 := h0.set 1 d1
  have h2 := h1.set 2 d2
  have h3 := h2.set 3 d3
  have h4 := h3.set 4 d4
  have h5 := h4.set 5 d5
  have h6 := h5.set 6 d6
  have h7 := h6.set 7 d7
  exact ⟨⟨h.cell 0 _ rfl, h.frozen 0, h0.cell 1 _ rfl, h0.frozen 1, h1.cell 2 _ rfl, h1.frozen 2, h2.cell 3 _ rfl, h2.frozen 3, h3.cell 4 _ rfl, h3.frozen 4, h4.cell 5 _ rfl, h4.frozen 5, h5.cell 6 _ rfl, h5.frozen 6, h6.cell 7 _ rfl, h6.frozen 7⟩, h7, (set_grown' _ _ _ _).trans ((set_grown' _ _ _ _).trans ((set_grown' _ _ _ _).trans ((set_grown' _ _ _ _).trans ((set_grown' _ _ _ _).trans ((set_grown' _ _ _ _).trans ((set_grown' _ _ _ _).trans (set_grown' _ _ _ _)))))))⟩

end Go.Proofs.YtjcaejdokillgaaDoor

namespace Go.Proofs.YtjcaejdokillgaaDoor
open Go Go.RowKit

section
variable {P : Program} {md : Region.Mode} {ops : Array Oper} {C : World → Prop}

/-- whatever order is picked: f operations of the head, each quiet; then L -/
def headQ (P : Program) (md : Region.Mode) (ops : Array Oper) (C : World → Prop) (n : Nat) (L : Array Bool → Act → Prop) : Nat → Array Bool → Act → Prop
  | 0, s, a => L s a
  | f + 1, s, a => Region.ready md ops s ≠ [] ∧ ∀ i ∈ Region.ready md ops s, i < n ∧ qOp P ops C i (headQ P md ops C n L f (s.setIfInBounds i true)) a

theorem headQ_wp {n g : Nat} {L : Array Bool → Act → Prop} {Q : Exit → Act → World → Prop} (hL : ∀ s a w, C w → L s a → wpAny P md ops Q g s a w) (f : Nat) :
    ∀ s a w, C w → headQ P md ops C n L f s a → wpAny P md ops Q (f + g) s a w := by
  induction f with
  | zero => intro s a w hw h; rw [Nat.zero_add]; exact hL s a w hw h
  | succ f ih =>
    intro s a w hw h
    have e : f + 1 + g = (f + g) + 1 := by omega
    rw [e]
    refine ⟨fun h0 => absurd h0 h.1, fun i hi => ?_⟩
    exact wpOp_of_qOp hw (fun a' w' hw' h' => ih _ a' w' hw' h') (h.2 i hi).2

theorem headQ_take {n i : Nat} {oi : Oper} {v : Value} {L : Array Bool → Act → Prop} (hi : ops[i]? = some oi) (hsel : ∀ (j : Nat) (o : Oper) cs b, ops[j]? = some o → o.op ≠ .select cs b)
    (hs : Region.sinkB md ops n = true) (hc : Region.chainB md ops n = true) (hn : n < ops.size) (hin : i < n) (hend : ∀ s a, L s a → ∀ j ∈ Region.ready md ops s, n ≤ j) (f : Nat) :
    ∀ s a, HeadInv md ops n s → (∀ j oj, ops[j]? = some oj → j ≠ i → s.getD j true = false → (∀ e ∈ oj.after, Region.binds md e = true → e.on ≠ i) → oi.apart ops oj = true) →
      i ∈ Region.ready md ops s → YieldsIn P ops C oi v a → headQ P md ops C n L f (s.setIfInBounds i true) (a.put oi.dst v) → headQ P md ops C n L (f + 1) s a := by
  induction f with
  | zero =>
    intro s a inv _ hr hy H
    have hun := (mem_ready.1 hr).1
    have hlt : ∀ j ∈ Region.ready md ops s, j < n := fun j hj => Nat.lt_of_not_le fun h => tail_waits hs hc hn inv _ i rfl hin hun j h hj
    refine ⟨List.ne_nil_of_mem hr, fun j hj => ⟨hlt j hj, ?_⟩⟩
    by_cases e : j = i
    · subst e; exact hy.qOp hi H
    · have h1 := hend _ _ H j (ready_mono hj e)
      have h2 := hlt j hj
      omega
  | succ f ih =>
    intro s a inv hfree hr hy H
    have hun := (mem_ready.1 hr).1
    have hlt : ∀ j ∈ Region.ready md ops s, j < n := fun j hj => Nat.lt_of_not_le fun h => tail_waits hs hc hn inv _ i rfl hin hun j h hj
    refine ⟨List.ne_nil_of_mem hr, fun j hj => ⟨hlt j hj, ?_⟩⟩
    by_cases e : j = i
    · subst e; exact hy.qOp hi H
    obtain ⟨hjun, oj, hoj, hall⟩ := mem_ready.1 hj
    have hno : ∀ d ∈ oj.after, Region.binds md d = true → d.on ≠ i := fun d hd hb he => by
      have h1 := hall d hd hb
      rw [he, getD_both hun] at h1
      cases h1
    refine qOp_mono (fun a' h3 => ?_) (qOp_put hoj (hfree j oj hoj e hjun hno) (fun cs b => hsel i oi cs b hi) (fun cs b => hsel j oj cs b hoj) hy (H.2 j (ready_mono hj e)).2)
    refine ih (s.setIfInBounds j true) a' (inv.set hj (hlt j hj)) (fun k ok hk hki hku hko => ?_) (ready_mono hr (Ne.symm e)) h3.1 ?_
    · refine hfree k ok hk hki ?_ hko
      by_cases ejk : j = k
      · subst ejk; exact hjun
      · rwa [getD_set_ne true ejk] at hku
    · rw [Array.setIfInBounds_comm _ _ e]
      exact h3.2

theorem headQ_lex {n g : Nat} {R : Act → Prop} (hsel : Region.noSelect ops = true) (hs : Region.sinkB md ops n = true) (hc : Region.chainB md ops n = true) (hn : n < ops.size) (l : List Oper) :
    ∀ k s a, (∀ j, j < l.length → l[j]? = ops[k + j]?) → k + l.length = n → HeadInv md ops n s → Region.lexHead md ops g l.length k s = true → wpQuiet P ops C R l a →
      headQ P md ops C n (fun s' a' => Region.seqB md ops g n s' = true ∧ R a') l.length s a := by
  induction l with
  | nil =>
    intro k s a _ hk _ hB h
    obtain rfl : k = n := by simpa using hk
    exact ⟨by simpa [Region.lexHead] using hB, h⟩
  | cons o l ih =>
    intro k s a hl hk inv hB h
    have h0 : ops[k]? = some o := by simpa using (hl 0 (by simp)).symm
    simp only [List.length_cons, Region.lexHead, Bool.and_eq_true] at hB hk
    have hr : k ∈ Region.ready md ops s := by simpa using hB.1.1
    have hkn : k < n := by omega
    have hq : qOp P ops C k (wpQuiet P ops C R l) a := by unfold qOp; simp only [h0]; exact h
    obtain ⟨v, hy, hK⟩ := yieldsIn_of_qOp h0 hq
    refine headQ_take h0 (Region.noSelect_spec hsel) hs hc hn hkn (fun s' a' hL => seqB_ready hL.1) l.length s a inv (Region.free_spec h0 hB.1.2) hr hy ?_
    refine ih (k + 1) _ _ (fun j hj => ?_) (by omega) (inv.set hr hkn) hB.2 hK
    have := hl (j + 1) (by simp; omega)
    simpa [Nat.add_assoc, Nat.add_comm 1 j] using this

/-- the head by one quiet walk, the rest as a list of operations in every world of the class -/
theorem wp_region_quiet_tail {id : Nat} {Q : Exit → Act → World → Prop} {a : Act} {w : World} {l : List Oper} (n : Nat) (hm : P.follows .mixedOrders = true) (hB : Region.lexTailB .any l.toArray n = true)
    (hC : C w.drew) (h : wpQuiet P l.toArray C (fun a' => ∀ w', C w' → wpList P l.toArray Q (l.drop n) a' w') (l.take n) a) : (Code.region id l.toArray true).wp P Q a w := by
  simp only [Region.lexTailB, Bool.and_eq_true, decide_eq_true_eq] at hB
  obtain ⟨⟨⟨⟨hsel, hn⟩, hs⟩, hc⟩, hlex⟩ := hB
  have htl : (l.take n).length = n := by
    have : n < l.length := by simpa using hn
    rw [List.length_take]; omega
  have hdl : (l.drop n).length = l.toArray.size - n := by simp
  have inv : HeadInv .any l.toArray n (Array.replicate l.toArray.size false) :=
    ⟨by simp, fun j oj _ hl => (by rw [getD_replicate_false] at hl; cases hl), fun t _ ht => getD_in (by simpa using ht) (getD_replicate_false _ _)⟩
  have H := headQ_lex (md := .any) (g := l.toArray.size - n) hsel hs hc hn (l.take n) 0 _ a (fun j hj => by
    have hj' : j < n := by rw [htl] at hj; exact hj
    simp [hj']) (by simpa using htl) inv (by rw [htl]; exact hlex) h
  refine wp_region_any hm ?_
  have := headQ_wp (Q := Q) (g := l.toArray.size - n) (fun s a' w' hw hL => by
    have := wpAny_of_seq (md := .any) (Q' := Q) (l.drop n) n s a' w' (fun j => by simp [List.getElem?_drop]) (by rw [hdl]; exact hL.1) (hL.2 w' hw)
    rwa [hdl] at this) _ _ _ w.drew hC H
  rw [htl, show n + (l.toArray.size - n) = l.toArray.size by omega] at this
  exact this
end

/-- the same, in the class of the later worlds -/
theorem wp_region_later_tail {P : Program} {id : Nat} {Q : Exit → Act → World → Prop} {a : Act} {w : World} {l : List Oper} (n : Nat) (hm : P.follows .mixedOrders = true) (hB : Region.lexTailB .any l.toArray n = true)
    (h : wpQuiet P l.toArray (fun w' => ∃ y : Later w, w' = y.at_) (fun a' => ∀ w', (∃ y : Later w, w' = y.at_) → wpList P l.toArray Q (l.drop n) a' w') (l.take n) a) : (Code.region id l.toArray true).wp P Q a w :=
  wp_region_quiet_tail (C := fun w' => ∃ y : Later w, w' = y.at_) n hm hB ⟨⟨w.drew, (Below.refl _ _).drew⟩, rfl⟩ h

end Go.Proofs.YtjcaejdokillgaaDoor

namespace Go.Proofs.YtjcaejdokillgaaDoor
open Go Go.RowKit

section
variable {P : Program} {ops : Array Oper}

theorem wpOp_of_plain' {i : Nat} {o : Oper} {a b : Act} {y : World} {Q : Exit → Act → World → Prop} {K : Act → World → Prop} {R : Value → World → Prop} (hi : ops[i]? = some o)
    (he : execOp a.eval o = execOp b.eval o) (hw : Region.wanted o (yielded ops a.tmps) = Region.wanted o (yielded ops b.tmps)) (hb : ∀ d, o.dst = some d → d < b.tmps.size)
    (h : wpList P ops (plainQ fun a' y' => ∃ v, a' = b.put o.dst v ∧ R v y') [o] b y) (hK : ∀ v y', R v y' → K (a.put o.dst v) y') : wpOp P ops Q i K a y := by
  have inj : ∀ u v, b.put o.dst u = b.put o.dst v → a.put o.dst u = a.put o.dst v := fun u v e => by
    cases hd : o.dst with
    | none => rfl
    | some d =>
      rw [hd] at e
      have := congrArg (fun x : Act => x.tmps[d]?) e
      have : u = v := by simpa [Act.put, hb d hd] using this
      rw [this]
  unfold Go.wpOp
  simp only [hi]
  simp only [wpList] at h
  rw [hw]
  split
  · rename_i hwt
    rw [if_pos hwt] at h
    rcases h with h | ⟨_, h⟩
    case inr => exact absurd h (plainQ_lets _)
    refine .inl ?_
    unfold Oper.wp at *
    rw [he]
    generalize (execOp b.eval o).run P y = r at *
    cases r with
    | ok n w' =>
      cases n <;> simp only [Oper.upon] at h ⊢
      case value u =>
        obtain ⟨v, e, hv⟩ := h
        rw [inj _ _ e]
        exact hK _ _ hv
      case skip =>
        obtain ⟨v, e, hv⟩ := h
        rw [inj _ _ e]
        exact hK _ _ hv
      case defer dd =>
        obtain ⟨v, e, hv⟩ := h
        have := congrArg Act.defers e
        rw [put_defers, put_defers] at this
        exact absurd this (by simp)
      case enter f args =>
        refine Calls.mono h fun e w'' he => ?_
        cases e with
        | returned u =>
          obtain ⟨v, e, hv⟩ := he
          show K (a.put o.dst u) w''
          rw [inj _ _ e]
          exact hK _ _ hv
        | panicked c => exact he.elim
        | outgrown => exact absurd he (plainQ_lets _)
      case row row args =>
        refine Rows.mono h fun u w'' he => ?_
        obtain ⟨v, e, hv⟩ := he
        rw [inj _ _ e]
        exact hK _ _ hv
    | halt x w' =>
      cases x <;> simp only [Oper.upon] at h ⊢
      case panic u => exact h.elim
  · rename_i hwt
    rw [if_neg hwt] at h
    obtain ⟨v, e, hv⟩ := h
    rw [inj _ _ e]
    exact hK _ _ hv

def factsG (ops : Array Oper) (n : Nat) (sz : Nat) : Bool :=
  Region.noSelect ops && decide (n ≤ ops.size) && (decide (ops.size ≤ n) || (Region.sinkB .any ops n && Region.chainB .any ops n)) &&
  Region.seqB .any ops (ops.size - n) n ((List.range ops.size).map (fun j => decide (j < n))).toArray &&
  (List.range n).all fun i => match ops[i]? with
    | none => false
    | some o => (match o.dst with | some d => decide (d < sz) | none => true) && (o.after.all fun e => !Region.binds .any e || decide (e.on < i)) &&
      (List.range n).all fun j =>
        match dstOf ops j with | some d => (!(o.looksAt ops).contains d || (Region.waitsFor .any ops i j && decide (j < i))) && (j == i || o.dst != some d) | none => true

/-- one operation's premise -/
def StepOKG (P : Program) (ops : Array Oper) (n : Nat) (G : Nat → Value → World → Prop) (C : (Nat → Bool) → World → Prop) (a : Act) (ds : List (Option Tmp)) (i : Nat) (o : Oper) : Prop :=
  ∀ s vs y, s i = false → (∀ j, Region.waitsFor .any ops i j = true → s j = true) → (∀ k, k < n → Region.waitsFor .any ops k i = true → s k = false) → C s y → (∀ j, j < n → Region.waitsFor .any ops i j = true → G j (vs j) y) →
    wpList P ops (plainQ fun a' y' => ∃ v, a' = (lexPut (ds.take i) 0 vs a).put o.dst v ∧ C (fun j => if j = i then true else s j) y' ∧ G i v y' ∧ ∀ j, j < n → j ≠ i → G j (vs j) y → G j (vs j) y') [o] (lexPut (ds.take i) 0 vs a) y

def StepsOKG (P : Program) (ops : Array Oper) (n : Nat) (G : Nat → Value → World → Prop) (C : (Nat → Bool) → World → Prop) (a : Act) (ds : List (Option Tmp)) : List Oper → Nat → Prop
  | [], _ => True
  | o :: r, i => StepOKG P ops n G C a ds i o ∧ StepsOKG P ops n G C a ds r (i + 1)

theorem StepsOKG.get {n : Nat} {G : Nat → Value → World → Prop} {C : (Nat → Bool) → World → Prop} {a : Act} {ds : List (Option Tmp)} : ∀ (l : List Oper) (k : Nat), StepsOKG P ops n G C a ds l k →
    ∀ i o, l[i]? = some o → StepOKG P ops n G C a ds (k + i) o
  | [], _, _, i, o, h => by simp at h
  | x :: r, k, hs, i, o, h => by
    cases i with
    | zero =>
      have : x = o := by simpa using h
      subst this
      exact hs.1
    | succ i =>
      have := StepsOKG.get r (k + 1) hs.2 i o (by simpa using h)
      rwa [show k + 1 + i = k + (i + 1) by omega] at this

theorem wp_region_gen {id : Nat} {Q : Exit → Act → World → Prop} {a : Act} {w : World} {l : List Oper} (n : Nat) (G : Nat → Value → World → Prop) (C : (Nat → Bool) → World → Prop)
    (hm : P.follows .mixedOrders = true) (hB : factsG l.toArray n a.tmps.size = true) (ds : List (Option Tmp)) (hds : ds = (l.take n).map (·.dst)) (hC : C (fun _ => false) w.drew)
    (steps : StepsOKG P l.toArray n G C a ds (l.take n) 0)
    (tail : ∀ s vs y, (∀ j, j < n → s j = true) → C s y → (∀ j, j < n → G j (vs j) y) → wpList P l.toArray Q (l.drop n) (lexPut ds 0 vs a) y) : (Code.region id l.toArray true).wp P Q a w := by
  simp only [factsG, Bool.and_eq_true, decide_eq_true_eq] at hB
  obtain ⟨⟨⟨⟨hsel, hn⟩, hsc⟩, hseq⟩, hall⟩ := hB
  have hnl : n ≤ l.length := by simpa using hn
  have shape : ∀ i, i < n → ∃ o, l.toArray[i]? = some o ∧ (∀ d, o.dst = some d → d < a.tmps.size) ∧ (∀ e ∈ o.after, Region.binds .any e = true → e.on < i) ∧
      (∀ j d', j < n → dstOf l.toArray j = some d' → (d' ∈ o.looksAt l.toArray → Region.waitsFor .any l.toArray i j = true ∧ j < i) ∧ (j ≠ i → o.dst ≠ some d')) := by
    intro i hi
    have h := List.all_eq_true.1 hall i (List.mem_range.2 hi)
    split at h
    · cases h
    · rename_i o ho
      simp only [Bool.and_eq_true] at h
      obtain ⟨⟨h1, h2⟩, h3⟩ := h
      refine ⟨o, ho, fun d hd => ?_, fun e he hb => ?_, fun j d' hj hd' => ?_⟩
      · rw [hd] at h1
        exact of_decide_eq_true h1
      · have := Array.all_eq_true_iff_forall_mem.1 h2 e he
        simp only [Bool.or_eq_true, Bool.not_eq_true', decide_eq_true_eq] at this
        rcases this with h | h
        · rw [hb] at h; cases h
        · exact h
      · have h4 := List.all_eq_true.1 h3 j (List.mem_range.2 hj)
        rw [hd'] at h4
        simp only [Bool.and_eq_true, Bool.or_eq_true, Bool.not_eq_true', decide_eq_true_eq, beq_iff_eq, bne_iff_ne] at h4
        refine ⟨fun hx => ?_, fun hx => ?_⟩
        · rcases h4.1 with h | h
          · have hx' : (o.looksAt l.toArray).contains d' = true := by simpa using hx
            rw [hx'] at h; cases h
          · exact h
        · rcases h4.2 with h | h
          · exact absurd h hx
          · exact h
  have main : ∀ (f : Nat) (listed : Array Bool) (vs : Nat → Value) (y : World), leftOf listed n = f → HeadInv .any l.toArray n listed → C (fun j => listed.getD j false) y →
      (∀ j, j < n → listed.getD j false = true → G j (vs j) y) →
      wpAny P .any l.toArray Q (f + (l.toArray.size - n)) listed (actOf l.toArray vs (fun j => listed.getD j false) a n) y := by
    intro f
    induction f with
    | zero =>
      intro listed vs y hf inv hCy hG
      have hdone := leftOf_zero listed n hf
      have hlist : listed = ((List.range l.toArray.size).map (fun j => decide (j < n))).toArray := by
        apply Array.ext
        · rw [inv.size]; simp
        · intro j h1 h2
          have hj : j < l.toArray.size := by rw [← inv.size]; exact h1
          have e1 : listed[j] = listed.getD j false := by simp [h1]
          rw [e1]
          by_cases hjn : j < n
          · rw [hdone j hjn]; simp [hjn]
          · have := getD_both (inv.tail j (by omega) hj)
            rw [this]; simp [hjn]
      have hact : actOf l.toArray vs (fun j => listed.getD j false) a n = lexPut ds 0 vs a := by
        rw [actOf_lex vs _ a n (by omega) hdone, hds]
      rw [Nat.zero_add, hact]
      have hlen : (l.drop n).length = l.toArray.size - n := by simp
      rw [← hlen]
      refine wpAny_of_seq (l.drop n) n listed _ y (fun j => by simp [List.getElem?_drop]) ?_ (tail _ vs y hdone hCy fun j hj => hG j hj (hdone j hj))
      rw [hlen, hlist]; exact hseq
    | succ f ih =>
      intro listed vs y hf inv hCy hG
      have e : f + 1 + (l.toArray.size - n) = (f + (l.toArray.size - n)) + 1 := by omega
      rw [e]
      obtain ⟨i0, hi0, hun0, hlow0⟩ := leftOf_pos listed n f hf
      have hi0s : i0 < listed.size := by rw [inv.size]; omega
      refine ⟨fun hnil => ?_, fun i hir => ?_⟩
      · exfalso
        obtain ⟨o, ho, _, hafter, _⟩ := shape i0 hi0
        have : i0 ∈ Region.ready .any l.toArray listed := mem_ready.2 ⟨getD_in hi0s hun0, o, ho, fun e he hb => hlow0 _ (hafter e he hb)⟩
        rw [hnil] at this
        cases this
      · have hin : i < n := by
          rcases Nat.lt_or_ge i n with h | h
          · exact h
          · obtain ⟨_, oi, hoi, _⟩ := mem_ready.1 hir
            have hil := (Array.getElem?_eq_some_iff.1 hoi).1
            simp only [Bool.or_eq_true, Bool.and_eq_true, decide_eq_true_eq] at hsc
            rcases hsc with hsc | ⟨hs, hc⟩
            · omega
            · exact absurd hir (tail_waits hs hc (by omega) inv _ i0 rfl hi0 (getD_in hi0s hun0) i h)
        obtain ⟨hiun, o', ho', hdeps⟩ := mem_ready.1 hir
        obtain ⟨o, ho, hdsz, hafter, hslots⟩ := shape i hin
        obtain rfl : o' = o := Option.some.inj (ho'.symm.trans ho)
        have hiun' := getD_both hiun
        have hisz : i < listed.size := by rw [inv.size]; omega
        -- what it waits for is done
        have hwait : ∀ j, Region.waitsFor .any l.toArray i j = true → listed.getD j false = true := fun j hj => by
          obtain ⟨oj, hoj, e, he, hb, hon⟩ := Region.waitsFor_spec hj
          obtain rfl : oj = o' := Option.some.inj (hoj.symm.trans ho)
          rw [← hon]
          exact hdeps e he hb
        have hstep := StepsOKG.get (l.take n) 0 steps i o' (by rw [List.getElem?_take, if_pos hin]; simpa using ho)
        rw [Nat.zero_add] at hstep
        have hfacts : ∀ j, j < n → Region.waitsFor .any l.toArray i j = true → G j (vs j) y := fun j hj hwt => hG j hj (hwait j hwt)
        have hnot : ∀ k, k < n → Region.waitsFor .any l.toArray k i = true → listed.getD k false = false := fun k hk hwt => by
          cases hx : listed.getD k false with
          | false => rfl
          | true =>
            obtain ⟨ok, hok, e, he, hb, hon⟩ := Region.waitsFor_spec hwt
            have hks : k < listed.size := by rw [inv.size]; exact (Array.getElem?_eq_some_iff.1 hok).1
            have := inv.closed k ok hok hx e he hb
            rw [hon, hiun'] at this
            cases this
        have hst := hstep (fun j => listed.getD j false) vs y hiun' hwait hnot hCy hfacts
        have hlexi : lexPut (ds.take i) 0 vs a = actOf l.toArray vs (fun j => decide (j < i)) a n := by
          have : n = i + (n - i) := by omega
          rw [this, actOf_more vs _ a i (n - i) (fun j hj => by simp; omega), actOf_lex vs _ a i (by omega) (fun j hj => by simp [hj]), hds, ← List.map_take, List.take_take, Nat.min_eq_left (by omega)]
        have hslot : ∀ t, t ∈ o'.looksAt l.toArray → (actOf l.toArray vs (fun j => listed.getD j false) a n).tmps[t]? = (lexPut (ds.take i) 0 vs a).tmps[t]? := fun t ht => by
          rw [hlexi]
          refine actOf_slot vs vs _ _ a t n fun j hj hdj => ⟨?_, fun _ => rfl⟩
          obtain ⟨h1, h2⟩ := (hslots j t hj hdj).1 ht
          rw [hwait j h1]; simp [h2]
        have hsel' := fun cs b => Region.noSelect_spec hsel i o' cs b ho
        refine wpOp_of_plain' (R := fun v y' => C (fun j => if j = i then true else listed.getD j false) y' ∧ G i v y' ∧ ∀ j, j < n → j ≠ i → G j (vs j) y → G j (vs j) y') ho (execOp_slots o' hsel' _ _ hslot) (wanted_slots o' _ _ hslot) (by rw [hlexi, actOf_size]; exact hdsz) ?_ ?_
        · exact hst
        · intro v y' ⟨hC', hGi, hrest⟩
          have hset : ∀ j, (listed.setIfInBounds i true).getD j false = if j = i then true else listed.getD j false := fun j => by
            by_cases e : j = i
            · subst e; rw [if_pos rfl]; simp [hisz]
            · rw [if_neg e, getD_set_ne false (Ne.symm e)]
          have hact := actOf_set (ops := l.toArray) vs (fun j => listed.getD j false) (fun j => (listed.setIfInBounds i true).getD j false) a i v hiun' hset (fun j => if j = i then v else vs j) (fun _ => rfl) n hin
            (fun j hj hne d' hd' hdj => by
              have := (hslots j d' hj hdj).2 hne
              have e1 : dstOf l.toArray i = o'.dst := by simp [dstOf, ho]
              rw [e1] at hd'
              exact this hd')
          have e1 : dstOf l.toArray i = o'.dst := by simp [dstOf, ho]
          rw [e1] at hact
          rw [← hact]
          refine ih _ _ y' ?_ (inv.set hir hin) (by rw [show (fun j => (listed.setIfInBounds i true).getD j false) = (fun j => if j = i then true else listed.getD j false) from funext hset]; exact hC') ?_
          · have := (leftOf_set listed i hisz hiun' n).1 hin
            omega
          · intro j hj hjl
            by_cases e : j = i
            · subst e; simpa using hGi
            · simp only [if_neg e]
              rw [hset j, if_neg e] at hjl
              exact hrest j hj e (hG j hj hjl)
  refine wp_region_any hm ?_
  have inv : HeadInv .any l.toArray n (Array.replicate l.toArray.size false) :=
    ⟨by simp, fun j oj _ hl => (by rw [getD_replicate_false] at hl; cases hl), fun t _ ht => getD_in (by simpa using ht) (getD_replicate_false _ _)⟩
  have hleft : ∀ m, leftOf (Array.replicate l.toArray.size false) m = m := by
    intro m
    induction m with
    | zero => rfl
    | succ m ih => rw [leftOf, ih, getD_replicate_false]; rfl
  have := main n (Array.replicate l.toArray.size false) (fun _ => undef) w.drew (hleft n) inv (by rw [show (fun j => (Array.replicate l.toArray.size false).getD j false) = (fun _ => false) from funext fun j => getD_replicate_false _ _]; exact hC) fun j _ hl => (by rw [getD_replicate_false] at hl; cases hl)
  rw [actOf_none _ _ a n fun j _ => getD_replicate_false _ _, show n + (l.toArray.size - n) = l.toArray.size by omega] at this
  exact this

def StepOKW (P : Program) (ops : Array Oper) (n : Nat) (ws : List Nat) (gs : List (Value → World → Prop)) (D : List Bool → World → Prop) (a : Act) (ds : List (Option Tmp)) (i : Nat) (o : Oper) : Prop :=
  ∀ s vs y, s i = false → (∀ j, Region.waitsFor .any ops i j = true → s j = true) → (∀ k, k < n → Region.waitsFor .any ops k i = true → s k = false) → D (ws.map s) y →
    (∀ j, j < n → Region.waitsFor .any ops i j = true → Facts gs j (vs j) y) →
    wpList P ops (plainQ fun a' y' => ∃ v, a' = (lexPut (ds.take i) 0 vs a).put o.dst v ∧ Facts gs i v y' ∧
      (if ws.contains i = true then D (ws.map fun j => if j = i then true else s j) y' ∧ ∀ j, j < n → j ≠ i → Facts gs j (vs j) y → Facts gs j (vs j) y' else Below y.heap.size y y')) [o] (lexPut (ds.take i) 0 vs a) y

def StepsOKW (P : Program) (ops : Array Oper) (n : Nat) (ws : List Nat) (gs : List (Value → World → Prop)) (D : List Bool → World → Prop) (a : Act) (ds : List (Option Tmp)) : List Oper → Nat → Prop
  | [], _ => True
  | o :: r, i => StepOKW P ops n ws gs D a ds i o ∧ StepsOKW P ops n ws gs D a ds r (i + 1)

theorem steps_ofW {ops : Array Oper} {n : Nat} {ws : List Nat} {gs : List (Value → World → Prop)} {D : List Bool → World → Prop} {a : Act} {ds : List (Option Tmp)} (hk : ∀ g ∈ gs, Keeps g) (hD : ∀ bs (y y' : World), Below y.heap.size y y' → D bs y → D bs y') :
    ∀ (l : List Oper) (i : Nat), StepsOKW P ops n ws gs D a ds l i → StepsOKG P ops n (Facts gs) (fun s => D (ws.map s)) a ds l i
  | [], _, _ => trivial
  | _o :: r, i, h => ⟨fun s vs y h1 h2 h3 hy hd => wpList_one_mono (fun _ y' ⟨v, e, hg, hx⟩ => by
      refine ⟨v, e, ?_, hg, ?_⟩
      · by_cases e : ws.contains i = true
        · rw [if_pos e] at hx
          exact hx.1
        · rw [if_neg e] at hx
          have : (ws.map fun j => if j = i then true else s j) = ws.map s := List.map_congr_left fun j hj => if_neg fun ej => e (by subst ej; simpa using hj)
          show D _ y'
          rw [this]
          exact hD _ _ _ hx hy
      · intro j hj hne hfj
        by_cases e : ws.contains i = true
        · rw [if_pos e] at hx
          exact hx.2 j hj hne hfj
        · rw [if_neg e] at hx
          exact keeps_of hk j _ _ _ hx hfj) (h.1 s vs y h1 h2 h3 hy hd), steps_ofW hk hD r (i + 1) h.2⟩

/-- a region that draws: of its head the operations ws alone may write; the invariant says which of them have -/
theorem wp_region_writes {id : Nat} {Q : Exit → Act → World → Prop} {a : Act} {w : World} {l : List Oper} (n : Nat) (ws : List Nat) (gs : List (Value → World → Prop)) (D : List Bool → World → Prop) (ds : List (Option Tmp))
    (hm : P.follows .mixedOrders = true) (hB : factsG l.toArray n a.tmps.size = true) (hds : ds = (l.take n).map (·.dst)) (hk : ∀ g ∈ gs, Keeps g) (hw : D (ws.map fun _ => false) w.drew)
    (hD : ∀ bs (y y' : World), Below y.heap.size y y' → D bs y → D bs y') (hws : ∀ i ∈ ws, i < n) (steps : StepsOKW P l.toArray n ws gs D a ds (l.take n) 0)
    (tail : ∀ vs y, D (ws.map fun _ => true) y → (∀ j, j < n → Facts gs j (vs j) y) → wpList P l.toArray Q (l.drop n) (lexPut ds 0 vs a) y) : (Code.region id l.toArray true).wp P Q a w :=
  wp_region_gen n (Facts gs) (fun s => D (ws.map s)) hm hB ds hds hw (steps_ofW hk hD _ _ steps) fun s vs y hs hy hg => tail vs y (by
    have : (ws.map fun _ => true) = ws.map s := List.map_congr_left fun j hj => (hs j (hws j hj)).symm
    rw [this]
    exact hy) hg

end
end Go.Proofs.YtjcaejdokillgaaDoor

namespace Go.Proofs.YtjcaejdokillgaaDoor
open Go Go.RowKit

section
variable {P : Program} {ops : Array Oper}

/-- one operation's premise -/
def StepOKV (P : Program) (ops : Array Oper) (n : Nat) (G : Nat → Value → World → Prop) (C : (Nat → Bool) → (Nat → Value) → World → Prop) (a : Act) (ds : List (Option Tmp)) (i : Nat) (o : Oper) : Prop :=
  ∀ s vs y, s i = false → (∀ j, Region.waitsFor .any ops i j = true → s j = true) → (∀ k, k < n → Region.waitsFor .any ops k i = true → s k = false) → C s vs y → (∀ j, j < n → Region.waitsFor .any ops i j = true → G j (vs j) y) →
    wpList P ops (plainQ fun a' y' => ∃ v, a' = (lexPut (ds.take i) 0 vs a).put o.dst v ∧ C (fun j => if j = i then true else s j) (fun j => if j = i then v else vs j) y' ∧ G i v y' ∧ ∀ j, j < n → j ≠ i → G j (vs j) y → G j (vs j) y') [o] (lexPut (ds.take i) 0 vs a) y

def StepsOKV (P : Program) (ops : Array Oper) (n : Nat) (G : Nat → Value → World → Prop) (C : (Nat → Bool) → (Nat → Value) → World → Prop) (a : Act) (ds : List (Option Tmp)) : List Oper → Nat → Prop
  | [], _ => True
  | o :: r, i => StepOKV P ops n G C a ds i o ∧ StepsOKV P ops n G C a ds r (i + 1)

theorem StepsOKV.get {n : Nat} {G : Nat → Value → World → Prop} {C : (Nat → Bool) → (Nat → Value) → World → Prop} {a : Act} {ds : List (Option Tmp)} : ∀ (l : List Oper) (k : Nat), StepsOKV P ops n G C a ds l k →
    ∀ i o, l[i]? = some o → StepOKV P ops n G C a ds (k + i) o
  | [], _, _, i, o, h => by simp at h
  | x :: r, k, hs, i, o, h => by
    cases i with
    | zero =>
      have : x = o := by simpa using h
      subst this
      exact hs.1
    | succ i =>
      have := StepsOKV.get r (k + 1) hs.2 i o (by simpa using h)
      rwa [show k + 1 + i = k + (i + 1) by omega] at this

theorem wp_region_val {id : Nat} {Q : Exit → Act → World → Prop} {a : Act} {w : World} {l : List Oper} (n : Nat) (G : Nat → Value → World → Prop) (C : (Nat → Bool) → (Nat → Value) → World → Prop)
    (hm : P.follows .mixedOrders = true) (hB : factsG l.toArray n a.tmps.size = true) (ds : List (Option Tmp)) (hds : ds = (l.take n).map (·.dst)) (hC : C (fun _ => false) (fun _ => undef) w.drew)
    (steps : StepsOKV P l.toArray n G C a ds (l.take n) 0)
    (tail : ∀ s vs y, (∀ j, j < n → s j = true) → C s vs y → (∀ j, j < n → G j (vs j) y) → wpList P l.toArray Q (l.drop n) (lexPut ds 0 vs a) y) : (Code.region id l.toArray true).wp P Q a w := by
  simp only [factsG, Bool.and_eq_true, decide_eq_true_eq] at hB
  obtain ⟨⟨⟨⟨hsel, hn⟩, hsc⟩, hseq⟩, hall⟩ := hB
  have hnl : n ≤ l.length := by simpa using hn
  have shape : ∀ i, i < n → ∃ o, l.toArray[i]? = some o ∧ (∀ d, o.dst = some d → d < a.tmps.size) ∧ (∀ e ∈ o.after, Region.binds .any e = true → e.on < i) ∧
      (∀ j d', j < n → dstOf l.toArray j = some d' → (d' ∈ o.looksAt l.toArray → Region.waitsFor .any l.toArray i j = true ∧ j < i) ∧ (j ≠ i → o.dst ≠ some d')) := by
    intro i hi
    have h := List.all_eq_true.1 hall i (List.mem_range.2 hi)
    split at h
    · cases h
    · rename_i o ho
      simp only [Bool.and_eq_true] at h
      obtain ⟨⟨h1, h2⟩, h3⟩ := h
      refine ⟨o, ho, fun d hd => ?_, fun e he hb => ?_, fun j d' hj hd' => ?_⟩
      · rw [hd] at h1
        exact of_decide_eq_true h1
      · have := Array.all_eq_true_iff_forall_mem.1 h2 e he
        simp only [Bool.or_eq_true, Bool.not_eq_true', decide_eq_true_eq] at this
        rcases this with h | h
        · rw [hb] at h; cases h
        · exact h
      · have h4 := List.all_eq_true.1 h3 j (List.mem_range.2 hj)
        rw [hd'] at h4
        simp only [Bool.and_eq_true, Bool.or_eq_true, Bool.not_eq_true', decide_eq_true_eq, beq_iff_eq, bne_iff_ne] at h4
        refine ⟨fun hx => ?_, fun hx => ?_⟩
        · rcases h4.1 with h | h
          · have hx' : (o.looksAt l.toArray).contains d' = true := by simpa using hx
            rw [hx'] at h; cases h
          · exact h
        · rcases h4.2 with h | h
          · exact absurd h hx
          · exact h
  have main : ∀ (f : Nat) (listed : Array Bool) (vs : Nat → Value) (y : World), leftOf listed n = f → HeadInv .any l.toArray n listed → C (fun j => listed.getD j false) vs y →
      (∀ j, j < n → listed.getD j false = true → G j (vs j) y) →
      wpAny P .any l.toArray Q (f + (l.toArray.size - n)) listed (actOf l.toArray vs (fun j => listed.getD j false) a n) y := by
    intro f
    induction f with
    | zero =>
      intro listed vs y hf inv hCy hG
      have hdone := leftOf_zero listed n hf
      have hlist : listed = ((List.range l.toArray.size).map (fun j => decide (j < n))).toArray := by
        apply Array.ext
        · rw [inv.size]; simp
        · intro j h1 h2
          have hj : j < l.toArray.size := by rw [← inv.size]; exact h1
          have e1 : listed[j] = listed.getD j false := by simp [h1]
          rw [e1]
          by_cases hjn : j < n
          · rw [hdone j hjn]; simp [hjn]
          · have := getD_both (inv.tail j (by omega) hj)
            rw [this]; simp [hjn]
      have hact : actOf l.toArray vs (fun j => listed.getD j false) a n = lexPut ds 0 vs a := by
        rw [actOf_lex vs _ a n (by omega) hdone, hds]
      rw [Nat.zero_add, hact]
      have hlen : (l.drop n).length = l.toArray.size - n := by simp
      rw [← hlen]
      refine wpAny_of_seq (l.drop n) n listed _ y (fun j => by simp [List.getElem?_drop]) ?_ (tail _ vs y hdone hCy fun j hj => hG j hj (hdone j hj))
      rw [hlen, hlist]; exact hseq
    | succ f ih =>
      intro listed vs y hf inv hCy hG
      have e : f + 1 + (l.toArray.size - n) = (f + (l.toArray.size - n)) + 1 := by omega
      rw [e]
      obtain ⟨i0, hi0, hun0, hlow0⟩ := leftOf_pos listed n f hf
      have hi0s : i0 < listed.size := by rw [inv.size]; omega
      refine ⟨fun hnil => ?_, fun i hir => ?_⟩
      · exfalso
        obtain ⟨o, ho, _, hafter, _⟩ := shape i0 hi0
        have : i0 ∈ Region.ready .any l.toArray listed := mem_ready.2 ⟨getD_in hi0s hun0, o, ho, fun e he hb => hlow0 _ (hafter e he hb)⟩
        rw [hnil] at this
        cases this
      · have hin : i < n := by
          rcases Nat.lt_or_ge i n with h | h
          · exact h
          · obtain ⟨_, oi, hoi, _⟩ := mem_ready.1 hir
            have hil := (Array.getElem?_eq_some_iff.1 hoi).1
            simp only [Bool.or_eq_true, Bool.and_eq_true, decide_eq_true_eq] at hsc
            rcases hsc with hsc | ⟨hs, hc⟩
            · omega
            · exact absurd hir (tail_waits hs hc (by omega) inv _ i0 rfl hi0 (getD_in hi0s hun0) i h)
        obtain ⟨hiun, o', ho', hdeps⟩ := mem_ready.1 hir
        obtain ⟨o, ho, hdsz, hafter, hslots⟩ := shape i hin
        obtain rfl : o' = o := Option.some.inj (ho'.symm.trans ho)
        have hiun' := getD_both hiun
        have hisz : i < listed.size := by rw [inv.size]; omega
        -- what it waits for is done
        have hwait : ∀ j, Region.waitsFor .any l.toArray i j = true → listed.getD j false = true := fun j hj => by
          obtain ⟨oj, hoj, e, he, hb, hon⟩ := Region.waitsFor_spec hj
          obtain rfl : oj = o' := Option.some.inj (hoj.symm.trans ho)
          rw [← hon]
          exact hdeps e he hb
        have hstep := StepsOKV.get (l.take n) 0 steps i o' (by rw [List.getElem?_take, if_pos hin]; simpa using ho)
        rw [Nat.zero_add] at hstep
        have hfacts : ∀ j, j < n → Region.waitsFor .any l.toArray i j = true → G j (vs j) y := fun j hj hwt => hG j hj (hwait j hwt)
        have hnot : ∀ k, k < n → Region.waitsFor .any l.toArray k i = true → listed.getD k false = false := fun k hk hwt => by
          cases hx : listed.getD k false with
          | false => rfl
          | true =>
            obtain ⟨ok, hok, e, he, hb, hon⟩ := Region.waitsFor_spec hwt
            have hks : k < listed.size := by rw [inv.size]; exact (Array.getElem?_eq_some_iff.1 hok).1
            have := inv.closed k ok hok hx e he hb
            rw [hon, hiun'] at this
            cases this
        have hst := hstep (fun j => listed.getD j false) vs y hiun' hwait hnot hCy hfacts
        have hlexi : lexPut (ds.take i) 0 vs a = actOf l.toArray vs (fun j => decide (j < i)) a n := by
          have : n = i + (n - i) := by omega
          rw [this, actOf_more vs _ a i (n - i) (fun j hj => by simp; omega), actOf_lex vs _ a i (by omega) (fun j hj => by simp [hj]), hds, ← List.map_take, List.take_take, Nat.min_eq_left (by omega)]
        have hslot : ∀ t, t ∈ o'.looksAt l.toArray → (actOf l.toArray vs (fun j => listed.getD j false) a n).tmps[t]? = (lexPut (ds.take i) 0 vs a).tmps[t]? := fun t ht => by
          rw [hlexi]
          refine actOf_slot vs vs _ _ a t n fun j hj hdj => ⟨?_, fun _ => rfl⟩
          obtain ⟨h1, h2⟩ := (hslots j t hj hdj).1 ht
          rw [hwait j h1]; simp [h2]
        have hsel' := fun cs b => Region.noSelect_spec hsel i o' cs b ho
        refine wpOp_of_plain' (R := fun v y' => C (fun j => if j = i then true else listed.getD j false) (fun j => if j = i then v else vs j) y' ∧ G i v y' ∧ ∀ j, j < n → j ≠ i → G j (vs j) y → G j (vs j) y') ho (execOp_slots o' hsel' _ _ hslot) (wanted_slots o' _ _ hslot) (by rw [hlexi, actOf_size]; exact hdsz) ?_ ?_
        · exact hst
        · intro v y' ⟨hC', hGi, hrest⟩
          have hset : ∀ j, (listed.setIfInBounds i true).getD j false = if j = i then true else listed.getD j false := fun j => by
            by_cases e : j = i
            · subst e; rw [if_pos rfl]; simp [hisz]
            · rw [if_neg e, getD_set_ne false (Ne.symm e)]
          have hact := actOf_set (ops := l.toArray) vs (fun j => listed.getD j false) (fun j => (listed.setIfInBounds i true).getD j false) a i v hiun' hset (fun j => if j = i then v else vs j) (fun _ => rfl) n hin
            (fun j hj hne d' hd' hdj => by
              have := (hslots j d' hj hdj).2 hne
              have e1 : dstOf l.toArray i = o'.dst := by simp [dstOf, ho]
              rw [e1] at hd'
              exact this hd')
          have e1 : dstOf l.toArray i = o'.dst := by simp [dstOf, ho]
          rw [e1] at hact
          rw [← hact]
          refine ih _ _ y' ?_ (inv.set hir hin) (by rw [show (fun j => (listed.setIfInBounds i true).getD j false) = (fun j => if j = i then true else listed.getD j false) from funext hset]; exact hC') ?_
          · have := (leftOf_set listed i hisz hiun' n).1 hin
            omega
          · intro j hj hjl
            by_cases e : j = i
            · subst e; simpa using hGi
            · simp only [if_neg e]
              rw [hset j, if_neg e] at hjl
              exact hrest j hj e (hG j hj hjl)
  refine wp_region_any hm ?_
  have inv : HeadInv .any l.toArray n (Array.replicate l.toArray.size false) :=
    ⟨by simp, fun j oj _ hl => (by rw [getD_replicate_false] at hl; cases hl), fun t _ ht => getD_in (by simpa using ht) (getD_replicate_false _ _)⟩
  have hleft : ∀ m, leftOf (Array.replicate l.toArray.size false) m = m := by
    intro m
    induction m with
    | zero => rfl
    | succ m ih => rw [leftOf, ih, getD_replicate_false]; rfl
  have := main n (Array.replicate l.toArray.size false) (fun _ => undef) w.drew (hleft n) inv (by rw [show (fun j => (Array.replicate l.toArray.size false).getD j false) = (fun _ => false) from funext fun j => getD_replicate_false _ _]; exact hC) fun j _ hl => (by rw [getD_replicate_false] at hl; cases hl)
  rw [actOf_none _ _ a n fun j _ => getD_replicate_false _ _, show n + (l.toArray.size - n) = l.toArray.size by omega] at this
  exact this

def StepOKU (P : Program) (ops : Array Oper) (n : Nat) (ws : List Nat) (gs : List (Value → World → Prop)) (D : List Bool → (Nat → Value) → World → Prop) (a : Act) (ds : List (Option Tmp)) (i : Nat) (o : Oper) : Prop :=
  ∀ s vs y, s i = false → (∀ j, Region.waitsFor .any ops i j = true → s j = true) → (∀ k, k < n → Region.waitsFor .any ops k i = true → s k = false) → D (ws.map s) vs y →
    (∀ j, j < n → Region.waitsFor .any ops i j = true → Facts gs j (vs j) y) →
    wpList P ops (plainQ fun a' y' => ∃ v, a' = (lexPut (ds.take i) 0 vs a).put o.dst v ∧ Facts gs i v y' ∧
      (if ws.contains i = true then D (ws.map fun j => if j = i then true else s j) (fun j => if j = i then v else vs j) y' ∧ ∀ j, j < n → j ≠ i → Facts gs j (vs j) y → Facts gs j (vs j) y' else Below y.heap.size y y')) [o] (lexPut (ds.take i) 0 vs a) y

def StepsOKU (P : Program) (ops : Array Oper) (n : Nat) (ws : List Nat) (gs : List (Value → World → Prop)) (D : List Bool → (Nat → Value) → World → Prop) (a : Act) (ds : List (Option Tmp)) : List Oper → Nat → Prop
  | [], _ => True
  | o :: r, i => StepOKU P ops n ws gs D a ds i o ∧ StepsOKU P ops n ws gs D a ds r (i + 1)

theorem steps_ofU {ops : Array Oper} {n : Nat} {ws : List Nat} {gs : List (Value → World → Prop)} {D : List Bool → (Nat → Value) → World → Prop} {a : Act} {ds : List (Option Tmp)} (hk : ∀ g ∈ gs, Keeps g)
    (hD : ∀ bs vs vs' (y y' : World), (∀ k ∈ ws, vs' k = vs k) → Below y.heap.size y y' → D bs vs y → D bs vs' y') :
    ∀ (l : List Oper) (i : Nat), StepsOKU P ops n ws gs D a ds l i → StepsOKV P ops n (Facts gs) (fun s vs => D (ws.map s) vs) a ds l i
  | [], _, _ => trivial
  | _o :: r, i, h => ⟨fun s vs y h1 h2 h3 hy hd => wpList_one_mono (fun _ y' ⟨v, e, hg, hx⟩ => by
      refine ⟨v, e, ?_, hg, ?_⟩
      · by_cases e : ws.contains i = true
        · rw [if_pos e] at hx
          exact hx.1
        · rw [if_neg e] at hx
          have hne : ∀ j ∈ ws, j ≠ i := fun j hj ej => e (by subst ej; simpa using hj)
          have : (ws.map fun j => if j = i then true else s j) = ws.map s := List.map_congr_left fun j hj => if_neg (hne j hj)
          show D _ _ y'
          rw [this]
          exact hD _ _ _ _ _ (fun k hk => if_neg (hne k hk)) hx hy
      · intro j hj hne hfj
        by_cases e : ws.contains i = true
        · rw [if_pos e] at hx
          exact hx.2 j hj hne hfj
        · rw [if_neg e] at hx
          exact keeps_of hk j _ _ _ hx hfj) (h.1 s vs y h1 h2 h3 hy hd), steps_ofU hk hD r (i + 1) h.2⟩

/-- a region that draws: of its head the operations ws alone may write, or yield what the invariant looks at -/
theorem wp_region_yields {id : Nat} {Q : Exit → Act → World → Prop} {a : Act} {w : World} {l : List Oper} (n : Nat) (ws : List Nat) (gs : List (Value → World → Prop)) (D : List Bool → (Nat → Value) → World → Prop) (ds : List (Option Tmp))
    (hm : P.follows .mixedOrders = true) (hB : factsG l.toArray n a.tmps.size = true) (hds : ds = (l.take n).map (·.dst)) (hk : ∀ g ∈ gs, Keeps g) (hw : D (ws.map fun _ => false) (fun _ => undef) w.drew)
    (hD : ∀ bs vs vs' (y y' : World), (∀ k ∈ ws, vs' k = vs k) → Below y.heap.size y y' → D bs vs y → D bs vs' y') (hws : ∀ i ∈ ws, i < n) (steps : StepsOKU P l.toArray n ws gs D a ds (l.take n) 0)
    (tail : ∀ vs y, D (ws.map fun _ => true) vs y → (∀ j, j < n → Facts gs j (vs j) y) → wpList P l.toArray Q (l.drop n) (lexPut ds 0 vs a) y) : (Code.region id l.toArray true).wp P Q a w :=
  wp_region_val n (Facts gs) (fun s vs => D (ws.map s) vs) hm hB ds hds hw (steps_ofU hk hD _ _ steps) fun s vs y hs hy hg => tail vs y (by
    have : (ws.map fun _ => true) = ws.map s := List.map_congr_left fun j hj => (hs j (hws j hj)).symm
    rw [this]
    exact hy) hg

end
end Go.Proofs.YtjcaejdokillgaaDoor

namespace Go.Proofs.YtjcaejdokillgaaDoor
open Go Go.RowKit

section
variable {P : Program} {ops : Array Oper}

/-- one operation's way on: a plain one, or a panic -/
def partQ (F : List PanicEntry → World → Prop) (R : Act → World → Prop) : Exit → Act → World → Prop
  | .normal, a, w => R a w
  | .panic ch, _, w => F ch w
  | _, _, _ => False

theorem partQ_lets (F : List PanicEntry → World → Prop) (R : Act → World → Prop) : ¬ LetsOut (partQ F R) := fun ⟨_, _, h⟩ => h

theorem actOf_defers (vs : Nat → Value) (s : Nat → Bool) (a : Act) : ∀ m, (actOf ops vs s a m).defers = a.defers
  | 0 => rfl
  | m + 1 => by
    rw [actOf]
    split
    · rw [put_defers, actOf_defers vs s a m]
    · exact actOf_defers vs s a m

theorem actOf_keep (vs : Nat → Value) (s : Nat → Bool) (a : Act) (t : Nat) : ∀ m, (∀ j, j < m → dstOf ops j ≠ some t) → (actOf ops vs s a m).tmps[t]? = a.tmps[t]?
  | 0, _ => rfl
  | m + 1, h => by
    have ih := actOf_keep vs s a t m fun j hj => h j (by omega)
    rw [actOf]
    split
    · cases hx : dstOf ops m with
      | none => exact ih
      | some d =>
        have hne : d ≠ t := fun e => h m (by omega) (by rw [hx, e])
        simp only [Act.put, Array.getElem?_setIfInBounds_ne hne]
        exact ih
    · exact ih

theorem wpOp_of_part {i : Nat} {o : Oper} {a b : Act} {y : World} {Q : Exit → Act → World → Prop} {K : Act → World → Prop} {R : Value → World → Prop} {F : List PanicEntry → World → Prop} (hF : ∀ ch y', F ch y' → Q (.panic ch) a y') (hi : ops[i]? = some o)
    (he : execOp a.eval o = execOp b.eval o) (hw : Region.wanted o (yielded ops a.tmps) = Region.wanted o (yielded ops b.tmps)) (hb : ∀ d, o.dst = some d → d < b.tmps.size)
    (h : wpList P ops (partQ F fun a' y' => ∃ v, a' = b.put o.dst v ∧ R v y') [o] b y) (hK : ∀ v y', R v y' → K (a.put o.dst v) y') : wpOp P ops Q i K a y := by
  have inj : ∀ u v, b.put o.dst u = b.put o.dst v → a.put o.dst u = a.put o.dst v := fun u v e => by
    cases hd : o.dst with
    | none => rfl
    | some d =>
      rw [hd] at e
      have := congrArg (fun x : Act => x.tmps[d]?) e
      have : u = v := by simpa [Act.put, hb d hd] using this
      rw [this]
  unfold Go.wpOp
  simp only [hi]
  simp only [wpList] at h
  rw [hw]
  split
  · rename_i hwt
    rw [if_pos hwt] at h
    rcases h with h | ⟨_, h⟩
    case inr => exact absurd h (partQ_lets _ _)
    refine .inl ?_
    unfold Oper.wp at *
    rw [he]
    generalize (execOp b.eval o).run P y = r at *
    cases r with
    | ok n w' =>
      cases n <;> simp only [Oper.upon] at h ⊢
      case value u =>
        obtain ⟨v, e, hv⟩ := h
        rw [inj _ _ e]
        exact hK _ _ hv
      case skip =>
        obtain ⟨v, e, hv⟩ := h
        rw [inj _ _ e]
        exact hK _ _ hv
      case defer dd =>
        obtain ⟨v, e, hv⟩ := h
        have := congrArg Act.defers e
        rw [put_defers, put_defers] at this
        exact absurd this (by simp)
      case enter f args =>
        refine Calls.mono h fun e w'' he => ?_
        cases e with
        | returned u =>
          obtain ⟨v, e, hv⟩ := he
          show K (a.put o.dst u) w''
          rw [inj _ _ e]
          exact hK _ _ hv
        | panicked c => exact hF _ _ he
        | outgrown => exact absurd he (partQ_lets _ _)
      case row row args =>
        refine Rows.mono h fun u w'' he => ?_
        obtain ⟨v, e, hv⟩ := he
        rw [inj _ _ e]
        exact hK _ _ hv
    | halt x w' =>
      cases x <;> simp only [Oper.upon] at h ⊢
      case panic u => exact hF _ _ h
  · rename_i hwt
    rw [if_neg hwt] at h
    obtain ⟨v, e, hv⟩ := h
    rw [inj _ _ e]
    exact hK _ _ hv

theorem wpList_part_mono {ops : Array Oper} {o : Oper} {a : Act} {w : World} {R R' : Act → World → Prop} {F : List PanicEntry → World → Prop} (h : ∀ a w, R a w → R' a w) (hq : wpList P ops (partQ F R) [o] a w) : wpList P ops (partQ F R') [o] a w := by
  simp only [wpList] at *
  split
  · rename_i hw
    rw [if_pos hw] at hq
    rcases hq with hq | ⟨_, hq⟩
    case inr => exact absurd hq (partQ_lets _ _)
    refine .inl ?_
    unfold Oper.wp at *
    generalize (execOp a.eval o).run P w = r at *
    cases r with
    | ok n w' =>
      cases n <;> simp only [Oper.upon] at hq ⊢
      case value u => exact h _ _ hq
      case skip => exact h _ _ hq
      case defer d => exact h _ _ hq
      case enter f args =>
        refine Calls.mono hq fun e w'' he => ?_
        cases e with
        | returned u => exact h _ _ he
        | panicked c => exact he
        | outgrown => exact absurd he (partQ_lets _ _)
      case row row args => exact Rows.mono hq fun u w'' he => h _ _ he
    | halt x w' =>
      cases x <;> simp only [Oper.upon] at hq ⊢
      case panic u => exact hq
  · rename_i hw
    rw [if_neg hw] at hq
    exact h _ _ hq

/-- one operation's premise -/
def StepOKP (P : Program) (ops : Array Oper) (n : Nat) (F : List PanicEntry → World → Prop) (G : Nat → Value → World → Prop) (C : (Nat → Bool) → (Nat → Value) → World → Prop) (a : Act) (ds : List (Option Tmp)) (i : Nat) (o : Oper) : Prop :=
  ∀ s vs y, s i = false → (∀ j, Region.waitsFor .any ops i j = true → s j = true) → (∀ k, k < n → Region.waitsFor .any ops k i = true → s k = false) → C s vs y → (∀ j, j < n → Region.waitsFor .any ops i j = true → G j (vs j) y) →
    wpList P ops (partQ F fun a' y' => ∃ v, a' = (lexPut (ds.take i) 0 vs a).put o.dst v ∧ C (fun j => if j = i then true else s j) (fun j => if j = i then v else vs j) y' ∧ G i v y' ∧ ∀ j, j < n → j ≠ i → G j (vs j) y → G j (vs j) y') [o] (lexPut (ds.take i) 0 vs a) y

def StepsOKP (P : Program) (ops : Array Oper) (n : Nat) (F : List PanicEntry → World → Prop) (G : Nat → Value → World → Prop) (C : (Nat → Bool) → (Nat → Value) → World → Prop) (a : Act) (ds : List (Option Tmp)) : List Oper → Nat → Prop
  | [], _ => True
  | o :: r, i => StepOKP P ops n F G C a ds i o ∧ StepsOKP P ops n F G C a ds r (i + 1)

theorem StepsOKP.get {n : Nat} {F : List PanicEntry → World → Prop} {G : Nat → Value → World → Prop} {C : (Nat → Bool) → (Nat → Value) → World → Prop} {a : Act} {ds : List (Option Tmp)} : ∀ (l : List Oper) (k : Nat), StepsOKP P ops n F G C a ds l k →
    ∀ i o, l[i]? = some o → StepOKP P ops n F G C a ds (k + i) o
  | [], _, _, i, o, h => by simp at h
  | x :: r, k, hs, i, o, h => by
    cases i with
    | zero =>
      have : x = o := by simpa using h
      subst this
      exact hs.1
    | succ i =>
      have := StepsOKP.get r (k + 1) hs.2 i o (by simpa using h)
      rwa [show k + 1 + i = k + (i + 1) by omega] at this

theorem wp_region_part {id : Nat} {Q : Exit → Act → World → Prop} {a : Act} {w : World} {l : List Oper} (n : Nat) (F : List PanicEntry → World → Prop) (G : Nat → Value → World → Prop) (C : (Nat → Bool) → (Nat → Value) → World → Prop)
    (hm : P.follows .mixedOrders = true) (hB : factsG l.toArray n a.tmps.size = true) (ds : List (Option Tmp)) (hds : ds = (l.take n).map (·.dst)) (hC : C (fun _ => false) (fun _ => undef) w.drew)
    (hF : ∀ ch a' y', a'.defers = a.defers → (∀ t, (∀ j, j < n → dstOf l.toArray j ≠ some t) → a'.tmps[t]? = a.tmps[t]?) → F ch y' → Q (.panic ch) a' y')
    (steps : StepsOKP P l.toArray n F G C a ds (l.take n) 0)
    (tail : ∀ s vs y, (∀ j, j < n → s j = true) → C s vs y → (∀ j, j < n → G j (vs j) y) → wpList P l.toArray Q (l.drop n) (lexPut ds 0 vs a) y) : (Code.region id l.toArray true).wp P Q a w := by
  simp only [factsG, Bool.and_eq_true, decide_eq_true_eq] at hB
  obtain ⟨⟨⟨⟨hsel, hn⟩, hsc⟩, hseq⟩, hall⟩ := hB
  have hnl : n ≤ l.length := by simpa using hn
  have shape : ∀ i, i < n → ∃ o, l.toArray[i]? = some o ∧ (∀ d, o.dst = some d → d < a.tmps.size) ∧ (∀ e ∈ o.after, Region.binds .any e = true → e.on < i) ∧
      (∀ j d', j < n → dstOf l.toArray j = some d' → (d' ∈ o.looksAt l.toArray → Region.waitsFor .any l.toArray i j = true ∧ j < i) ∧ (j ≠ i → o.dst ≠ some d')) := by
    intro i hi
    have h := List.all_eq_true.1 hall i (List.mem_range.2 hi)
    split at h
    · cases h
    · rename_i o ho
      simp only [Bool.and_eq_true] at h
      obtain ⟨⟨h1, h2⟩, h3⟩ := h
      refine ⟨o, ho, fun d hd => ?_, fun e he hb => ?_, fun j d' hj hd' => ?_⟩
      · rw [hd] at h1
        exact of_decide_eq_true h1
      · have := Array.all_eq_true_iff_forall_mem.1 h2 e he
        simp only [Bool.or_eq_true, Bool.not_eq_true', decide_eq_true_eq] at this
        rcases this with h | h
        · rw [hb] at h; cases h
        · exact h
      · have h4 := List.all_eq_true.1 h3 j (List.mem_range.2 hj)
        rw [hd'] at h4
        simp only [Bool.and_eq_true, Bool.or_eq_true, Bool.not_eq_true', decide_eq_true_eq, beq_iff_eq, bne_iff_ne] at h4
        refine ⟨fun hx => ?_, fun hx => ?_⟩
        · rcases h4.1 with h | h
          · have hx' : (o.looksAt l.toArray).contains d' = true := by simpa using hx
            rw [hx'] at h; cases h
          · exact h
        · rcases h4.2 with h | h
          · exact absurd h hx
          · exact h
  have main : ∀ (f : Nat) (listed : Array Bool) (vs : Nat → Value) (y : World), leftOf listed n = f → HeadInv .any l.toArray n listed → C (fun j => listed.getD j false) vs y →
      (∀ j, j < n → listed.getD j false = true → G j (vs j) y) →
      wpAny P .any l.toArray Q (f + (l.toArray.size - n)) listed (actOf l.toArray vs (fun j => listed.getD j false) a n) y := by
    intro f
    induction f with
    | zero =>
      intro listed vs y hf inv hCy hG
      have hdone := leftOf_zero listed n hf
      have hlist : listed = ((List.range l.toArray.size).map (fun j => decide (j < n))).toArray := by
        apply Array.ext
        · rw [inv.size]; simp
        · intro j h1 h2
          have hj : j < l.toArray.size := by rw [← inv.size]; exact h1
          have e1 : listed[j] = listed.getD j false := by simp [h1]
          rw [e1]
          by_cases hjn : j < n
          · rw [hdone j hjn]; simp [hjn]
          · have := getD_both (inv.tail j (by omega) hj)
            rw [this]; simp [hjn]
      have hact : actOf l.toArray vs (fun j => listed.getD j false) a n = lexPut ds 0 vs a := by
        rw [actOf_lex vs _ a n (by omega) hdone, hds]
      rw [Nat.zero_add, hact]
      have hlen : (l.drop n).length = l.toArray.size - n := by simp
      rw [← hlen]
      refine wpAny_of_seq (l.drop n) n listed _ y (fun j => by simp [List.getElem?_drop]) ?_ (tail _ vs y hdone hCy fun j hj => hG j hj (hdone j hj))
      rw [hlen, hlist]; exact hseq
    | succ f ih =>
      intro listed vs y hf inv hCy hG
      have e : f + 1 + (l.toArray.size - n) = (f + (l.toArray.size - n)) + 1 := by omega
      rw [e]
      obtain ⟨i0, hi0, hun0, hlow0⟩ := leftOf_pos listed n f hf
      have hi0s : i0 < listed.size := by rw [inv.size]; omega
      refine ⟨fun hnil => ?_, fun i hir => ?_⟩
      · exfalso
        obtain ⟨o, ho, _, hafter, _⟩ := shape i0 hi0
        have : i0 ∈ Region.ready .any l.toArray listed := mem_ready.2 ⟨getD_in hi0s hun0, o, ho, fun e he hb => hlow0 _ (hafter e he hb)⟩
        rw [hnil] at this
        cases this
      · have hin : i < n := by
          rcases Nat.lt_or_ge i n with h | h
          · exact h
          · obtain ⟨_, oi, hoi, _⟩ := mem_ready.1 hir
            have hil := (Array.getElem?_eq_some_iff.1 hoi).1
            simp only [Bool.or_eq_true, Bool.and_eq_true, decide_eq_true_eq] at hsc
            rcases hsc with hsc | ⟨hs, hc⟩
            · omega
            · exact absurd hir (tail_waits hs hc (by omega) inv _ i0 rfl hi0 (getD_in hi0s hun0) i h)
        obtain ⟨hiun, o', ho', hdeps⟩ := mem_ready.1 hir
        obtain ⟨o, ho, hdsz, hafter, hslots⟩ := shape i hin
        obtain rfl : o' = o := Option.some.inj (ho'.symm.trans ho)
        have hiun' := getD_both hiun
        have hisz : i < listed.size := by rw [inv.size]; omega
        -- what it waits for is done
        have hwait : ∀ j, Region.waitsFor .any l.toArray i j = true → listed.getD j false = true := fun j hj => by
          obtain ⟨oj, hoj, e, he, hb, hon⟩ := Region.waitsFor_spec hj
          obtain rfl : oj = o' := Option.some.inj (hoj.symm.trans ho)
          rw [← hon]
          exact hdeps e he hb
        have hstep := StepsOKP.get (l.take n) 0 steps i o' (by rw [List.getElem?_take, if_pos hin]; simpa using ho)
        rw [Nat.zero_add] at hstep
        have hfacts : ∀ j, j < n → Region.waitsFor .any l.toArray i j = true → G j (vs j) y := fun j hj hwt => hG j hj (hwait j hwt)
        have hnot : ∀ k, k < n → Region.waitsFor .any l.toArray k i = true → listed.getD k false = false := fun k hk hwt => by
          cases hx : listed.getD k false with
          | false => rfl
          | true =>
            obtain ⟨ok, hok, e, he, hb, hon⟩ := Region.waitsFor_spec hwt
            have hks : k < listed.size := by rw [inv.size]; exact (Array.getElem?_eq_some_iff.1 hok).1
            have := inv.closed k ok hok hx e he hb
            rw [hon, hiun'] at this
            cases this
        have hst := hstep (fun j => listed.getD j false) vs y hiun' hwait hnot hCy hfacts
        have hlexi : lexPut (ds.take i) 0 vs a = actOf l.toArray vs (fun j => decide (j < i)) a n := by
          have : n = i + (n - i) := by omega
          rw [this, actOf_more vs _ a i (n - i) (fun j hj => by simp; omega), actOf_lex vs _ a i (by omega) (fun j hj => by simp [hj]), hds, ← List.map_take, List.take_take, Nat.min_eq_left (by omega)]
        have hslot : ∀ t, t ∈ o'.looksAt l.toArray → (actOf l.toArray vs (fun j => listed.getD j false) a n).tmps[t]? = (lexPut (ds.take i) 0 vs a).tmps[t]? := fun t ht => by
          rw [hlexi]
          refine actOf_slot vs vs _ _ a t n fun j hj hdj => ⟨?_, fun _ => rfl⟩
          obtain ⟨h1, h2⟩ := (hslots j t hj hdj).1 ht
          rw [hwait j h1]; simp [h2]
        have hsel' := fun cs b => Region.noSelect_spec hsel i o' cs b ho
        refine wpOp_of_part (F := F) (fun ch y' hf => hF ch _ y' (actOf_defers _ _ _ n) (fun t ht => actOf_keep _ _ _ t n ht) hf) (R := fun v y' => C (fun j => if j = i then true else listed.getD j false) (fun j => if j = i then v else vs j) y' ∧ G i v y' ∧ ∀ j, j < n → j ≠ i → G j (vs j) y → G j (vs j) y') ho (execOp_slots o' hsel' _ _ hslot) (wanted_slots o' _ _ hslot) (by rw [hlexi, actOf_size]; exact hdsz) ?_ ?_
        · exact hst
        · intro v y' ⟨hC', hGi, hrest⟩
          have hset : ∀ j, (listed.setIfInBounds i true).getD j false = if j = i then true else listed.getD j false := fun j => by
            by_cases e : j = i
            · subst e; rw [if_pos rfl]; simp [hisz]
            · rw [if_neg e, getD_set_ne false (Ne.symm e)]
          have hact := actOf_set (ops := l.toArray) vs (fun j => listed.getD j false) (fun j => (listed.setIfInBounds i true).getD j false) a i v hiun' hset (fun j => if j = i then v else vs j) (fun _ => rfl) n hin
            (fun j hj hne d' hd' hdj => by
              have := (hslots j d' hj hdj).2 hne
              have e1 : dstOf l.toArray i = o'.dst := by simp [dstOf, ho]
              rw [e1] at hd'
              exact this hd')
          have e1 : dstOf l.toArray i = o'.dst := by simp [dstOf, ho]
          rw [e1] at hact
          rw [← hact]
          refine ih _ _ y' ?_ (inv.set hir hin) (by rw [show (fun j => (listed.setIfInBounds i true).getD j false) = (fun j => if j = i then true else listed.getD j false) from funext hset]; exact hC') ?_
          · have := (leftOf_set listed i hisz hiun' n).1 hin
            omega
          · intro j hj hjl
            by_cases e : j = i
            · subst e; simpa using hGi
            · simp only [if_neg e]
              rw [hset j, if_neg e] at hjl
              exact hrest j hj e (hG j hj hjl)
  refine wp_region_any hm ?_
  have inv : HeadInv .any l.toArray n (Array.replicate l.toArray.size false) :=
    ⟨by simp, fun j oj _ hl => (by rw [getD_replicate_false] at hl; cases hl), fun t _ ht => getD_in (by simpa using ht) (getD_replicate_false _ _)⟩
  have hleft : ∀ m, leftOf (Array.replicate l.toArray.size false) m = m := by
    intro m
    induction m with
    | zero => rfl
    | succ m ih => rw [leftOf, ih, getD_replicate_false]; rfl
  have := main n (Array.replicate l.toArray.size false) (fun _ => undef) w.drew (hleft n) inv (by rw [show (fun j => (Array.replicate l.toArray.size false).getD j false) = (fun _ => false) from funext fun j => getD_replicate_false _ _]; exact hC) fun j _ hl => (by rw [getD_replicate_false] at hl; cases hl)
  rw [actOf_none _ _ a n fun j _ => getD_replicate_false _ _, show n + (l.toArray.size - n) = l.toArray.size by omega] at this
  exact this

def StepOKF (P : Program) (ops : Array Oper) (n : Nat) (F : List PanicEntry → World → Prop) (ws : List Nat) (gs : List (Value → World → Prop)) (D : List Bool → (Nat → Value) → World → Prop) (a : Act) (ds : List (Option Tmp)) (i : Nat) (o : Oper) : Prop :=
  ∀ s vs y, s i = false → (∀ j, Region.waitsFor .any ops i j = true → s j = true) → (∀ k, k < n → Region.waitsFor .any ops k i = true → s k = false) → D (ws.map s) vs y →
    (∀ j, j < n → Region.waitsFor .any ops i j = true → Facts gs j (vs j) y) →
    wpList P ops (partQ F fun a' y' => ∃ v, a' = (lexPut (ds.take i) 0 vs a).put o.dst v ∧ Facts gs i v y' ∧
      (if ws.contains i = true then D (ws.map fun j => if j = i then true else s j) (fun j => if j = i then v else vs j) y' ∧ ∀ j, j < n → j ≠ i → Facts gs j (vs j) y → Facts gs j (vs j) y' else Below y.heap.size y y')) [o] (lexPut (ds.take i) 0 vs a) y

def StepsOKF (P : Program) (ops : Array Oper) (n : Nat) (F : List PanicEntry → World → Prop) (ws : List Nat) (gs : List (Value → World → Prop)) (D : List Bool → (Nat → Value) → World → Prop) (a : Act) (ds : List (Option Tmp)) : List Oper → Nat → Prop
  | [], _ => True
  | o :: r, i => StepOKF P ops n F ws gs D a ds i o ∧ StepsOKF P ops n F ws gs D a ds r (i + 1)

theorem steps_ofF {ops : Array Oper} {n : Nat} {F : List PanicEntry → World → Prop} {ws : List Nat} {gs : List (Value → World → Prop)} {D : List Bool → (Nat → Value) → World → Prop} {a : Act} {ds : List (Option Tmp)} (hk : ∀ g ∈ gs, Keeps g)
    (hD : ∀ bs vs vs' (y y' : World), (∀ k ∈ ws, vs' k = vs k) → Below y.heap.size y y' → D bs vs y → D bs vs' y') :
    ∀ (l : List Oper) (i : Nat), StepsOKF P ops n F ws gs D a ds l i → StepsOKP P ops n F (Facts gs) (fun s vs => D (ws.map s) vs) a ds l i
  | [], _, _ => trivial
  | _o :: r, i, h => ⟨fun s vs y h1 h2 h3 hy hd => wpList_part_mono (fun _ y' ⟨v, e, hg, hx⟩ => by
      refine ⟨v, e, ?_, hg, ?_⟩
      · by_cases e : ws.contains i = true
        · rw [if_pos e] at hx
          exact hx.1
        · rw [if_neg e] at hx
          have hne : ∀ j ∈ ws, j ≠ i := fun j hj ej => e (by subst ej; simpa using hj)
          have : (ws.map fun j => if j = i then true else s j) = ws.map s := List.map_congr_left fun j hj => if_neg (hne j hj)
          show D _ _ y'
          rw [this]
          exact hD _ _ _ _ _ (fun k hk => if_neg (hne k hk)) hx hy
      · intro j hj hne hfj
        by_cases e : ws.contains i = true
        · rw [if_pos e] at hx
          exact hx.2 j hj hne hfj
        · rw [if_neg e] at hx
          exact keeps_of hk j _ _ _ hx hfj) (h.1 s vs y h1 h2 h3 hy hd), steps_ofF hk hD r (i + 1) h.2⟩

/-- a region that draws: of its head the operations ws alone may write, or yield what the invariant looks at -/
theorem wp_region_fails {id : Nat} {Q : Exit → Act → World → Prop} {a : Act} {w : World} {l : List Oper} (n : Nat) (F : List PanicEntry → World → Prop) (ws : List Nat) (gs : List (Value → World → Prop)) (D : List Bool → (Nat → Value) → World → Prop) (ds : List (Option Tmp))
    (hm : P.follows .mixedOrders = true) (hB : factsG l.toArray n a.tmps.size = true) (hds : ds = (l.take n).map (·.dst)) (hk : ∀ g ∈ gs, Keeps g) (hw : D (ws.map fun _ => false) (fun _ => undef) w.drew)
    (hD : ∀ bs vs vs' (y y' : World), (∀ k ∈ ws, vs' k = vs k) → Below y.heap.size y y' → D bs vs y → D bs vs' y') (hws : ∀ i ∈ ws, i < n) (hF : ∀ ch a' y', a'.defers = a.defers → (∀ t, (∀ j, j < n → dstOf l.toArray j ≠ some t) → a'.tmps[t]? = a.tmps[t]?) → F ch y' → Q (.panic ch) a' y')
    (steps : StepsOKF P l.toArray n F ws gs D a ds (l.take n) 0)
    (tail : ∀ vs y, D (ws.map fun _ => true) vs y → (∀ j, j < n → Facts gs j (vs j) y) → wpList P l.toArray Q (l.drop n) (lexPut ds 0 vs a) y) : (Code.region id l.toArray true).wp P Q a w :=
  wp_region_part n F (Facts gs) (fun s vs => D (ws.map s) vs) hm hB ds hds hw hF (steps_ofF hk hD _ _ steps) fun s vs y hs hy hg => tail vs y (by
    have : (ws.map fun _ => true) = ws.map s := List.map_congr_left fun j hj => (hs j (hws j hj)).symm
    rw [this]
    exact hy) hg

end
end Go.Proofs.YtjcaejdokillgaaDoor
