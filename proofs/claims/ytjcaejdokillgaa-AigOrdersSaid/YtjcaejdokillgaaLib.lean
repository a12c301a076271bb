/- Laws of no program that my walks use: append to a slice that the call owns. -/
import Derived.Test.YtjcaejdokillgaaRows
import Derived.WalkKit
import Derived.WalkSpells
import Derived.WalkLawsBesides
import Derived.Lib.Hide
import Derived.Deep.LoopGhost
import Derived.Shelf.Abstract
import Derived.Deep.QuietTactic
import Derived.BigQuiet
namespace Go.Proofs.Ytjcaejdokillgaa
open Go.RowKit

theorem Below.of {w w1 w2 : World} (h : Below w.heap.size w w1) (k : Below w1.heap.size w1 w2) : Below w.heap.size w w2 := h.trans (k.mono h.size)

theorem grownBy_drew {w w' : World} {r : Option Nat} (h : w.grownBy w' r) : w.grownBy w'.drew r := ⟨h.os, h.tape, h.output, h.size, h.block⟩

theorem mk_get (l : List UInt8) (i : Nat) (h : i < (ByteArray.mk l.toArray).size) : (ByteArray.mk l.toArray)[i]'h = l[i]'h := rfl

theorem past1 {w : World} {p : Addr} {v : Value} (h : w.cell? p = some v) : ∀ o, (w.alloc o).cell? p = some v := fun o =>
  ((Below.refl w.heap.size w).alloc (Nat.le_refl _) o).cell (World.block_lt_of_cell? w p h) |>.trans h
theorem past2 {w : World} {p : Addr} {v : Value} (h : w.cell? p = some v) : ∀ o o', ((w.alloc o).alloc o').cell? p = some v := fun o o' => past1 (past1 h o) o'
theorem past3 {w : World} {p : Addr} {v : Value} (h : w.cell? p = some v) : ∀ o o' o'', (((w.alloc o).alloc o').alloc o'').cell? p = some v := fun o o' o'' => past1 (past2 h o o') o''

/-- a world in which all that lay in w lies as it was -/
structure Later (w : World) where
  at_ : World
  below : Below w.heap.size w at_

instance (w : World) : Nonempty (Later w) := ⟨⟨w, Below.refl _ _⟩⟩

theorem below1 {w w1 : World} {o : Obj} (h : Below (w.alloc o).heap.size (w.alloc o) w1) : Below w.heap.size w w1 := Below.of ((Below.refl _ _).alloc (Nat.le_refl _) _) h

def Later.now (w : World) : Later w := ⟨w, Below.refl _ _⟩
def Later.drew (w : World) : Later w := ⟨w.drew, (Below.refl _ _).drew⟩
def Later.next {w : World} (x : Later w) {w' : World} (h : Below x.at_.heap.size x.at_ w') : Later w := ⟨w', Below.of x.below h⟩

theorem Later.cell {w : World} {p : Addr} {v : Value} (x : Later w) (h : w.cell? p = some v) : x.at_.cell? p = some v :=
  (x.below.cell (World.block_lt_of_cell? w p h)).trans h

/-- A region that draws its order, whose operations read, and whose callees make memory alone: one walk in the order of the text. -/
theorem wp_region_later {P : Program} {id : Nat} {Q : Exit → Act → World → Prop} {a : Act} {w : World} {l : List Oper} (hm : P.follows .mixedOrders = true) (hB : Region.lexB .any l.toArray = true)
    (h : wpQuiet P l.toArray (fun w' => ∃ x : Later w, w' = x.at_) (fun a' => ∀ w', (∃ x : Later w, w' = x.at_) → Q .normal a' w') l a) : (Code.region id l.toArray true).wp P Q a w :=
  wp_region_quiet (C := fun w' => ∃ x : Later w, w' = x.at_) hm hB ⟨Later.drew w, rfl⟩ (by simpa using h)

/-- a callee's contract, met in such a region -/
theorem Calls.later {P : Program} {f : FuncId} {args : Array Value} {w : World} {x : Later w} {v : Value}
    (h : Calls P f args x.at_ fun e w' => e = .returned v ∧ Below x.at_.heap.size x.at_ w') : Calls P f args x.at_ fun e w' => e = .returned v ∧ ∃ y : Later w, w' = y.at_ :=
  h.mono fun _ _ ⟨he, hb⟩ => ⟨he, x.next hb, rfl⟩

theorem Calls.later_same {P : Program} {f : FuncId} {args : Array Value} {w : World} {x : Later w} {v : Value}
    (h : Calls P f args x.at_ fun e w' => e = .returned v ∧ x.at_ = w') : Calls P f args x.at_ fun e w' => e = .returned v ∧ ∃ y : Later w, w' = y.at_ :=
  h.mono fun _ _ ⟨he, hb⟩ => ⟨he, x, hb.symm⟩

/-- 'append(out, x, ..)': what is appended lies in a new block; out is the call's own -/
theorem app_new {P : Program} {ops : Array Oper} {rest : List Oper} {o : Oper} {a : Act} {Q : Exit → Act → World → Prop} {w : World} (hgd : o.guard = none) (s x : Operand) (t : TypeId)
    (ho : o.op = .call { callee := .builtin .append, args := #[s, x], argTypes := #[t, t] }) (e : TypeId) (k bytes : Nat) (z : Value) (ht : P.underlying t = some (.slice e))
    (hinfo : (P.info? e).map (fun i => (i.zero, i.size, i.bytes)) = some (some z, k, bytes)) (hzk : z.cells.size = k) (hk0 : 0 < k)
    {B0 : Nat} {w0 : World} {B : Nat} {v : Value} {n : Nat} {xs : List Value} (hs : a.eval s = v) (hown : w.ownsRow B e k v n xs) (hb : Below B0 w0 w) (hB : B0 ≤ B) (hBw : B ≤ w.heap.size)
    (cs : Array Value) (m c : Nat) (hcs : cs.size = m * k) (h1 : ∀ u ∈ cs.toList, u.oneCell' = true) (hx : a.eval x = .slice (some ⟨w.heap.size, 0, none⟩) m c)
    (hmax : n + m ≤ 9223372036854775807) (hroom : (n + m) * bytes ≤ 140737488355328)
    (h : ∀ v' w', w'.ownsRow B e k v' (n + m) (xs ++ cs.toList) → Below B0 w0 w' → B ≤ w'.heap.size → (w.alloc (.cells cs e)).grownBy w' v.ownBlock → wpList P ops Q rest (a.put o.dst v') w') :
    wpList P ops Q (o :: rest) a (w.alloc (.cells cs e)) := by
  obtain ⟨i, hi, hz0, hz1, hz2⟩ := info_parts hinfo
  refine wpList_append_own _ hgd s x t ho B e i z k bytes ht hi hz0 hz1 hz2 hzk hk0 v n xs hs (hown.alloc _) ⟨w.heap.size, 0, none⟩ m c cs.toList hx (by simpa using hcs) ?_ h1 hmax hroom (by simp; omega) ?_
  · intro j u hj
    rw [show ((⟨w.heap.size, 0, none⟩ : Addr).add j) = ⟨w.heap.size, j, none⟩ from by unfold Addr.add; split <;> simp_all]
    rw [World.cell?_alloc_mark]
    simpa using hj
  · intro v' w' hown' hgr _
    refine h v' w' hown' ?_ ?_ hgr
    · refine (hb.alloc (by omega) _).grown hgr (by simp; omega) fun j hj => ?_
      have := (hown.lt j hj).1
      omega
    · have := hgr.size
      simp at this
      omega

theorem owns_some {w : World} {B : Nat} {e : TypeId} {k : Nat} {v : Value} {n : Nat} {xs : List Value} (h : w.ownsRow B e k v n xs) (hn : 0 < n) :
    ∃ g cap, v = .slice (some ⟨g, 0, none⟩) n cap ∧ B ≤ g ∧ g < w.heap.size ∧ n ≤ cap := by
  rcases h.2 with ⟨_, h0⟩ | ⟨g, cap, cur, rfl, hb, hg, hc, _⟩
  · omega
  · exact ⟨g, cap, rfl, hb, (Array.getElem?_eq_some_iff.1 hg).1, hc⟩

/-- what lies beside an owned slice stays where that slice is appended to -/
theorem beside {w w' W : World} {B : Nat} {e : TypeId} {k : Nat} {v : Value} {n : Nat} {xs : List Value} (hown : w.ownsRow B e k v n xs) (hgr : W.grownBy w' v.ownBlock) {p : Addr} {u : Value} (h : W.cell? p = some u) (hp : w.heap.size ≤ p.block) : w'.cell? p = some u :=
  hgr.cell h fun e => by have := (hown.lt p.block e.symm).2; omega

/-- 'string(b)' of octets that the call owns -/
theorem conv_back {P : Program} {w : World} {B : Nat} {e : TypeId} {g cap : Nat} {l : List UInt8} (src dst : TypeId) (hs : P.underlying src = some (.slice e)) (he : P.underlying e = some (.int .u8)) (hd : P.underlying dst = some .string)
    (n : Nat) (hn : l.length = n) (h : w.ownsRow B e 1 (.slice (some ⟨g, 0, none⟩) n cap) n (l.map fun c => Value.int .u8 (c.toNat : Int))) :
    (convert src dst (.slice (some ⟨g, 0, none⟩) n cap)).run P w = .ok (.string ⟨l.toArray⟩) w := by
  subst hn
  refine run_convert_bytes_back w src dst e ⟨g, 0, none⟩ cap l hs he hd fun j hj => ?_
  rw [show ((⟨g, 0, none⟩ : Addr).add j) = ⟨g, j, none⟩ from by unfold Addr.add; split <;> simp_all]
  rw [h.cellAt j (by omega), List.getElem?_map, List.getElem?_eq_getElem hj]
  rfl

end Go.Proofs.Ytjcaejdokillgaa
