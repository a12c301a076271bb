/- Contracts: the reader of lines: so many gates, a line each. -/
import Derived.Test.YtjcaejdokillgaaDoorZJ1
import Derived.Test.YtjcaejdokillgaaDoorZP3
import Derived.Test.YtjcaejdokillgaaDoorZL1
import Derived.BigQuiet
namespace Go.Proofs.YtjcaejdokillgaaDoor
open Go.RowKit Go.Shelf
attribute [local simp] mk_get

theorem own_ge {w : World} {B : Nat} {e : TypeId} {k n : Nat} {v : Value} {xs : List Value} (h : w.ownsRow B e k v n xs) : ∀ j, v.ownBlock = some j → B ≤ j := by
  intro j hj
  obtain ⟨_, ⟨rfl, _⟩ | ⟨g', c', cur, rfl, hB, _⟩⟩ := h
  · cases hj
  · have : g' = j := by simpa [Value.ownBlock] using hj
    omega

/-- a row of the call's own is written: the reader's variable stays -/
theorem app_reader {T e : TypeId} {W a b : World} {r k n : Nat} {v : Value} {xs cs : List Value} {o : Obj} (hg : W.grownBy a (some r)) (hown : a.ownsRow W.heap.size e k v n xs) (hgr : (a.alloc o).grownBy b v.ownBlock) (hR : RowL T a r cs) (hne : e ≠ T) :
    W.grownBy b (some r) ∧ RowL T b r cs := by
  have ha : Below a.heap.size a (a.alloc o) := (Below.refl _ _).alloc (Nat.le_refl _) _
  have hR' := hR.mono ha
  have ho' := hown.alloc o
  exact ⟨grownBy_two (grownBy_below hg ha) hgr fun j hj => .inl (own_ge hown j hj), hR'.grown hgr (hR'.other ho' hne)⟩

theorem app_reader' {T e : TypeId} {W a b : World} {r k n : Nat} {v : Value} {xs cs : List Value} (hg : W.grownBy a (some r)) (hown : a.ownsRow W.heap.size e k v n xs) (hgr : a.grownBy b v.ownBlock) (hR : RowL T a r cs) (hne : e ≠ T) :
    W.grownBy b (some r) ∧ RowL T b r cs :=
  ⟨grownBy_two hg hgr fun j hj => .inl (own_ge hown j hj), hR.grown hgr (hR.other hown hne)⟩

theorem NumsTo.some {ahead : List UInt8} {a b r : Nat} {s : List UInt8} {at_ : Int} {w w' : World} {e : Ending} (h : NumsTo ahead a b r s at_ w e w') {l : List Int} {q : List UInt8} (hl : PR.lineN ahead a b s = .some (l, q)) :
    ∃ v, e = .returned v ∧ OwnI w' w.heap.size v l ∧ Rd w' r q (at_ + 1) ∧ w.grownBy w' (.some r) := by
  obtain ⟨hg, ⟨l', q', v, h1, rfl, h2, h3⟩ | ⟨h1, _⟩⟩ := h
  · rw [hl] at h1
    obtain ⟨rfl, rfl⟩ := Prod.mk.inj (Option.some.inj h1)
    exact ⟨v, rfl, h2, h3, hg⟩
  · rw [hl] at h1; cases h1
theorem NumsTo.none {ahead : List UInt8} {a b r : Nat} {s : List UInt8} {at_ : Int} {w w' : World} {e : Ending} (h : NumsTo ahead a b r s at_ w e w') (hl : PR.lineN ahead a b s = .none) :
    ∃ v, e = .panicked [{ v := v, recovered := false }] ∧ fltV v ∧ w.grownBy w' (.some r) := by
  obtain ⟨hg, ⟨l', q', v, h1, _⟩ | ⟨_, v, hv, rfl⟩⟩ := h
  · rw [hl] at h1; cases h1
  · exact ⟨v, rfl, hv, hg⟩

theorem OwnI.one {w : World} {B : Nat} {v : Value} {y : Int} (h : OwnI w B v [y]) : ∃ g o c, v = .slice (some ⟨g, o, none⟩) 1 c ∧ w.cell? ⟨g, o, none⟩ = some (.int .i64 y) ∧ g < w.heap.size := by
  obtain ⟨ao, cap, e, _, _, h3⟩ := h.ints.open_
  obtain ⟨b, o, rfl, hb, _, hc⟩ := h3 0 (by simp)
  exact ⟨b, o, cap, e, by simpa using hc, hb⟩

/-- what so many lines leave -/
def ListTo {α : Type} (f : Nat → List Int → Option α) (a b n : Nat) (Own : World → Nat → Value → List α → Prop) (r : Nat) (s : List UInt8) (at_ : Int) (w : World) (e : Ending) (w' : World) : Prop :=
  w.grownBy w' (some r) ∧ ((∃ l q v, PR.many f a b 0 n s = some (l, q) ∧ e = .returned v ∧ Own w' w.heap.size v l ∧ Rd w' r q (at_ + n) ∧ q.length + n ≤ s.length) ∨ (PR.many f a b 0 n s = none ∧ flt e))

set_option maxRecDepth 100000 in
set_option maxHeartbeats 4000000 in
theorem jList_any (n r : Nat) (s : List UInt8) (at_ m : Int) (w : World) (h : Rd w r s at_) (hs : s.length ≤ 65536) (hm : w.cell? ⟨0, 0, none⟩ = some (.int .i64 m)) (hr0 : r ≠ 0) (hat : 0 ≤ at_ ∧ at_ + s.length ≤ 1000000) (hn : n ≤ 1099511627776) :
    Calls Tryd.prog 33 #[.pointer (some ⟨r, 0, none⟩), .int .i64 n] w fun e w' => ListTo PJ.oneF 1 1 n OwnI r s at_ w e w' := by
  obtain ⟨ha1, ha2⟩ := hat
  have HR := Lib.hid h
  have HM := Lib.hid hm
  have HS := Lib.hid hs
  have HA := Lib.hid ha2
  clear h hm hs ha2
  go_enter Tryd.func33, Tryd.ntmps33
  go_wp2_with fail
  go_loopg [5, 7] n (fun gg s5 s7 wr => ∃ (k : Nat) (sk : List UInt8) (lk : List Int), n - k ≤ gg ∧ k ≤ n ∧ s7 = .int .i64 k ∧ Hid (w.grownBy wr (some r)) ∧ Hid (Rd wr r sk (at_ + k)) ∧ Hid (PR.ManyAt PJ.oneF 1 1 n s k sk lk) ∧ Aside (OwnI wr w.heap.size s5 lk))
  case atStart => exact ⟨0, s, [], by omega, Nat.zero_le _, rfl, World.grownBy.refl _ _, (by show Rd _ _ _ _; have := HR.out; simpa using this), PR.ManyAt.zero, World.ownsRow_nil _ _ _ _, fun x hx => by cases hx⟩
  case round =>
    obtain ⟨k, sk, lk, hg, hk, rfl, hgr, hRk, hMA, hown⟩ := hrel
    have hmk := Lib.hid (grownBy_cell hgr.out HM.out (Ne.symm hr0))
    have hskl := hMA.out.2.2.1
    have hlk : lk.length = k := hMA.out.2.1
    have HS' := HS.out
    have HA' := HA.out
    have hkk : k ≤ 65536 := by omega
    have hN := Lib.hid (jNumbers_any 1 1 r sk (at_ + k) m wr hRk.out (by omega) hmk.out hr0 (by omega) (by omega))
    by_cases hlt : k < n
    · have hltz : (k : Int) < (n : Int) := by omega
      have hmea : Hid (∀ g : Nat, n - k ≤ g → n - (k + 1) < g) := fun g h => by omega
      have HG := Lib.hid hg
      clear hg HS' HA'
      cases hl : PR.lineN [] 1 1 sk with
      | none =>
        have hno := Lib.hid (hMA.out.no1 hlt hl)
        have hN2 := Lib.hid (hN.out.mono fun e w' hh => NumsTo.none hh hl)
        clear hN hl
        go_wp2_with (go_at_call 74; refine hN2.out.mono ?_; rintro e w1 ⟨v, rfl, hv, hg1⟩)
        exact ⟨rfl, grownBy_two hgr.out hg1 (fun j e => .inr (Option.some.inj e).symm), .inr ⟨hno.out, v, hv, rfl⟩⟩
      | some x =>
        obtain ⟨ns, q⟩ := x
        obtain ⟨y, rfl, hy0, hy1⟩ := PR.line1 hl
        have hMA1 := Lib.hid (hMA.out.next hlt hl (x := y) rfl)
        have hN2 := Lib.hid (hN.out.mono fun e w' hh => NumsTo.some hh hl)
        clear hN hl
        go_wp2_with (first | (go_at_call 74; refine hN2.out.mono ?_; rintro e w1 ⟨v, rfl, hv, hR1, hg1⟩; obtain ⟨g1, o1, c1, rfl, hc1, hgs1⟩ := hv.one; have hR1 := Lib.hid hR1; have hgg1 := Lib.hid (grownBy_two hgr.out hg1 (fun j e => .inr (Option.some.inj e).symm)); have hown1 := Lib.hid (owns_other hown.out.1 hg1 hRk.out (by decide)); have HV := Lib.hid hv; clear hg1 hv) | (at_builtin; refine app_new rfl _ _ 22 rfl 3 1 8 _ Tryd.underlying22 infoI' rfl (by decide) (w0 := w1) (B0 := 0) rfl hown1.out (Below.refl 0 w1) (Nat.zero_le _) hgg1.out.size _ 1 1 rfl (by intro u hu; simp at hu; subst hu; rfl) rfl (by omega) (by omega) ?_; intro v4 w4 hown4 hb4 hbs4 hgr4))
        obtain ⟨hgg4, hR4⟩ := app_reader hgg1.out hown1.out hgr4 hR1.out (by decide)
        go_roundg (n - (k + 1))
        case measure => exact hmea.out _ HG.out
        case rel =>
          refine ⟨k + 1, q, lk ++ [y], Nat.le_refl _, hlt, by go_num, hgg4, ?_, hMA1.out, ?_, ?_⟩
          · have : at_ + ((k + 1 : Nat) : Int) = at_ + k + 1 := by omega
            rw [this]
            exact hR4
          · have e1 : (lk ++ [y]).length = lk.length + 1 := by simp
            rw [e1, List.map_append]
            exact hown4
          · intro z hz
            rcases List.mem_append.1 hz with hz | hz
            · exact hown.out.2 z hz
            · rw [List.mem_singleton.1 hz]
              unfold rng
              omega
    · have hltz : ¬ (k : Int) < (n : Int) := by omega
      have hdone := Lib.hid (hMA.out.done hlt)
      obtain rfl : k = n := by omega
      clear hN
      go_wp2_with fail
      go_ret
      exact ⟨hgr.out, .inl ⟨lk, sk, _, hdone.out, rfl, hown.out, hRk.out, hskl⟩⟩

end Go.Proofs.YtjcaejdokillgaaDoor

namespace Go.Proofs.YtjcaejdokillgaaDoor
open Go.RowKit Go.Shelf
attribute [local simp] mk_get

theorem infoLatJ : (Tryd.prog.info? 64).map (fun i => (i.zero, i.size, i.bytes)) = some (some (.agg #[.int .i64 0, .int .i64 0, .int .i64 0]), 3, 24) := by kernel_rfl
theorem infoGatJ : (Tryd.prog.info? 66).map (fun i => (i.zero, i.size, i.bytes)) = some (some (.agg #[.int .i64 0, .int .i64 0, .int .i64 0]), 3, 24) := by kernel_rfl

theorem RowL.cells1 {T : TypeId} {w : World} {u : Nat} {x y z : Value} (h : RowL T w u [x, y, z]) : Cells w 3 (.slice (some ⟨u, 0, none⟩) 1 1) 1 [x, y, z] := by
  refine ⟨_, _, rfl, Nat.le_refl _, by omega, (fun h => by cases h), rfl, fun j hj => ⟨u, 0, rfl, h.lt, ?_⟩⟩
  rw [Nat.zero_add]
  exact h.cell j _ (by rw [List.getElem?_eq_getElem hj])

def OwnG (w : World) (B : Nat) (v : Value) (l : List PC.Gat) : Prop := w.ownsRow B 66 3 v l.length (l.flatMap gatCells) ∧ ∀ x ∈ l, rng x.lit ∧ rng x.left ∧ rng x.right
def OwnL (w : World) (B : Nat) (v : Value) (l : List PC.Lat) : Prop := w.ownsRow B 64 3 v l.length (l.flatMap latCells) ∧ ∀ x ∈ l, rng x.lit ∧ rng x.next ∧ rng x.reset

theorem OwnI.two {w : World} {B : Nat} {v : Value} {x y : Int} (h : OwnI w B v [x, y]) : ∃ g o c, v = .slice (some ⟨g, o, none⟩) 2 c ∧ w.cell? ⟨g, o, none⟩ = some (.int .i64 x) ∧ w.cell? ⟨g, o + 1, none⟩ = some (.int .i64 y) ∧ g < w.heap.size := by
  obtain ⟨ao, cap, e, _, _, h3⟩ := h.ints.open_
  obtain ⟨b, o, rfl, hb, _, hc⟩ := h3 0 (by simp)
  obtain ⟨b', o', e', _, _, hc'⟩ := h3 1 (by simp)
  cases e'
  exact ⟨b, o, cap, e, by simpa using hc, by simpa using hc', hb⟩
theorem OwnI.three {w : World} {B : Nat} {v : Value} {x y z : Int} (h : OwnI w B v [x, y, z]) : ∃ g o c, v = .slice (some ⟨g, o, none⟩) 3 c ∧ w.cell? ⟨g, o, none⟩ = some (.int .i64 x) ∧ w.cell? ⟨g, o + 1, none⟩ = some (.int .i64 y) ∧ w.cell? ⟨g, o + 2, none⟩ = some (.int .i64 z) ∧ g < w.heap.size := by
  obtain ⟨ao, cap, e, _, _, h3⟩ := h.ints.open_
  obtain ⟨b, o, rfl, hb, _, hc⟩ := h3 0 (by simp)
  obtain ⟨b', o', e', _, _, hc'⟩ := h3 1 (by simp)
  cases e'
  obtain ⟨b', o', e', _, _, hc2⟩ := h3 2 (by simp)
  cases e'
  exact ⟨b, o, cap, e, by simpa using hc, by simpa using hc', by simpa using hc2, hb⟩

set_option maxRecDepth 100000 in
set_option maxHeartbeats 4000000 in
theorem jAnds_any (n r : Nat) (s : List UInt8) (at_ m : Int) (w : World) (h : Rd w r s at_) (hs : s.length ≤ 65536) (hm : w.cell? ⟨0, 0, none⟩ = some (.int .i64 m)) (hr0 : r ≠ 0) (hat : 0 ≤ at_ ∧ at_ + s.length ≤ 1000000) (hn : n ≤ 1099511627776) :
    Calls Tryd.prog 35 #[.pointer (some ⟨r, 0, none⟩), .int .i64 n] w fun e w' => ListTo PJ.gatF 3 3 n OwnG r s at_ w e w' := by
  obtain ⟨ha1, ha2⟩ := hat
  have HR := Lib.hid h
  have HM := Lib.hid hm
  have HS := Lib.hid hs
  have HA := Lib.hid ha2
  clear h hm hs ha2
  go_enter Tryd.func35, Tryd.ntmps35
  go_wp2_with fail
  go_loopg [5, 8] n (fun gg s5 s8 wr => ∃ (k : Nat) (sk : List UInt8) (lk : List PC.Gat) (v5 : Value), n - k ≤ gg ∧ k ≤ n ∧ v5 = s5 ∧ s8 = .int .i64 k ∧ Hid (w.grownBy wr (some r)) ∧ Hid (Rd wr r sk (at_ + k)) ∧ Hid (PR.ManyAt PJ.gatF 3 3 n s k sk lk) ∧ Aside (OwnG wr w.heap.size v5 lk))
  case atStart => exact ⟨0, s, [], _, by omega, Nat.zero_le _, rfl, rfl, World.grownBy.refl _ _, (by show Rd _ _ _ _; have := HR.out; simpa using this), PR.ManyAt.zero, World.ownsRow_nil _ _ _ _, fun x hx => by cases hx⟩
  case round =>
    obtain ⟨k, sk, lk, v5, hg, hk, rfl, rfl, hgr, hRk, hMA, hown⟩ := hrel
    have hmk := Lib.hid (grownBy_cell hgr.out HM.out (Ne.symm hr0))
    have hskl := hMA.out.2.2.1
    have hlk : lk.length = k := hMA.out.2.1
    have HS' := HS.out
    have HA' := HA.out
    have hkk : k ≤ 65536 := by omega
    have hN := Lib.hid (jNumbers_any 3 3 r sk (at_ + k) m wr hRk.out (by omega) hmk.out hr0 (by omega) (by omega))
    by_cases hlt : k < n
    · have hltz : (k : Int) < (n : Int) := by omega
      have hmea : Hid (∀ g : Nat, n - k ≤ g → n - (k + 1) < g) := fun g h => by omega
      have HG := Lib.hid hg
      clear hg HS' HA'
      cases hl : PR.lineN [] 3 3 sk with
      | none =>
        have hno := Lib.hid (hMA.out.no1 hlt hl)
        have hN2 := Lib.hid (hN.out.mono fun e w' hh => NumsTo.none hh hl)
        clear hN hl
        go_wp2_with (go_at_call 74; refine hN2.out.mono ?_; rintro e w1 ⟨v, rfl, hv, hg1⟩)
        exact ⟨rfl, grownBy_two hgr.out hg1 (fun j e => .inr (Option.some.inj e).symm), .inr ⟨hno.out, v, hv, rfl⟩⟩
      | some x =>
        obtain ⟨ns, q⟩ := x
        obtain ⟨x, y, z, rfl, hx, hy, hz⟩ := PR.line3 hl
        have hMA1 := Lib.hid (hMA.out.next hlt hl (x := ⟨x, y, z⟩) rfl)
        have hN2 := Lib.hid (hN.out.mono fun e w' hh => NumsTo.some hh hl)
        have hrn : Hid (rng x ∧ rng y ∧ rng z) := by
          show _ ∧ _
          unfold rng
          omega
        clear hN hl hx hy hz
        go_wp2_with (go_at_call 74; refine hN2.out.mono ?_; rintro e w1 ⟨v, rfl, hv, hR1, hg1⟩; obtain ⟨g1, o1, c1, rfl, hc1, hc2, hc3, hgs1⟩ := hv.three; have hR1 := Lib.hid hR1; have hgg1 := Lib.hid (grownBy_two hgr.out hg1 (fun j e => .inr (Option.some.inj e).symm)); have hown1 := Lib.hid (owns_other hown.out.1 hg1 hRk.out (by decide)); clear hg1 hv)
        have hc1 := Lib.hid fun (z : World) (hz : Below w1.heap.size w1 z) => (hz.cell hgs1).trans hc1
        have hc2 := Lib.hid fun (z : World) (hz : Below w1.heap.size w1 z) => (hz.cell (p := ⟨g1, o1 + 1, none⟩) hgs1).trans hc2
        have hc3 := Lib.hid fun (z : World) (hz : Below w1.heap.size w1 z) => (hz.cell (p := ⟨g1, o1 + 2, none⟩) hgs1).trans hc3
        obtain ⟨W1, hW1⟩ : ∃ W, W = w1 := ⟨_, rfl⟩
        subst hW1
        refine wp_region_makes 12 [isV v5, isV (.slice (some ⟨g1, o1, none⟩) 3 c1), isV (.pointer (some ⟨g1, o1, none⟩)), isV (.int .i64 x), isV (.slice (some ⟨g1, o1, none⟩) 3 c1), isV (.pointer (some ⟨g1, o1 + 1, none⟩)), isV (.int .i64 y), isV (.slice (some ⟨g1, o1, none⟩) 3 c1), isV (.pointer (some ⟨g1, o1 + 2, none⟩)), isV (.int .i64 z), isV (.agg #[.int .i64 x, .int .i64 y, .int .i64 z]), (fun v y' => ∃ u, v = .slice (some ⟨u, 0, none⟩) 1 1 ∧ RowL 66 y' u [.int .i64 x, .int .i64 y, .int .i64 z])]
          [some 12, some 13, some 14, some 15, some 16, some 17, some 18, some 19, some 20, some 21, some 22, some 23] (by kernel_rfl) (by kernel_rfl) rfl (by
            intro q hq
            simp only [List.mem_cons, List.mem_nil_iff, or_false] at hq
            rcases hq with rfl | rfl | rfl | rfl | rfl | rfl | rfl | rfl | rfl | rfl | rfl | rfl <;> first
              | exact isV_keeps _ | exact fun _ _ _ hb ⟨u, e, h⟩ => ⟨u, e, h.mono hb⟩) ?_ ?_
        · refine ⟨fun vs Y hy hd => ?_, fun vs Y hy hd => ?_, fun vs Y hy hd => ?_, fun vs Y hy hd => ?_, fun vs Y hy hd => ?_, fun vs Y hy hd => ?_, fun vs Y hy hd => ?_, fun vs Y hy hd => ?_, fun vs Y hy hd => ?_, fun vs Y hy hd => ?_, fun vs Y hy hd => ?_, fun vs Y hy hd => ?_, trivial⟩
          · (simp only [opens]; try simp only [Nat.reduceAdd])
            go_wp2_with fail
            exact ⟨_, rfl, Below.refl _ _, rfl⟩
          · (simp only [opens]; try simp only [Nat.reduceAdd])
            go_wp2_with fail
            exact ⟨_, rfl, Below.refl _ _, rfl⟩
          · have g0 : vs 1 = .slice (some ⟨g1, o1, none⟩) 3 c1 := hd 1 (by decide) (by kernel_rfl)
            (simp only [opens]; try simp only [Nat.reduceAdd])
            rw [g0]
            go_wp2_with fail
            exact ⟨_, rfl, Below.refl _ _, rfl⟩
          · have g0 : vs 2 = .pointer (some ⟨g1, o1, none⟩) := hd 2 (by decide) (by kernel_rfl)
            have hc := hc1.out Y hy
            (simp only [opens]; try simp only [Nat.reduceAdd])
            rw [g0]
            go_wp2_with fail
            exact ⟨_, rfl, Below.refl _ _, rfl⟩
          · (simp only [opens]; try simp only [Nat.reduceAdd])
            go_wp2_with fail
            exact ⟨_, rfl, Below.refl _ _, rfl⟩
          · have g0 : vs 4 = .slice (some ⟨g1, o1, none⟩) 3 c1 := hd 4 (by decide) (by kernel_rfl)
            (simp only [opens]; try simp only [Nat.reduceAdd])
            rw [g0]
            go_wp2_with fail
            exact ⟨_, rfl, Below.refl _ _, rfl⟩
          · have g0 : vs 5 = .pointer (some ⟨g1, o1 + 1, none⟩) := hd 5 (by decide) (by kernel_rfl)
            have hc := hc2.out Y hy
            (simp only [opens]; try simp only [Nat.reduceAdd])
            rw [g0]
            go_wp2_with fail
            exact ⟨_, rfl, Below.refl _ _, rfl⟩
          · (simp only [opens]; try simp only [Nat.reduceAdd])
            go_wp2_with fail
            exact ⟨_, rfl, Below.refl _ _, rfl⟩
          · have g0 : vs 7 = .slice (some ⟨g1, o1, none⟩) 3 c1 := hd 7 (by decide) (by kernel_rfl)
            (simp only [opens]; try simp only [Nat.reduceAdd])
            rw [g0]
            go_wp2_with fail
            exact ⟨_, rfl, Below.refl _ _, rfl⟩
          · have g0 : vs 8 = .pointer (some ⟨g1, o1 + 2, none⟩) := hd 8 (by decide) (by kernel_rfl)
            have hc := hc3.out Y hy
            (simp only [opens]; try simp only [Nat.reduceAdd])
            rw [g0]
            go_wp2_with fail
            exact ⟨_, rfl, Below.refl _ _, rfl⟩
          · have g0 : vs 3 = .int .i64 x := hd 3 (by decide) (by kernel_rfl)
            have g1 : vs 6 = .int .i64 y := hd 6 (by decide) (by kernel_rfl)
            have g2 : vs 9 = .int .i64 z := hd 9 (by decide) (by kernel_rfl)
            (simp only [opens]; try simp only [Nat.reduceAdd])
            rw [g0, g1, g2]
            go_wp2_with fail
            exact ⟨_, rfl, Below.refl _ _, rfl⟩
          · have g0 : vs 10 = .agg #[.int .i64 x, .int .i64 y, .int .i64 z] := hd 10 (by decide) (by kernel_rfl)
            (simp only [opens]; try simp only [Nat.reduceAdd])
            rw [g0]
            go_wp2_with fail
            exact ⟨_, rfl, (Below.refl _ _).alloc (Nat.le_refl _) _, _, rfl, RowL.new Y _⟩
        intro vs w3 hb3 hf
        have e0 : vs 0 = v5 := hf 0 (by decide)
        obtain ⟨u, e1, hu⟩ : ∃ u, vs 11 = .slice (some ⟨u, 0, none⟩) 1 1 ∧ RowL 66 w3 u [.int .i64 x, .int .i64 y, .int .i64 z] := hf 11 (by decide)
        have hCu := Lib.hid hu.cells1
        have hown3 := Lib.hid (owns_below' hown1.out hb3)
        have hR3 := Lib.hid (hR1.out.mono hb3)
        have hgg3 := Lib.hid (grownBy_below hgg1.out hb3)
        clear hc1 hc2 hc3 hb3 hf
        simp only [opens, List.drop_succ_cons, List.drop_zero]
        try simp only [Nat.reduceAdd]
        rw [e0, e1]
        go_wp2_with (at_builtin; refine app_cells rfl _ _ 24 rfl 66 3 24 _ Tryd.underlying24 infoGatJ rfl (by decide) (w0 := w3) (B0 := 0) rfl hown3.out (Below.refl 0 w3) (Nat.zero_le _) hgg3.out.size rfl hCu.out (by intro u hu; simp at hu; rcases hu with rfl | rfl | rfl <;> rfl) (by omega) (by omega) ?_; intro v4 w4 hown4 hb4 hbs4 hgr4)
        obtain ⟨hgg4, hR4⟩ := app_reader' hgg3.out hown3.out hgr4 hR3.out (by decide)
        go_roundg (n - (k + 1))
        case measure => exact hmea.out _ HG.out
        case rel =>
          refine ⟨k + 1, q, lk ++ [⟨x, y, z⟩], _, Nat.le_refl _, hlt, rfl, by go_num, hgg4, ?_, hMA1, ?_, ?_⟩
          · have : at_ + ((k + 1 : Nat) : Int) = at_ + k + 1 := by omega
            rw [this]
            exact hR4
          · have e1 : (lk ++ [(⟨x, y, z⟩ : PC.Gat)]).length = lk.length + 1 := by simp
            rw [e1, List.flatMap_append]
            exact hown4
          · intro u hu
            rcases List.mem_append.1 hu with hu | hu
            · exact hown.out.2 u hu
            · rw [List.mem_singleton.1 hu]
              exact hrn.out
    · have hltz : ¬ (k : Int) < (n : Int) := by omega
      have hdone := Lib.hid (hMA.out.done hlt)
      obtain rfl : k = n := by omega
      clear hN
      go_wp2_with fail
      go_ret
      exact ⟨hgr.out, .inl ⟨lk, sk, _, hdone.out, rfl, hown.out, hRk.out, hskl⟩⟩

end Go.Proofs.YtjcaejdokillgaaDoor
