/- Contracts: the reader of lines: so many latches, a line each. -/
import Derived.Test.YtjcaejdokillgaaDoorZJ5
namespace Go.Proofs.YtjcaejdokillgaaDoor
open Go.RowKit Go.Shelf
attribute [local simp] mk_get

def set3J (y : World) (g : Nat) (d0 d1 d2 : Value) : World := ((y.setCell ⟨g, 0, none⟩ d0).setCell ⟨g, 1, none⟩ d1).setCell ⟨g, 2, none⟩ d2
theorem RowL.put3 {T : TypeId} {y : World} {g : Nat} {c0 c1 c2 : Value} (h : RowL T y g [c0, c1, c2]) (d0 d1 d2 : Value) :
    (y.cell? ⟨g, 0, none⟩ = some c0 ∧ y.frozen? ⟨g, 0, none⟩ = false ∧ (y.setCell ⟨g, 0, none⟩ d0).cell? ⟨g, 1, none⟩ = some c1 ∧ (y.setCell ⟨g, 0, none⟩ d0).frozen? ⟨g, 1, none⟩ = false ∧
      ((y.setCell ⟨g, 0, none⟩ d0).setCell ⟨g, 1, none⟩ d1).cell? ⟨g, 2, none⟩ = some c2 ∧ ((y.setCell ⟨g, 0, none⟩ d0).setCell ⟨g, 1, none⟩ d1).frozen? ⟨g, 2, none⟩ = false) ∧
    RowL T (set3J y g d0 d1 d2) g [d0, d1, d2] ∧ y.grownBy (set3J y g d0 d1 d2) (some g) := by
  have h0 := h.set 0 d0
  have h1 := h0.set 1 d1
  have h2 := h1.set 2 d2
  exact ⟨⟨h.cell 0 _ rfl, h.frozen 0, h0.cell 1 _ rfl, h0.frozen 1, h1.cell 2 _ rfl, h1.frozen 2⟩, h2, (set_grown' _ _ _ _).trans ((set_grown' _ _ _ _).trans (set_grown' _ _ _ _))⟩

set_option maxRecDepth 100000 in
set_option maxHeartbeats 4000000 in
theorem jLatches_any (n r : Nat) (s : List UInt8) (at_ m : Int) (w : World) (h : Rd w r s at_) (hs : s.length ≤ 65536) (hm : w.cell? ⟨0, 0, none⟩ = some (.int .i64 m)) (hr0 : r ≠ 0) (hat : 0 ≤ at_ ∧ at_ + s.length ≤ 1000000) (hn : n ≤ 1099511627776) :
    Calls Tryd.prog 34 #[.pointer (some ⟨r, 0, none⟩), .int .i64 n] w fun e w' => ListTo PJ.latF 2 3 n OwnL r s at_ w e w' := by
  obtain ⟨ha1, ha2⟩ := hat
  have HR := Lib.hid h
  have HM := Lib.hid hm
  have HS := Lib.hid hs
  have HA := Lib.hid ha2
  clear h hm hs ha2
  go_enter Tryd.func34, Tryd.ntmps34
  go_wp2_with fail
  go_loopg [5, 9] n (fun gg s5 s9 wr => ∃ (k : Nat) (sk : List UInt8) (lk : List PC.Lat) (v5 : Value), n - k ≤ gg ∧ k ≤ n ∧ v5 = s5 ∧ s9 = .int .i64 k ∧ Hid (w.grownBy wr (some r)) ∧ Hid (Rd wr r sk (at_ + k)) ∧ Hid (PR.ManyAt PJ.latF 2 3 n s k sk lk) ∧ Aside (OwnL wr w.heap.size v5 lk))
  case atStart => exact ⟨0, s, [], _, by omega, Nat.zero_le _, rfl, rfl, World.grownBy.refl _ _, (by show Rd _ _ _ _; have := HR.out; simpa using this), PR.ManyAt.zero, World.ownsRow_nil _ _ _ _, fun x hx => by cases hx⟩
  case round =>
    obtain ⟨k, sk, lk, v5, hg, hk, rfl, rfl, hgr, hRk, hMA, hown⟩ := hrel
    have hmk := Lib.hid (grownBy_cell hgr.out HM.out (Ne.symm hr0))
    have hskl := hMA.out.2.2.1
    have hlk : lk.length = k := hMA.out.2.1
    have HS' := HS.out
    have HA' := HA.out
    have hkk : k ≤ 65536 := by omega
    have hN := Lib.hid (jNumbers_any 2 3 r sk (at_ + k) m wr hRk.out (by omega) hmk.out hr0 (by omega) (by omega))
    have hat1 : at_ + k ≤ 1000000 := by omega
    by_cases hlt : k < n
    · have hltz : (k : Int) < (n : Int) := by omega
      have hmea : Hid (∀ g : Nat, n - k ≤ g → n - (k + 1) < g) := fun g h => by omega
      have HG := Lib.hid hg
      clear hg HS' HA'
      cases hl : PR.lineN [] 2 3 sk with
      | none =>
        have hno := Lib.hid (hMA.out.no1 hlt hl)
        have hN2 := Lib.hid (hN.out.mono fun e w' hh => NumsTo.none hh hl)
        clear hN hl
        go_wp2_with (go_at_call 74; refine hN2.out.mono ?_; rintro e w1 ⟨v, rfl, hv, hg1⟩)
        exact ⟨rfl, grownBy_two hgr.out hg1 (fun j e => .inr (Option.some.inj e).symm), .inr ⟨hno.out, v, hv, rfl⟩⟩
      | some x =>
        obtain ⟨ns, q⟩ := x
        have hN2 := Lib.hid (hN.out.mono fun e w' hh => NumsTo.some hh hl)
        rcases PR.line23 hl with ⟨x, y, rfl, hx, hy⟩ | ⟨x, y, z, rfl, hx, hy, hz⟩
        · have hMA1 := Lib.hid (hMA.out.next hlt hl (x := ⟨x, y, 0⟩) rfl)
          have hrn : Hid (rng x ∧ rng y ∧ rng 0) := by
            show _ ∧ _
            unfold rng
            omega
          clear hN hl hx hy
          go_wp2_with (go_at_call 74; refine hN2.out.mono ?_; rintro e w1 ⟨v, rfl, hv, hR1, hg1⟩; obtain ⟨g1, o1, c1, rfl, hc1, hc2, hgs1⟩ := hv.two; have hR1 := Lib.hid hR1; have hgg1 := Lib.hid (grownBy_two hgr.out hg1 (fun j e => .inr (Option.some.inj e).symm)); have hown1 := Lib.hid (owns_other hown.out.1 hg1 hRk.out (by decide)); clear hg1 hv)
          have hc1 := Lib.hid fun (z : World) (hz : Below w1.heap.size w1 z) => (hz.cell hgs1).trans hc1
          have hc2 := Lib.hid fun (z : World) (hz : Below w1.heap.size w1 z) => (hz.cell (p := ⟨g1, o1 + 1, none⟩) hgs1).trans hc2
          obtain ⟨W1, hW1⟩ : ∃ W, W = w1 := ⟨_, rfl⟩
          subst hW1
          refine wp_region_makes 8 [isV (.slice (some ⟨g1, o1, none⟩) 2 c1), isV (.pointer (some ⟨g1, o1, none⟩)), isV (.int .i64 x), isV (.slice (some ⟨g1, o1, none⟩) 2 c1), isV (.pointer (some ⟨g1, o1 + 1, none⟩)), isV (.int .i64 y), isV (.agg #[.int .i64 x, .int .i64 y, .int .i64 0]),
            (fun v y' => ∃ u, v = .pointer (some ⟨u, 0, none⟩) ∧ W1.heap.size ≤ u ∧ RowL 64 y' u [.int .i64 0, .int .i64 0, .int .i64 0])]
            [some 13, some 14, some 15, some 16, some 17, some 18, some 19, some 7] (by kernel_rfl) (by kernel_rfl) rfl (by
              intro q hq
              simp only [List.mem_cons, List.mem_nil_iff, or_false] at hq
              rcases hq with rfl | rfl | rfl | rfl | rfl | rfl | rfl | rfl <;> first
                | exact isV_keeps _ | exact fun _ _ _ hb ⟨u, e, h1, h⟩ => ⟨u, e, h1, h.mono hb⟩) ?_ ?_
          · refine ⟨fun vs Y hy hd => ?_, fun vs Y hy hd => ?_, fun vs Y hy hd => ?_, fun vs Y hy hd => ?_, fun vs Y hy hd => ?_, fun vs Y hy hd => ?_, fun vs Y hy hd => ?_, fun vs Y hy hd => ?_, trivial⟩
            · (simp only [opens]; try simp only [Nat.reduceAdd])
              go_wp2_with fail
              exact ⟨_, rfl, Below.refl _ _, rfl⟩
            · have g0 : vs 0 = .slice (some ⟨g1, o1, none⟩) 2 c1 := hd 0 (by decide) (by kernel_rfl)
              (simp only [opens]; try simp only [Nat.reduceAdd])
              rw [g0]
              go_wp2_with fail
              exact ⟨_, rfl, Below.refl _ _, rfl⟩
            · have g0 : vs 1 = .pointer (some ⟨g1, o1, none⟩) := hd 1 (by decide) (by kernel_rfl)
              have hc := hc1.out Y hy
              (simp only [opens]; try simp only [Nat.reduceAdd])
              rw [g0]
              go_wp2_with fail
              exact ⟨_, rfl, Below.refl _ _, rfl⟩
            · (simp only [opens]; try simp only [Nat.reduceAdd])
              go_wp2_with fail
              exact ⟨_, rfl, Below.refl _ _, rfl⟩
            · have g0 : vs 3 = .slice (some ⟨g1, o1, none⟩) 2 c1 := hd 3 (by decide) (by kernel_rfl)
              (simp only [opens]; try simp only [Nat.reduceAdd])
              rw [g0]
              go_wp2_with fail
              exact ⟨_, rfl, Below.refl _ _, rfl⟩
            · have g0 : vs 4 = .pointer (some ⟨g1, o1 + 1, none⟩) := hd 4 (by decide) (by kernel_rfl)
              have hc := hc2.out Y hy
              (simp only [opens]; try simp only [Nat.reduceAdd])
              rw [g0]
              go_wp2_with fail
              exact ⟨_, rfl, Below.refl _ _, rfl⟩
            · have g0 : vs 2 = .int .i64 x := hd 2 (by decide) (by kernel_rfl)
              have g1 : vs 5 = .int .i64 y := hd 5 (by decide) (by kernel_rfl)
              (simp only [opens]; try simp only [Nat.reduceAdd])
              rw [g0, g1]
              go_wp2_with fail
              exact ⟨_, rfl, Below.refl _ _, rfl⟩
            · (simp only [opens]; try simp only [Nat.reduceAdd])
              go_wp2_with fail
              exact ⟨_, rfl, (Below.refl _ _).alloc (Nat.le_refl _) _, _, rfl, hy.size, RowL.new Y _⟩
          intro vs w3 hb3 hf
          have e0 : vs 6 = .agg #[.int .i64 x, .int .i64 y, .int .i64 0] := hf 6 (by decide)
          obtain ⟨u, e1, hu0, hu⟩ : ∃ u, vs 7 = .pointer (some ⟨u, 0, none⟩) ∧ W1.heap.size ≤ u ∧ RowL 64 w3 u [.int .i64 0, .int .i64 0, .int .i64 0] := hf 7 (by decide)
          obtain ⟨⟨s0, s1, s2, s3, s4, s5⟩, hu3, hug⟩ := hu.put3 (.int .i64 x) (.int .i64 y) (.int .i64 0)
          have hb4 := Lib.hid (Below.grown hb3 hug hb3.size fun j e => by cases e; exact hu0)
          simp only [set3J] at hb4 hu3
          have hu3 := Lib.hid hu3
          have hown4 := Lib.hid (owns_below' hown1.out hb4.out)
          have hR4 := Lib.hid (hR1.out.mono hb4.out)
          have hgg4 := Lib.hid (grownBy_below hgg1.out hb4.out)
          have hur : Hid (u ≠ r) := fun e => by have := hR1.out.lt; omega
          have hu0 := Lib.hid hu0
          clear hc1 hc2 hb3 hf hu hug
          simp only [opens, List.drop_succ_cons, List.drop_zero]
          try simp only [Nat.reduceAdd]
          rw [e0, e1]
          clear e0 e1
          have k0 := hu3.out.cell 0 _ rfl
          have k1 := hu3.out.cell 1 _ rfl
          have k2 := hu3.out.cell 2 _ rfl
          have HG6 := hgg4
          have HO6 := hown4
          have HR6 := hR4
          go_wp2_with (at_builtin; refine app_new rfl _ _ 23 rfl 64 3 24 _ Tryd.underlying23 infoLatJ rfl (by decide) (B0 := 0) rfl HO6.out (Below.refl 0 _) (Nat.zero_le _) HG6.out.size _ 1 1 rfl (by intro u hu; simp at hu; rcases hu with rfl | rfl | rfl <;> rfl) (by first | rfl | simp [Act.eval]) (by omega) (by omega) ?_; intro v7 w7 hown7 hb7 hbs7 hgr7)
          obtain ⟨hgg7, hR7⟩ := app_reader HG6.out HO6.out hgr7 HR6.out (by decide)
          go_roundg (n - (k + 1))
          case measure => exact hmea.out _ HG.out
          case rel =>
            refine ⟨k + 1, q, lk ++ [⟨x, y, 0⟩], _, Nat.le_refl _, hlt, rfl, by go_num, hgg7, ?_, hMA1, ?_, ?_⟩
            · have : at_ + ((k + 1 : Nat) : Int) = at_ + k + 1 := by omega
              rw [this]
              exact hR7
            · have e1 : (lk ++ [(⟨x, y, 0⟩ : PC.Lat)]).length = lk.length + 1 := by simp
              rw [e1, List.flatMap_append]
              exact hown7
            · intro u hu
              rcases List.mem_append.1 hu with hu | hu
              · exact hown.out.2 u hu
              · rw [List.mem_singleton.1 hu]
                exact hrn.out
        · obtain ⟨A, hAd⟩ : ∃ A : Int, A = at_ + k + 1 := ⟨_, rfl⟩
          have hA1 : 1 ≤ A := by omega
          have hA2 : A ≤ 1000001 := by omega
          have HAd := Lib.hid hAd
          by_cases hz0 : z = 0
          · subst hz0
            have hno := Lib.hid (hMA.out.no2 hlt hl rfl)
            rw [← hAd] at hN2
            clear hN hl hx hy hz hAd
            go_wp2_with (go_at_call 74; refine hN2.out.mono ?_; rintro e w1 ⟨v, rfl, hv, hR1, hg1⟩; obtain ⟨g1, o1, c1, rfl, hc1, hc2, hc3, hgs1⟩ := hv.three; have hR1 := Lib.hid hR1; have hgg1 := Lib.hid (grownBy_two hgr.out hg1 (fun j e => .inr (Option.some.inj e).symm)); have hown1 := Lib.hid (owns_other hown.out.1 hg1 hRk.out (by decide)); clear hg1 hv)
            have hc3 := Lib.hid fun (z : World) (hz : Below w1.heap.size w1 z) => (hz.cell (p := ⟨g1, o1 + 2, none⟩) hgs1).trans hc3
            have hc1 := Lib.hid fun (z : World) (hz : Below w1.heap.size w1 z) => (hz.cell hgs1).trans hc1
            have hc2 := Lib.hid fun (z : World) (hz : Below w1.heap.size w1 z) => (hz.cell (p := ⟨g1, o1 + 1, none⟩) hgs1).trans hc2
            obtain ⟨W1, hW1⟩ : ∃ W, W = w1 := ⟨_, rfl⟩
            subst hW1
            refine wp_region_makes 8 [isV (.slice (some ⟨g1, o1, none⟩) 3 c1), isV (.pointer (some ⟨g1, o1, none⟩)), isV (.int .i64 x), isV (.slice (some ⟨g1, o1, none⟩) 3 c1), isV (.pointer (some ⟨g1, o1 + 1, none⟩)), isV (.int .i64 y), isV (.agg #[.int .i64 x, .int .i64 y, .int .i64 0]),
              (fun v y' => ∃ u, v = .pointer (some ⟨u, 0, none⟩) ∧ W1.heap.size ≤ u ∧ RowL 64 y' u [.int .i64 0, .int .i64 0, .int .i64 0])]
              [some 13, some 14, some 15, some 16, some 17, some 18, some 19, some 7] (by kernel_rfl) (by kernel_rfl) rfl (by
                intro q hq
                simp only [List.mem_cons, List.mem_nil_iff, or_false] at hq
                rcases hq with rfl | rfl | rfl | rfl | rfl | rfl | rfl | rfl <;> first
                  | exact isV_keeps _ | exact fun _ _ _ hb ⟨u, e, h1, h⟩ => ⟨u, e, h1, h.mono hb⟩) ?_ ?_
            · refine ⟨fun vs Y hy hd => ?_, fun vs Y hy hd => ?_, fun vs Y hy hd => ?_, fun vs Y hy hd => ?_, fun vs Y hy hd => ?_, fun vs Y hy hd => ?_, fun vs Y hy hd => ?_, fun vs Y hy hd => ?_, trivial⟩
              · (simp only [opens]; try simp only [Nat.reduceAdd])
                go_wp2_with fail
                exact ⟨_, rfl, Below.refl _ _, rfl⟩
              · have g0 : vs 0 = .slice (some ⟨g1, o1, none⟩) 3 c1 := hd 0 (by decide) (by kernel_rfl)
                (simp only [opens]; try simp only [Nat.reduceAdd])
                rw [g0]
                go_wp2_with fail
                exact ⟨_, rfl, Below.refl _ _, rfl⟩
              · have g0 : vs 1 = .pointer (some ⟨g1, o1, none⟩) := hd 1 (by decide) (by kernel_rfl)
                have hc := hc1.out Y hy
                (simp only [opens]; try simp only [Nat.reduceAdd])
                rw [g0]
                go_wp2_with fail
                exact ⟨_, rfl, Below.refl _ _, rfl⟩
              · (simp only [opens]; try simp only [Nat.reduceAdd])
                go_wp2_with fail
                exact ⟨_, rfl, Below.refl _ _, rfl⟩
              · have g0 : vs 3 = .slice (some ⟨g1, o1, none⟩) 3 c1 := hd 3 (by decide) (by kernel_rfl)
                (simp only [opens]; try simp only [Nat.reduceAdd])
                rw [g0]
                go_wp2_with fail
                exact ⟨_, rfl, Below.refl _ _, rfl⟩
              · have g0 : vs 4 = .pointer (some ⟨g1, o1 + 1, none⟩) := hd 4 (by decide) (by kernel_rfl)
                have hc := hc2.out Y hy
                (simp only [opens]; try simp only [Nat.reduceAdd])
                rw [g0]
                go_wp2_with fail
                exact ⟨_, rfl, Below.refl _ _, rfl⟩
              · have g0 : vs 2 = .int .i64 x := hd 2 (by decide) (by kernel_rfl)
                have g1 : vs 5 = .int .i64 y := hd 5 (by decide) (by kernel_rfl)
                (simp only [opens]; try simp only [Nat.reduceAdd])
                rw [g0, g1]
                go_wp2_with fail
                exact ⟨_, rfl, Below.refl _ _, rfl⟩
              · (simp only [opens]; try simp only [Nat.reduceAdd])
                go_wp2_with fail
                exact ⟨_, rfl, (Below.refl _ _).alloc (Nat.le_refl _) _, _, rfl, hy.size, RowL.new Y _⟩
            intro vs w3 hb3 hf
            have e0 : vs 6 = .agg #[.int .i64 x, .int .i64 y, .int .i64 0] := hf 6 (by decide)
            obtain ⟨u, e1, hu0, hu⟩ : ∃ u, vs 7 = .pointer (some ⟨u, 0, none⟩) ∧ W1.heap.size ≤ u ∧ RowL 64 w3 u [.int .i64 0, .int .i64 0, .int .i64 0] := hf 7 (by decide)
            obtain ⟨⟨s0, s1, s2, s3, s4, s5⟩, hu3, hug⟩ := hu.put3 (.int .i64 x) (.int .i64 y) (.int .i64 0)
            have hb4 := Lib.hid (Below.grown hb3 hug hb3.size fun j e => by cases e; exact hu0)
            simp only [set3J] at hb4 hu3
            have hu3 := Lib.hid hu3
            have hown4 := Lib.hid (owns_below' hown1.out hb4.out)
            have hR4 := Lib.hid (hR1.out.mono hb4.out)
            have hgg4 := Lib.hid (grownBy_below hgg1.out hb4.out)
            have hur : Hid (u ≠ r) := fun e => by have := hR1.out.lt; omega
            have hu0 := Lib.hid hu0
            clear hc1 hc2 hb3 hf hu hug
            simp only [opens, List.drop_succ_cons, List.drop_zero]
            try simp only [Nat.reduceAdd]
            rw [e0, e1]
            clear e0 e1
            have k3 := hc3.out _ hb4.out
            have k2 := hu3.out.cell 2 _ rfl
            have f2 := hu3.out.frozen 2
            have L5 := Lib.hid (hu3.out.set 2 (.int .i64 0))
            have R5 := Lib.hid (hR4.out.grown (set_grown' _ u 2 (.int .i64 0)) (fun e => hur.out (Option.some.inj e).symm))
            have G5 := Lib.hid (grownBy_two hgg4.out (set_grown' _ u 2 (.int .i64 0)) fun j e => .inl (by have := hgg1.out.size; have := hu0.out; have := Option.some.inj e; omega))
            have k4 := R5.out.cell 1 _ rfl
            have f4 := R5.out.frozen 1
            have R6 := Lib.hid (R5.out.set 1 (.int .i64 (A - 1)))
            have L6 := Lib.hid (L5.out.grown (set_grown' _ r 1 (.int .i64 (A - 1))) (fun e => hur.out (Option.some.inj e)))
            have G6 := Lib.hid (grownBy_two G5.out (set_grown' _ r 1 (.int .i64 (A - 1))) fun j e => .inr (Option.some.inj e).symm)
            have k6 := L6.out.cell 2 _ rfl
            go_wp2_with (go_at_call 37; refine (jNeed_no r q (A - 1) _ _ R6.out (by decide)).mono ?_; rintro e w3' ⟨⟨fv, hfv, rfl⟩, rfl⟩)
            exact ⟨rfl, G6.out, .inr ⟨hno.out, fv, hfv, rfl⟩⟩
          · have hMA1 := Lib.hid (hMA.out.next hlt hl (x := ⟨x, y, z⟩) (by simp only [PJ.latF, if_neg hz0]))
            have hrn : Hid (rng x ∧ rng y ∧ rng z) := by
              show _ ∧ _
              unfold rng
              omega
            rw [← hAd] at hN2
            have hzb : (z != 0) = true := by simpa using hz0
            clear hN hl hx hy hz hAd
            go_wp2_with (go_at_call 74; refine hN2.out.mono ?_; rintro e w1 ⟨v, rfl, hv, hR1, hg1⟩; obtain ⟨g1, o1, c1, rfl, hc1, hc2, hc3, hgs1⟩ := hv.three; have hR1 := Lib.hid hR1; have hgg1 := Lib.hid (grownBy_two hgr.out hg1 (fun j e => .inr (Option.some.inj e).symm)); have hown1 := Lib.hid (owns_other hown.out.1 hg1 hRk.out (by decide)); clear hg1 hv)
            have hc3 := Lib.hid fun (z : World) (hz : Below w1.heap.size w1 z) => (hz.cell (p := ⟨g1, o1 + 2, none⟩) hgs1).trans hc3
            have hc1 := Lib.hid fun (z : World) (hz : Below w1.heap.size w1 z) => (hz.cell hgs1).trans hc1
            have hc2 := Lib.hid fun (z : World) (hz : Below w1.heap.size w1 z) => (hz.cell (p := ⟨g1, o1 + 1, none⟩) hgs1).trans hc2
            obtain ⟨W1, hW1⟩ : ∃ W, W = w1 := ⟨_, rfl⟩
            subst hW1
            refine wp_region_makes 8 [isV (.slice (some ⟨g1, o1, none⟩) 3 c1), isV (.pointer (some ⟨g1, o1, none⟩)), isV (.int .i64 x), isV (.slice (some ⟨g1, o1, none⟩) 3 c1), isV (.pointer (some ⟨g1, o1 + 1, none⟩)), isV (.int .i64 y), isV (.agg #[.int .i64 x, .int .i64 y, .int .i64 0]),
              (fun v y' => ∃ u, v = .pointer (some ⟨u, 0, none⟩) ∧ W1.heap.size ≤ u ∧ RowL 64 y' u [.int .i64 0, .int .i64 0, .int .i64 0])]
              [some 13, some 14, some 15, some 16, some 17, some 18, some 19, some 7] (by kernel_rfl) (by kernel_rfl) rfl (by
                intro q hq
                simp only [List.mem_cons, List.mem_nil_iff, or_false] at hq
                rcases hq with rfl | rfl | rfl | rfl | rfl | rfl | rfl | rfl <;> first
                  | exact isV_keeps _ | exact fun _ _ _ hb ⟨u, e, h1, h⟩ => ⟨u, e, h1, h.mono hb⟩) ?_ ?_
            · refine ⟨fun vs Y hy hd => ?_, fun vs Y hy hd => ?_, fun vs Y hy hd => ?_, fun vs Y hy hd => ?_, fun vs Y hy hd => ?_, fun vs Y hy hd => ?_, fun vs Y hy hd => ?_, fun vs Y hy hd => ?_, trivial⟩
              · (simp only [opens]; try simp only [Nat.reduceAdd])
                go_wp2_with fail
                exact ⟨_, rfl, Below.refl _ _, rfl⟩
              · have g0 : vs 0 = .slice (some ⟨g1, o1, none⟩) 3 c1 := hd 0 (by decide) (by kernel_rfl)
                (simp only [opens]; try simp only [Nat.reduceAdd])
                rw [g0]
                go_wp2_with fail
                exact ⟨_, rfl, Below.refl _ _, rfl⟩
              · have g0 : vs 1 = .pointer (some ⟨g1, o1, none⟩) := hd 1 (by decide) (by kernel_rfl)
                have hc := hc1.out Y hy
                (simp only [opens]; try simp only [Nat.reduceAdd])
                rw [g0]
                go_wp2_with fail
                exact ⟨_, rfl, Below.refl _ _, rfl⟩
              · (simp only [opens]; try simp only [Nat.reduceAdd])
                go_wp2_with fail
                exact ⟨_, rfl, Below.refl _ _, rfl⟩
              · have g0 : vs 3 = .slice (some ⟨g1, o1, none⟩) 3 c1 := hd 3 (by decide) (by kernel_rfl)
                (simp only [opens]; try simp only [Nat.reduceAdd])
                rw [g0]
                go_wp2_with fail
                exact ⟨_, rfl, Below.refl _ _, rfl⟩
              · have g0 : vs 4 = .pointer (some ⟨g1, o1 + 1, none⟩) := hd 4 (by decide) (by kernel_rfl)
                have hc := hc2.out Y hy
                (simp only [opens]; try simp only [Nat.reduceAdd])
                rw [g0]
                go_wp2_with fail
                exact ⟨_, rfl, Below.refl _ _, rfl⟩
              · have g0 : vs 2 = .int .i64 x := hd 2 (by decide) (by kernel_rfl)
                have g1 : vs 5 = .int .i64 y := hd 5 (by decide) (by kernel_rfl)
                (simp only [opens]; try simp only [Nat.reduceAdd])
                rw [g0, g1]
                go_wp2_with fail
                exact ⟨_, rfl, Below.refl _ _, rfl⟩
              · (simp only [opens]; try simp only [Nat.reduceAdd])
                go_wp2_with fail
                exact ⟨_, rfl, (Below.refl _ _).alloc (Nat.le_refl _) _, _, rfl, hy.size, RowL.new Y _⟩
            intro vs w3 hb3 hf
            have e0 : vs 6 = .agg #[.int .i64 x, .int .i64 y, .int .i64 0] := hf 6 (by decide)
            obtain ⟨u, e1, hu0, hu⟩ : ∃ u, vs 7 = .pointer (some ⟨u, 0, none⟩) ∧ W1.heap.size ≤ u ∧ RowL 64 w3 u [.int .i64 0, .int .i64 0, .int .i64 0] := hf 7 (by decide)
            obtain ⟨⟨s0, s1, s2, s3, s4, s5⟩, hu3, hug⟩ := hu.put3 (.int .i64 x) (.int .i64 y) (.int .i64 0)
            have hb4 := Lib.hid (Below.grown hb3 hug hb3.size fun j e => by cases e; exact hu0)
            simp only [set3J] at hb4 hu3
            have hu3 := Lib.hid hu3
            have hown4 := Lib.hid (owns_below' hown1.out hb4.out)
            have hR4 := Lib.hid (hR1.out.mono hb4.out)
            have hgg4 := Lib.hid (grownBy_below hgg1.out hb4.out)
            have hur : Hid (u ≠ r) := fun e => by have := hR1.out.lt; omega
            have hu0 := Lib.hid hu0
            clear hc1 hc2 hb3 hf hu hug
            simp only [opens, List.drop_succ_cons, List.drop_zero]
            try simp only [Nat.reduceAdd]
            rw [e0, e1]
            clear e0 e1
            have k3 := hc3.out _ hb4.out
            have k2 := hu3.out.cell 2 _ rfl
            have f2 := hu3.out.frozen 2
            have L5 := Lib.hid (hu3.out.set 2 (.int .i64 z))
            have R5 := Lib.hid (hR4.out.grown (set_grown' _ u 2 (.int .i64 z)) (fun e => hur.out (Option.some.inj e).symm))
            have G5 := Lib.hid (grownBy_two hgg4.out (set_grown' _ u 2 (.int .i64 z)) fun j e => .inl (by have := hgg1.out.size; have := hu0.out; have := Option.some.inj e; omega))
            have O5 := Lib.hid (hown4.out.kept (set_grown' _ u 2 (.int .i64 z)) (Or.inr fun e => by have := (hown1.out.lt _ e).2; have := hu0.out; omega))
            have k4 := R5.out.cell 1 _ rfl
            have f4 := R5.out.frozen 1
            have R6 := Lib.hid (R5.out.set 1 (.int .i64 (A - 1)))
            have L6 := Lib.hid (L5.out.grown (set_grown' _ r 1 (.int .i64 (A - 1))) (fun e => hur.out (Option.some.inj e)))
            have G6 := Lib.hid (grownBy_two G5.out (set_grown' _ r 1 (.int .i64 (A - 1))) fun j e => .inr (Option.some.inj e).symm)
            have O6 := Lib.hid (owns_other O5.out (set_grown' _ r 1 (.int .i64 (A - 1))) R5.out (by decide))
            have k6 := L6.out.cell 2 _ rfl
            go_wp2_with (first | (go_at_call 37; refine (jNeed_ok _ _ _).mono ?_; rintro e W6 ⟨rfl, hw⟩; rw [hw] at R6 L6 G6 O6; clear hw L5 R5 G5 O5 k2 k3 f2 k4 f4 k6; have k7 := R6.out.cell 1 _ rfl; have f7 := R6.out.frozen 1; have HR6 := Lib.hid (R6.out.set 1 (.int .i64 A)); have L7 := Lib.hid (L6.out.grown (set_grown' _ r 1 (.int .i64 A)) (fun e => hur.out (Option.some.inj e))); have HG6 := Lib.hid (grownBy_two G6.out (set_grown' _ r 1 (.int .i64 A)) fun j e => .inr (Option.some.inj e).symm); have HO6 := Lib.hid (owns_other O6.out (set_grown' _ r 1 (.int .i64 A)) R6.out (by decide)); have m0 := L7.out.cell 0 _ rfl; have m1 := L7.out.cell 1 _ rfl; have m2 := L7.out.cell 2 _ rfl; clear L7 L6 O6 G6 R6) | (at_builtin; refine app_new rfl _ _ 23 rfl 64 3 24 _ Tryd.underlying23 infoLatJ rfl (by decide) (B0 := 0) rfl HO6.out (Below.refl 0 _) (Nat.zero_le _) HG6.out.size _ 1 1 rfl (by intro u hu; simp at hu; rcases hu with rfl | rfl | rfl <;> rfl) (by first | rfl | simp [Act.eval]) (by omega) (by omega) ?_; intro v7 w7 hown7 hb7 hbs7 hgr7))
            obtain ⟨hgg7, hR7⟩ := app_reader HG6.out HO6.out hgr7 HR6.out (by decide)
            go_roundg (n - (k + 1))
            case measure => exact hmea.out _ HG.out
            case rel =>
              refine ⟨k + 1, q, lk ++ [⟨x, y, z⟩], _, Nat.le_refl _, hlt, rfl, by go_num, hgg7, ?_, hMA1, ?_, ?_⟩
              · have : at_ + ((k + 1 : Nat) : Int) = at_ + k + 1 := by omega
                rw [this, ← HAd.out]
                exact hR7
              · have e1 : (lk ++ [(⟨x, y, z⟩ : PC.Lat)]).length = lk.length + 1 := by simp
                rw [e1, List.flatMap_append]
                exact hown7
              · intro u hu
                rcases List.mem_append.1 hu with hu | hu
                · exact hown.out.2 u hu
                · rw [List.mem_singleton.1 hu]
                  exact hrn.out
    · have hltz : ¬ (k : Int) < (n : Int) := by omega
      have hdone := Lib.hid (hMA.out.done hlt)
      obtain rfl : k = n := by omega
      clear hN
      go_wp2_with fail
      go_ret
      exact ⟨hgr.out, .inl ⟨lk, sk, _, hdone.out, rfl, hown.out, hRk.out, hskl⟩⟩

end Go.Proofs.YtjcaejdokillgaaDoor
