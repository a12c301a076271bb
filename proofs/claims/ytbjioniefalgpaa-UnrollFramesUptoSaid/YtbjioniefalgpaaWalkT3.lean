/- Contracts: right, Force. -/
import Derived.Test.YtbjioniefalgpaaWalkT2
import Derived.Test.YtbjioniefalgpaaWalkV2
namespace Go.Proofs.Ytbjioniefalgpaa
open Go.RowKit Go.Shelf

/-- what right answers -/
def rightE (c : PC.Circ) (b : Int) : Int := if PC.chk c = false then 9 else if b < 0 ∨ 262144 < b then 4 else 0

theorem cCheck_ref (c : PC.Circ) (vc : Value) (w : World) (h : IsCirc w vc c) :
    Calls Try.prog 54 #[vc] w fun e w' => e = .returned (.int .i64 (if PC.chk c then 0 else 9)) ∧ Below w.heap.size w w' := by
  rw [← PC.pchk_eq]
  exact cCheck_any c vc w h

set_option maxRecDepth 100000 in
set_option maxHeartbeats 1000000 in
theorem tright_any (c : PC.Circ) (vc : Value) (b : Int) (w : World) (h : IsCirc w vc c) :
    Calls Try.prog 33 #[vc, .int .i64 b] w fun e w' => e = .returned (.int .i64 (rightE c b)) ∧ Below w.heap.size w w' := by
  have hC := fun w1 (hb : Below w.heap.size w w1) => cCheck_ref c vc w1 (h.mono hb)
  obtain ⟨vi, vl, vo, vb, vv, va, vn, rfl, hp, hm⟩ := h
  clear hp
  have hb0 : Below w.heap.size w (w.alloc (.cells #[.int .i64 c.max, vi, vl, vo, vb, vv, va, vn] 27)) := (Below.refl _ _).alloc (Nat.le_refl _) _
  cases hck : PC.chk c with
  | false =>
    rw [hck] at hC
    have e : rightE c b = 9 := by unfold rightE; rw [if_pos hck]
    rw [e]
    clear hck e
    go_enter Try.func33, Try.ntmps33
    go_wp2_with (go_at_call 54; refine (hC _ (by exact hb0)).mono ?_; rintro e w1 ⟨rfl, hb1⟩)
    go_ret
    exact ⟨rfl, Below.of hb0 hb1⟩
  | true =>
    rw [hck] at hC
    by_cases h1 : b < 0
    · have e : rightE c b = 4 := by unfold rightE; rw [if_neg (by rw [hck]; decide), if_pos (Or.inl h1)]
      rw [e]
      clear hck e
      go_enter Try.func33, Try.ntmps33
      go_wp2_with (go_at_call 54; refine (hC _ (by exact hb0)).mono ?_; rintro e w1 ⟨rfl, hb1⟩)
      go_ret
      exact ⟨rfl, Below.of hb0 hb1⟩
    · by_cases h2 : 262144 < b
      · have e : rightE c b = 4 := by unfold rightE; rw [if_neg (by rw [hck]; decide), if_pos (Or.inr h2)]
        rw [e]
        clear hck e
        go_enter Try.func33, Try.ntmps33
        go_wp2_with (go_at_call 54; refine (hC _ (by exact hb0)).mono ?_; rintro e w1 ⟨rfl, hb1⟩)
        go_ret
        exact ⟨rfl, Below.of hb0 hb1⟩
      · have e : rightE c b = 0 := by unfold rightE; rw [if_neg (by rw [hck]; decide), if_neg (by omega)]
        rw [e]
        clear hck e
        go_enter Try.func33, Try.ntmps33
        go_wp2_with (go_at_call 54; refine (hC _ (by exact hb0)).mono ?_; rintro e w1 ⟨rfl, hb1⟩)
        go_ret
        exact ⟨rfl, Below.of hb0 hb1⟩

/-- what a list of clauses' size asks -/
def FitsL (l : List (List Int)) : Prop := l.length * 24 ≤ 140737488351232 ∧ ∀ a ∈ l, a.length * 8 ≤ 140737488351232

set_option maxRecDepth 100000 in
set_option maxHeartbeats 4000000 in
theorem tForce_bad (c : PC.Circ) (vc va : Value) (assume : List (List Int)) (b : Int) (w : World) (h : IsCirc w vc c) (hE : rightE c b ≠ 0) :
    Calls Try.prog 11 #[vc, va, .int .i64 b] w fun e w' => e = .returned (.tuple #[.slice none 0 0, .int .i64 (rightE c b)]) ∧ Below w.heap.size w w' := by
  have hC := fun w1 (hb : Below w.heap.size w w1) => tright_any c vc b w1 (h.mono hb)
  obtain ⟨vi, vl, vo, vb, vv, va', vn, rfl, hp, hm⟩ := h
  clear hp
  have hb0 : Below w.heap.size w (w.alloc (.cells #[.int .i64 c.max, vi, vl, vo, vb, vv, va', vn] 27)) := (Below.refl _ _).alloc (Nat.le_refl _) _
  generalize rightE c b = E at *
  go_enter Try.func11, Try.ntmps11
  go_wp2_with (go_at_call 33; refine (hC _ (by exact hb0)).mono ?_; rintro e w1 ⟨rfl, hb1⟩)
  go_ret2
  exact ⟨rfl, Below.of hb0 hb1⟩

set_option maxRecDepth 100000 in
set_option maxHeartbeats 4000000 in
theorem tForce_good (c : PC.Circ) (vc va : Value) (assume : List (List Int)) (b : Int) (w : World) (h : IsCirc w vc c) (hA : Lists w va assume) (hF : FitsL assume) (hE : rightE c b = 0) :
    Calls Try.prog 11 #[vc, va, .int .i64 b] w fun e w' => ∃ u, e = .returned (.tuple #[u, .int .i64 0]) ∧ OutI w' w.heap.size u (PC.force c assume b) ∧ Below w.heap.size w w' := by
  have hC := fun w1 (hb : Below w.heap.size w w1) => tright_any c vc b w1 (h.mono hb)
  rw [hE] at hC
  have hck : PC.chk c = true := by
    cases hck : PC.chk c with
    | true => rfl
    | false => unfold rightE at hE; rw [if_pos hck] at hE; cases hE
  have hR := Lib.hid (PC.right_of c hck)
  have hb0 : 0 ≤ b ∧ b ≤ 262144 := by
    unfold rightE at hE
    rw [if_neg (by rw [hck]; decide)] at hE
    by_cases hb : b < 0 ∨ 262144 < b
    · rw [if_pos hb] at hE; cases hE
    · omega
  obtain ⟨hb0, hb1⟩ := hb0
  clear hE hck
  have hF1 := hF.1
  have hF2 := Lib.hid hF.2
  clear hF
  obtain ⟨vi, vl, vo, vb, vv, va', vn, rfl, hp, hm⟩ := h
  obtain ⟨av, capv, rfl, hv1, hv2, hv3⟩ := hp.invars.open_
  obtain ⟨asm, caps, rfl, hs1, hs2, hs3⟩ := hA.open_
  clear hp hA
  have HV := Lib.hid hv3
  have HS := Lib.hid hs3
  clear hv3 hs3
  have hvl : c.invars.length ≤ 64 := hR.out.invs
  have hbw : Below w.heap.size w (w.alloc (.cells #[.int .i64 c.max, vi, vl, vo, vb, .slice av c.invars.length capv, va', vn] 27)) := (Below.refl _ _).alloc (Nat.le_refl _) _
  have hbx0 := Lib.hid (Box8.new w (.int .i64 c.max) vi vl vo vb (.slice av c.invars.length capv) va' vn 27)
  go_enter Try.func11, Try.ntmps11
  go_wp2_with (go_at_call 33; refine (hC _ (by exact hbw)).mono ?_; rintro e w1 ⟨rfl, hb1'⟩; obtain ⟨q0, q1, q2, q3, q4, q5, q6, q7⟩ := hbx0.out.mono hb1')
  have hb01 := Below.of hbw hb1'
  clear hbw hC hbx0 hb1' q0 q1 q2 q3 q4 q5 q6 q7
  go_loopg [10, 25] c.invars.length (fun gg s10 s25 wr => ∃ k : Nat, k ≤ c.invars.length ∧ c.invars.length - k ≤ gg ∧ s25 = .int .i64 k ∧ Below w.heap.size w wr ∧ Aside (OutI wr w.heap.size s10 ((c.invars.take k).map (fun l => [PC.litT b l]))))
  case atStart => exact ⟨0, Nat.zero_le _, by omega, rfl, hb01, OutI.nil _ _⟩
  case round =>
    clear hb01
    obtain ⟨k, hk, hg, rfl, hbr, hout⟩ := hrel
    by_cases hlt : k < c.invars.length
    · obtain ⟨b', off, rfl, hbs, hry, hc⟩ := HV.out k hlt
      have hmea : ∀ g : Nat, c.invars.length - k ≤ g → c.invars.length - (k + 1) < g := fun g h => by omega
      have hc := (hbr.cell hbs).trans hc
      have hyr := PC.known_range c hR.out _ (hR.out.invK _ (List.getElem_mem hlt))
      have hmx := hR.out.max1
      have hstep : Hid ((c.invars.take (k + 1)).map (fun l => [PC.litT b l]) = (c.invars.take k).map (fun l => [PC.litT b l]) ++ [[PC.litT b c.invars[k]]]) := by
        show _ = _
        rw [List.take_succ_eq_append_getElem hlt, List.map_append]; rfl
      generalize hy : c.invars[k] = y at *
      clear hy
      have hltz : (k : Int) < (c.invars.length : Int) := by omega
      have hL := fun w => tlit_any b y w hb0 hb1 hry (by omega)
      have hrl := rng_litT b y hb0 hb1
      clear hyr hmx
      have hlen : ((c.invars.take k).map (fun l => [PC.litT b l])).length = k := by rw [List.length_map, List.length_take]; omega
      generalize PC.litT b y = r at *
      have hr1 := RowI.new wr [r] (by intro x hx; simp at hx; subst hx; exact hrl) (by simp)
      have hba : Below wr.heap.size wr (wr.alloc (.cells #[.int .i64 r] 3)) := (Below.refl _ _).alloc (Nat.le_refl _) _
      have hrows := Lib.hid ((RowsI.nil _).push hr1)
      have hr1 := Lib.hid hr1
      have hout1 := Lib.hid (hout.out.mono hba)
      go_wp2_with (first | (go_at_call 34; refine (hL _).mono ?_; rintro e w2 ⟨rfl, rfl⟩) | (at_builtin; refine app_rows rfl _ _ rfl (w0 := w) (B0 := w.heap.size) rfl hout1.out (us := #[.slice (some ⟨wr.heap.size, 0, none⟩) 1 1]) (ms := [[r]]) (by exact hrows.out) (hbr.alloc hbr.size _) (Nat.le_refl _) (by simp; have := hbr.size; omega) 1 1 rfl (by first | rfl | (simp only [World.size_alloc]; rfl)) (by rw [hlen]; omega) ?_; intro v3 w3 hout3 hb3 hbs3))
      go_roundg (c.invars.length - (k + 1))
      case measure => exact hmea _ hg
      case rel =>
        refine ⟨k + 1, by omega, by omega, by go_num, hb3, ?_⟩
        rw [hstep.out]
        exact hout3
    · have hltz : ¬ (k : Int) < (c.invars.length : Int) := by omega
      obtain rfl : k = c.invars.length := by omega
      rw [List.take_length] at hout
      clear HV
      go_wp2_with fail
      go_loopg [10, 39] assume.length (fun gg s10 s39 wr => ∃ k : Nat, k ≤ assume.length ∧ assume.length - k ≤ gg ∧ s39 = .int .i64 k ∧ Below w.heap.size w wr ∧ Aside (OutI wr w.heap.size s10 (c.invars.map (fun l => [PC.litT b l]) ++ (assume.take k).map (fun a => a.map (PC.litT b)))))
      case atStart => exact ⟨0, Nat.zero_le _, by omega, rfl, hbr, by simpa [Aside] using hout.out⟩
      case round =>
        clear hbr hout hg hk hlt hltz
        obtain ⟨k, hk, hg, rfl, hbr, hout⟩ := hrel
        by_cases hlt : k < assume.length
        · obtain ⟨b', off, u, rfl, hbs, hc, hiu⟩ := HS.out k hlt
          have hmea : ∀ g : Nat, assume.length - k ≤ g → assume.length - (k + 1) < g := fun g h => by omega
          have hc := (hbr.cell hbs).trans hc
          have hal := hF2.out _ (List.getElem_mem hlt)
          have hstep : Hid (c.invars.map (fun l => [PC.litT b l]) ++ (assume.take (k + 1)).map (fun a => a.map (PC.litT b)) = (c.invars.map (fun l => [PC.litT b l]) ++ (assume.take k).map (fun a => a.map (PC.litT b))) ++ [assume[k].map (PC.litT b)]) := by
            show _ = _
            rw [List.take_succ_eq_append_getElem hlt, List.map_append, ← List.append_assoc]; rfl
          have hlen : (c.invars.map (fun l => [PC.litT b l]) ++ (assume.take k).map (fun a => a.map (PC.litT b))).length = c.invars.length + k := by
            rw [List.length_append, List.length_map, List.length_map, List.length_take]; omega
          generalize hy : assume[k] = y at *
          clear hy
          have hltz : (k : Int) < (assume.length : Int) := by omega
          have hCl := Lib.hid (tClause_any b y u wr hb0 hb1 (hiu.mono hbr) hal)
          go_wp2_with fail
          refine hCl.out.mono ?_
          rintro e w2 ⟨u2, rfl, hr2, hb2⟩
          obtain ⟨ao2, n2, c2, rfl⟩ := hr2.slice
          have hbr2 := Below.of hbr hb2
          have hrows := Lib.hid ((RowsI.nil _).push hr2)
          have hout1 := Lib.hid (hout.out.mono hb2)
          go_wp2_with (at_builtin; refine app_rows rfl _ _ rfl (w0 := w) (B0 := w.heap.size) rfl hout1.out (us := #[.slice ao2 n2 c2]) (ms := [y.map (PC.litT b)]) (by exact hrows.out) hbr2 (Nat.le_refl _) hbr2.size 1 1 rfl rfl (by rw [hlen]; omega) ?_; intro v3 w3 hout3 hb3 hbs3)
          go_roundg (assume.length - (k + 1))
          case measure => exact hmea _ hg
          case rel =>
            refine ⟨k + 1, by omega, by omega, by go_num, hb3, ?_⟩
            rw [hstep.out]
            exact hout3
        · have hltz : ¬ (k : Int) < (assume.length : Int) := by omega
          obtain rfl : k = assume.length := by omega
          rw [List.take_length] at hout
          go_wp2
          go_ret2
          exact ⟨_, rfl, hout.out, hbr⟩

end Go.Proofs.Ytbjioniefalgpaa
