/- Contracts: the reader of octets: the names that are left. -/
import Derived.Test.YtjcaejdokillgaaDoorZWalkJ8
import Derived.Test.YtjcaejdokillgaaDoorZWalkJ7
import Derived.Test.YtjcaejdokillgaaDoorZP3
namespace Go.Proofs.YtjcaejdokillgaaDoor
open Go.RowKit Go.Shelf
attribute [local simp] mk_get

abbrev synV : Value := .iface 29 (.int .i64 33)
abbrev synC : List PanicEntry := [{ v := synV, recovered := false }]

/-- the reader's variable -/
abbrev RdI (w : World) (r : Nat) (s : List UInt8) : Prop := RowL 106 w r [.string ⟨s.toArray⟩]

theorem iNeed_ok (w : World) : Calls Tryd.prog 59 #[.bool true] w fun e w' => e = .returned (.tuple #[]) ∧ w = w' := by
  go_enter Tryd.func59, Tryd.ntmps59
  go_wp2
  go_end0
  exact ⟨rfl, rfl⟩
theorem iNeed_no (w : World) : Calls Tryd.prog 59 #[.bool false] w fun e w' => e = .panicked synC ∧ w = w' := by
  go_enter Tryd.func59, Tryd.ntmps59
  go_wp2
  exact ⟨rfl, rfl, rfl⟩

/-- what a line's numbers leave -/
def NumsI (ahead : List UInt8) (a b : Nat) (r : Nat) (s : List UInt8) (w : World) (e : Ending) (w' : World) : Prop :=
  w.grownBy w' (some r) ∧ ((∃ l q v, PR.lineN ahead a b s = some (l, q) ∧ e = .returned v ∧ OwnI w' w.heap.size v l ∧ RdI w' r q) ∨ (PR.lineN ahead a b s = none ∧ e = .panicked synC))

set_option maxRecDepth 100000 in
set_option maxHeartbeats 8000000 in
theorem iLine_any (a b r : Nat) (s : List UInt8) (m : Int) (w : World) (h0 : RdI w r s) (hs : s.length ≤ 65536) (hm : w.cell? ⟨0, 0, none⟩ = some (.int .i64 m)) (hr0 : r ≠ 0) (hab : a ≤ 100 ∧ b ≤ 100) :
    Calls Tryd.prog 58 #[.pointer (some ⟨r, 0, none⟩), .string ⟨#[]⟩, .int .i64 a, .int .i64 b] w fun e w' => NumsI [] a b r s w e w' := by
  have h := Lib.hid h0
  obtain ⟨i, hi, hz0, hz1, hz2⟩ := info_parts infoI'
  have c0 := h0.cell 0 _ rfl
  cases hp : PR.at1 10 s with
  | none =>
    have hC := Lib.hid (Cut_none 10 s m w (by omega) hm hp)
    have hn := Lib.hid (lineN_not (ahead := []) (a := a) (b := b) hp)
    clear h0 hp
    go_enter Tryd.func58, Tryd.ntmps58
    go_wp2_with (first | (go_at_call 48; refine hC.out.mono ?_; rintro e w1 ⟨rfl, hb1⟩) | (go_at_call 59; refine (iNeed_no _).mono ?_; rintro e w5 ⟨rfl, rfl⟩))
    exact ⟨rfl, grownBy_below (World.grownBy.refl _ _) hb1, .inr ⟨hn.out, rfl⟩⟩
  | some x =>
    obtain ⟨p, q⟩ := x
    have hC := Lib.hid (Cut_some 10 s p q m w (by omega) hm hp)
    have hn := Lib.hid (lineN_at (ahead := []) (a := a) (b := b) hp)
    have hpl := PR.at1_lt hp
    have hcl := PS.cut_len 32 p
    have hS := Lib.hid fun (y : World) (hy : y.cell? ⟨0, 0, none⟩ = some (.int .i64 m)) => Split_strs 32 p m y (by omega) hy
    have hok : Hid (PR.lineOk [] a b (PS.cut 32 p) = (decide (a ≤ (PS.cut 32 p).length) && decide ((PS.cut 32 p).length ≤ b) && (PS.cut 32 p).all PR.numOk)) := by
      show _ = _
      unfold PR.lineOk PR.body
      simp
    have hbody : Hid (PR.body [] (PS.cut 32 p) = PS.cut 32 p) := by show _ = _; unfold PR.body; simp
    generalize PS.cut 32 p = L at *
    have hLl : L.length ≤ 70000 := by omega
    clear h0 hp hpl hcl
    by_cases h1 : a ≤ L.length
    · by_cases h2 : L.length ≤ b
      · have e1 : (a : Int) ≤ (L.length : Int) := by omega
        have e2 : (L.length : Int) ≤ (b : Int) := by omega
        have hsome : Hid (L.all PR.numOk = true → PR.lineN [] a b s = some (L.map PR.numV, q)) := fun h3 => by
          rw [hn.out, hok.out, hbody.out, if_pos (by simp only [h1, h2, h3, decide_true, Bool.and_self])]
        have hnone : Hid (L.all PR.numOk = false → PR.lineN [] a b s = none) := fun h3 => by
          rw [hn.out, hok.out, if_neg (by simp only [h3, Bool.and_false]; simp)]
        clear hn hok hbody
        go_enter Tryd.func58, Tryd.ntmps58
        go_wp2_with (first | (go_at_call 48; refine hC.out.mono ?_; rintro e w1 ⟨rfl, hb1⟩; have hR1 := Lib.hid (h.out.mono hb1); have hgb1 := Lib.hid (grownBy_below (O := r) (World.grownBy.refl _ _) hb1); have d0 := hR1.out.cell 0 _ rfl; have f0 := hR1.out.frozen 0; have hR2 := Lib.hid (hR1.out.set 0 (.string ⟨q.toArray⟩)); have hg2 := Lib.hid (grownBy_two hgb1.out (set_grown' w1 r 0 (.string ⟨q.toArray⟩)) fun j e => .inr (Option.some.inj e).symm); have hS2 := Lib.hid (hS.out _ (grownBy_cell hg2.out hm (Ne.symm hr0))); clear hb1) | (go_at_call 59; refine (iNeed_ok _).mono ?_; rintro e w5 ⟨rfl, hw5⟩; subst hw5) | (go_at_call 71; refine hS2.out.mono ?_; rintro e w3 ⟨g, rfl, hst, hb3⟩; have hst := Lib.hid hst; have hR4 := Lib.hid (hR2.out.mono hb3); have gg := Lib.hid (grownBy_below hg2.out hb3); clear hb3) | (at_make; refine wpList_make_own w3 rfl _ _ 22 rfl w3.heap.size 3 i (.int .i64 0) 1 Tryd.underlying22 hi hz0 hz1 .i64 .i64 _ L.length rfl rfl rfl (by rw [hz2]; omega) (by unfold maxLen; omega) (Nat.le_refl _) ?_; intro w4 hown4 hgr4; have hb4 : Hid (Below w3.heap.size w3 w4) := (Below.refl _ _).grown hgr4 (Nat.le_refl _) (by intro k e; cases e)))
        obtain ⟨ao, cap, hsl, hi1, hi2, hi3⟩ := hst.out.open_
        cases hsl
        have HI := Lib.hid hi3
        have HNL : Hid (L.length = L.length) := rfl
        clear hi3
        go_loopg [13, 61] L.length (fun gg s13 s61 wr => ∃ k : Nat, k ≤ L.length ∧ L.length - k ≤ gg ∧ s61 = .int .i64 k ∧ Hid (Below w3.heap.size w3 wr) ∧ Hid ((L.take k).all PR.numOk = true) ∧ Aside (wr.ownsRow w3.heap.size 3 1 s13 k (((L.take k).map PR.numV).map (Value.int .i64))))
        case atStart => exact ⟨0, Nat.zero_le _, by omega, rfl, hb4.out, rfl, hown4⟩
        case round =>
          obtain ⟨k, hk, hg, rfl, hbr, hall, hown⟩ := hrel
          have hNL := HNL.out
          by_cases hlt : k < L.length
          · obtain ⟨b', off, hbo, hbs, hry, hc⟩ := HI.out k hlt
            cases hbo
            have hmea : ∀ g : Nat, L.length - k ≤ g → L.length - (k + 1) < g := fun g h => by omega
            have hc := (hbr.out.cell hbs).trans hc
            try rw [Nat.zero_add] at hc
            have hstep : Hid (((L.take (k + 1)).map PR.numV).map (Value.int .i64) = ((L.take k).map PR.numV).map (Value.int .i64) ++ [Value.int .i64 (P01.parse L[k]).1]) := by
              show _ = _
              rw [List.take_succ_eq_append_getElem hlt]
              simp only [List.map_append, List.map_cons, List.map_nil]
              rfl
            have hltz : (k : Int) < (L.length : Int) := by omega
            have hkk : k ≤ 1000000 := by omega
            by_cases hok : PR.numOk L[k] = true
            · have hnx : Hid ((L.take (k + 1)).all PR.numOk = true) := by
                show _ = _
                rw [List.take_succ_eq_append_getElem hlt, List.all_append, hall.out]
                simpa using hok
              obtain ⟨q1, q2⟩ := PR.numOk_iff.1 hok
              clear hok hNL
              generalize L[k] = y at *
              have hP := Lib.hid (Parse_any y wr hry)
              generalize (P01.parse y).1 = z at *
              generalize (P01.parse y).2 = z2 at *
              subst q1
              clear hry
              go_wp2_with (first | (go_at_call 95; refine hP.out.mono ?_; rintro e w6 ⟨rfl, hb6⟩; have hown6 := owns_below' hown.out hb6; have hbb := Below.of hbr.out hb6) | (go_at_call 59; refine (iNeed_ok _).mono ?_; rintro e w7 ⟨rfl, rfl⟩) | (at_builtin; refine app_new rfl _ _ 22 rfl 3 1 8 _ Tryd.underlying22 infoI' rfl (by decide) (w0 := w3) (B0 := w3.heap.size) rfl hown6 hbb (Nat.le_refl _) hbb.size _ 1 1 rfl (by intro u hu; simp at hu; subst hu; rfl) rfl (by omega) (by omega) ?_; intro v8 w8 hown8 hb8 hbs8 hgr8))
              go_roundg (L.length - (k + 1))
              case measure => exact hmea _ hg
              case rel =>
                refine ⟨k + 1, by omega, by omega, by go_num, hb8, hnx, ?_⟩
                rw [hstep.out]
                exact hown8
            · have hno : (decide ((P01.parse L[k]).2 = 0) && decide (0 ≤ (P01.parse L[k]).1)) = false := by
                have : PR.numOk L[k] = false := Bool.eq_false_iff.2 hok
                exact this
              have hnot : Hid (PR.lineN [] a b s = none) := hnone.out (Bool.eq_false_iff.2 fun ha => hok (List.all_eq_true.1 ha _ (List.getElem_mem hlt)))
              clear hok hNL
              generalize L[k] = y at *
              have hP := Lib.hid (Parse_any y wr hry)
              generalize (P01.parse y).1 = z at *
              generalize (P01.parse y).2 = z2 at *
              by_cases hz2 : z2 = 0
              · subst hz2
                have hz0 : decide (0 ≤ z) = false := by simpa using hno
                clear hry hno
                go_wp2_with (first | (go_at_call 95; refine hP.out.mono ?_; rintro e w6 ⟨rfl, hb6⟩; have hbb := Lib.hid (Below.of hbr.out hb6)) | (go_at_call 59; refine (iNeed_no _).mono ?_; rintro e w7 ⟨rfl, rfl⟩))
                exact ⟨rfl, grownBy_below gg.out hbb.out, .inr ⟨hnot.out, rfl⟩⟩
              · have hz2b : (z2 == 0) = false := by simpa using hz2
                clear hry hno
                go_wp2_with (first | (go_at_call 95; refine hP.out.mono ?_; rintro e w6 ⟨rfl, hb6⟩; have hbb := Lib.hid (Below.of hbr.out hb6)) | (go_at_call 59; refine (iNeed_no _).mono ?_; rintro e w7 ⟨rfl, rfl⟩))
                exact ⟨rfl, grownBy_below gg.out hbb.out, .inr ⟨hnot.out, rfl⟩⟩
          · have hltz : ¬ (k : Int) < (L.length : Int) := by omega
            obtain rfl : k = L.length := by omega
            have hall := hall.out
            rw [List.take_length] at hall
            have hyes := Lib.hid (hsome.out hall)
            have hOut : Hid (OwnI wr w.heap.size u13 (L.map PR.numV)) := by
              refine ⟨?_, fun x hx => ?_⟩
              · have := hown.out
                rw [List.take_length] at this
                rw [List.length_map]
                exact World.ownsRow.mono this gg.out.size
              · obtain ⟨t, ht, rfl⟩ := List.mem_map.1 hx
                have := PR.numV_rng (List.all_eq_true.1 hall t ht)
                unfold rng
                omega
            clear hown hg hk hlt hall
            go_wp2_with fail
            go_ret
            exact ⟨grownBy_below gg.out hbr.out, .inl ⟨_, q, _, hyes.out, rfl, hOut.out, hR4.out.mono hbr.out⟩⟩
      · have e1 : (a : Int) ≤ (L.length : Int) := by omega
        have e2 : decide ((L.length : Int) ≤ (b : Int)) = false := decide_eq_false (by omega)
        have hres : Hid (PR.lineN [] a b s = none) := by
          show _ = _
          rw [hn.out, hok.out, if_neg (by simp only [h2, decide_false, Bool.and_false, Bool.false_and]; simp)]
        clear hn hok hbody
        go_enter Tryd.func58, Tryd.ntmps58
        go_wp2_with (first | (go_at_call 48; refine hC.out.mono ?_; rintro e w1 ⟨rfl, hb1⟩; have hR1 := Lib.hid (h.out.mono hb1); have hgb1 := Lib.hid (grownBy_below (O := r) (World.grownBy.refl _ _) hb1); have d0 := hR1.out.cell 0 _ rfl; have f0 := hR1.out.frozen 0; have hR2 := Lib.hid (hR1.out.set 0 (.string ⟨q.toArray⟩)); have hg2 := Lib.hid (grownBy_two hgb1.out (set_grown' w1 r 0 (.string ⟨q.toArray⟩)) fun j e => .inr (Option.some.inj e).symm); have hS2 := Lib.hid (hS.out _ (grownBy_cell hg2.out hm (Ne.symm hr0))); clear hb1) | (go_at_call 71; refine hS2.out.mono ?_; rintro e w3 ⟨g, rfl, hst, hb3⟩; have gg := Lib.hid (grownBy_below hg2.out hb3); have hdone : True := trivial; clear hb3) | (go_at_call 59; have _ := hdone; refine (iNeed_no _).mono ?_; rintro e w5 ⟨rfl, rfl⟩) | (go_at_call 59; refine (iNeed_ok _).mono ?_; rintro e w5 ⟨rfl, hw5⟩; subst hw5))
        exact ⟨rfl, gg.out, .inr ⟨hres.out, rfl⟩⟩
    · have e1 : decide ((a : Int) ≤ (L.length : Int)) = false := decide_eq_false (by omega)
      have hres : Hid (PR.lineN [] a b s = none) := by
        show _ = _
        rw [hn.out, hok.out, if_neg (by simp only [h1, decide_false, Bool.false_and]; simp)]
      clear hn hok hbody
      go_enter Tryd.func58, Tryd.ntmps58
      go_wp2_with (first | (go_at_call 48; refine hC.out.mono ?_; rintro e w1 ⟨rfl, hb1⟩; have hR1 := Lib.hid (h.out.mono hb1); have hgb1 := Lib.hid (grownBy_below (O := r) (World.grownBy.refl _ _) hb1); have d0 := hR1.out.cell 0 _ rfl; have f0 := hR1.out.frozen 0; have hR2 := Lib.hid (hR1.out.set 0 (.string ⟨q.toArray⟩)); have hg2 := Lib.hid (grownBy_two hgb1.out (set_grown' w1 r 0 (.string ⟨q.toArray⟩)) fun j e => .inr (Option.some.inj e).symm); have hS2 := Lib.hid (hS.out _ (grownBy_cell hg2.out hm (Ne.symm hr0))); clear hb1) | (go_at_call 71; refine hS2.out.mono ?_; rintro e w3 ⟨g, rfl, hst, hb3⟩; have gg := Lib.hid (grownBy_below hg2.out hb3); have hdone : True := trivial; clear hb3) | (go_at_call 59; have _ := hdone; refine (iNeed_no _).mono ?_; rintro e w5 ⟨rfl, rfl⟩) | (go_at_call 59; refine (iNeed_ok _).mono ?_; rintro e w5 ⟨rfl, hw5⟩; subst hw5))
      exact ⟨rfl, gg.out, .inr ⟨hres.out, rfl⟩⟩

set_option maxRecDepth 100000 in
set_option maxHeartbeats 8000000 in
theorem iLine_head (r : Nat) (s : List UInt8) (m : Int) (w : World) (h0 : RdI w r s) (hs : s.length ≤ 65536) (hm : w.cell? ⟨0, 0, none⟩ = some (.int .i64 m)) (hr0 : r ≠ 0) :
    Calls Tryd.prog 58 #[.pointer (some ⟨r, 0, none⟩), .string ⟨#[97, 105, 103]⟩, .int .i64 7, .int .i64 7] w fun e w' => NumsI [97, 105, 103] 7 7 r s w e w' := by
  have h := Lib.hid h0
  obtain ⟨i, hi, hz0, hz1, hz2⟩ := info_parts infoI'
  have c0 := h0.cell 0 _ rfl
  cases hp : PR.at1 10 s with
  | none =>
    have hC := Lib.hid (Cut_none 10 s m w (by omega) hm hp)
    have hn := Lib.hid (lineN_not (ahead := [97, 105, 103]) (a := 7) (b := 7) hp)
    clear h0 hp
    go_enter Tryd.func58, Tryd.ntmps58
    go_wp2_with (first | (go_at_call 48; refine hC.out.mono ?_; rintro e w1 ⟨rfl, hb1⟩) | (go_at_call 59; refine (iNeed_no _).mono ?_; rintro e w5 ⟨rfl, rfl⟩))
    exact ⟨rfl, grownBy_below (World.grownBy.refl _ _) hb1, .inr ⟨hn.out, rfl⟩⟩
  | some x =>
    obtain ⟨p, q⟩ := x
    have hC := Lib.hid (Cut_some 10 s p q m w (by omega) hm hp)
    have hn := Lib.hid (lineN_at (ahead := [97, 105, 103]) (a := 7) (b := 7) hp)
    have hpl := PR.at1_lt hp
    have hcl := PS.cut_len 32 p
    obtain ⟨x0, R, hxR⟩ : ∃ x0 R, PS.cut 32 p = x0 :: R := by
      cases hc : PS.cut 32 p with
      | nil => exact absurd hc (PS.cut_ne 32 p)
      | cons a b => exact ⟨a, b, rfl⟩
    have hok : Hid (PR.lineOk [97, 105, 103] 7 7 (PS.cut 32 p) = ((x0 == [97, 105, 103]) && decide (R.length = 7) && R.all PR.numOk)) := by
      show _ = _
      rw [hxR]
      unfold PR.lineOk PR.body
      rw [Bool.eq_iff_iff]
      simp only [List.isEmpty_cons, Bool.false_or, List.headD_cons, List.drop_succ_cons, List.drop_zero, Bool.and_eq_true, decide_eq_true_eq, beq_iff_eq]
      rw [if_neg (by decide)]
      constructor
      · rintro ⟨⟨⟨h1, h2⟩, h3⟩, h4⟩
        exact ⟨⟨h1, by omega⟩, h4⟩
      · rintro ⟨⟨h1, h2⟩, h3⟩
        exact ⟨⟨⟨h1, by omega⟩, by omega⟩, h3⟩
    have hbody : Hid (PR.body [97, 105, 103] (PS.cut 32 p) = R) := by
      show _ = _
      rw [hxR]
      unfold PR.body
      rw [if_neg (by decide)]
      rfl
    have hRl : R.length ≤ 70000 := by have := congrArg List.length hxR; simp at this; omega
    have hS := Lib.hid fun (y : World) (hy : y.cell? ⟨0, 0, none⟩ = some (.int .i64 m)) => Split8 p m x0 R R.length hxR rfl y (by omega) hy
    by_cases h2 : x0 = [97, 105, 103]
    · subst h2
      by_cases h1 : R.length = 7
      · have hsome : Hid (R.all PR.numOk = true → PR.lineN [97, 105, 103] 7 7 s = some (R.map PR.numV, q)) := fun h3 => by
          rw [hn.out, hok.out, hbody.out, if_pos (by rw [h3, h1]; rfl)]
        have hnone : Hid (R.all PR.numOk = false → PR.lineN [97, 105, 103] 7 7 s = none) := fun h3 => by
          rw [hn.out, hok.out, if_neg (by simp only [h3, Bool.and_false]; simp)]
        rw [h1] at hS
        have HNL := Lib.hid h1
        clear hn hok hbody hxR hpl hcl hp h0 h1 hRl
        go_enter Tryd.func58, Tryd.ntmps58
        go_wp2_with (first | (go_at_call 48; refine hC.out.mono ?_; rintro e w1 ⟨rfl, hb1⟩; have hR1 := Lib.hid (h.out.mono hb1); have hgb1 := Lib.hid (grownBy_below (O := r) (World.grownBy.refl _ _) hb1); have d0 := hR1.out.cell 0 _ rfl; have f0 := hR1.out.frozen 0; have hR2 := Lib.hid (hR1.out.set 0 (.string ⟨q.toArray⟩)); have hg2 := Lib.hid (grownBy_two hgb1.out (set_grown' w1 r 0 (.string ⟨q.toArray⟩)) fun j e => .inr (Option.some.inj e).symm); have hS2 := Lib.hid (hS.out _ (grownBy_cell hg2.out hm (Ne.symm hr0))); clear hb1) | (go_at_call 59; refine (iNeed_ok _).mono ?_; rintro e w5 ⟨rfl, hw5⟩; subst hw5) | (go_at_call 71; refine hS2.out.mono ?_; rintro e w3 ⟨g, rfl, hx0, hst, hb3⟩; have hst := Lib.hid hst; have hR4 := Lib.hid (hR2.out.mono hb3); have gg := Lib.hid (grownBy_below hg2.out hb3); clear hb3) | (at_make; refine wpList_make_own w3 rfl _ _ 22 rfl w3.heap.size 3 i (.int .i64 0) 1 Tryd.underlying22 hi hz0 hz1 .i64 .i64 _ 7 rfl rfl (by omega) (by rw [hz2]; omega) (by unfold maxLen; omega) (Nat.le_refl _) ?_; intro w4 hown4 hgr4; have hb4 : Hid (Below w3.heap.size w3 w4) := (Below.refl _ _).grown hgr4 (Nat.le_refl _) (by intro k e; cases e); clear hx0))
        have hst2 : Strs w3 (.slice (some ⟨g, 1, none⟩) R.length 7) R := by rw [HNL.out]; exact hst.out
        obtain ⟨ao, cap, hsl, hi1, hi2, hi3⟩ := hst2.open_
        cases hsl
        have HI := Lib.hid hi3
        clear hi3
        go_loopg [13, 61] 7 (fun gg s13 s61 wr => ∃ k : Nat, k ≤ 7 ∧ 7 - k ≤ gg ∧ s61 = .int .i64 k ∧ Hid (Below w3.heap.size w3 wr) ∧ Hid ((R.take k).all PR.numOk = true) ∧ Aside (wr.ownsRow w3.heap.size 3 1 s13 k (((R.take k).map PR.numV).map (Value.int .i64))))
        case atStart => exact ⟨0, Nat.zero_le _, by omega, rfl, hb4.out, rfl, hown4⟩
        case round =>
          obtain ⟨k, hk, hg, rfl, hbr, hall, hown⟩ := hrel
          have hNL := HNL.out
          by_cases hlt : k < R.length
          · obtain ⟨b', off, hbo, hbs, hry, hc⟩ := HI.out k hlt
            cases hbo
            have hmea : ∀ g : Nat, 7 - k ≤ g → 7 - (k + 1) < g := fun g h => by omega
            have hc := (hbr.out.cell hbs).trans hc
            try rw [Nat.zero_add] at hc
            have hstep : Hid (((R.take (k + 1)).map PR.numV).map (Value.int .i64) = ((R.take k).map PR.numV).map (Value.int .i64) ++ [Value.int .i64 (P01.parse R[k]).1]) := by
              show _ = _
              rw [List.take_succ_eq_append_getElem hlt]
              simp only [List.map_append, List.map_cons, List.map_nil]
              rfl
            have hltz : (k : Int) < (7 : Int) := by omega
            have hkk : k ≤ 1000000 := by omega
            by_cases hok : PR.numOk R[k] = true
            · have hnx : Hid ((R.take (k + 1)).all PR.numOk = true) := by
                show _ = _
                rw [List.take_succ_eq_append_getElem hlt, List.all_append, hall.out]
                simpa using hok
              obtain ⟨q1, q2⟩ := PR.numOk_iff.1 hok
              clear hok hNL
              generalize R[k] = y at *
              have hP := Lib.hid (Parse_any y wr hry)
              generalize (P01.parse y).1 = z at *
              generalize (P01.parse y).2 = z2 at *
              subst q1
              clear hry
              go_wp2_with (first | (go_at_call 95; refine hP.out.mono ?_; rintro e w6 ⟨rfl, hb6⟩; have hown6 := owns_below' hown.out hb6; have hbb := Below.of hbr.out hb6) | (go_at_call 59; refine (iNeed_ok _).mono ?_; rintro e w7 ⟨rfl, rfl⟩) | (at_builtin; refine app_new rfl _ _ 22 rfl 3 1 8 _ Tryd.underlying22 infoI' rfl (by decide) (w0 := w3) (B0 := w3.heap.size) rfl hown6 hbb (Nat.le_refl _) hbb.size _ 1 1 rfl (by intro u hu; simp at hu; subst hu; rfl) rfl (by omega) (by omega) ?_; intro v8 w8 hown8 hb8 hbs8 hgr8))
              go_roundg (7 - (k + 1))
              case measure => exact hmea _ hg
              case rel =>
                refine ⟨k + 1, by omega, by omega, by go_num, hb8, hnx, ?_⟩
                rw [hstep.out]
                exact hown8
            · have hno : (decide ((P01.parse R[k]).2 = 0) && decide (0 ≤ (P01.parse R[k]).1)) = false := by
                have : PR.numOk R[k] = false := Bool.eq_false_iff.2 hok
                exact this
              have hnot : Hid (PR.lineN [97, 105, 103] 7 7 s = none) := hnone.out (Bool.eq_false_iff.2 fun ha => hok (List.all_eq_true.1 ha _ (List.getElem_mem hlt)))
              clear hok hNL
              generalize R[k] = y at *
              have hP := Lib.hid (Parse_any y wr hry)
              generalize (P01.parse y).1 = z at *
              generalize (P01.parse y).2 = z2 at *
              by_cases hz2 : z2 = 0
              · subst hz2
                have hz0 : decide (0 ≤ z) = false := by simpa using hno
                clear hry hno
                go_wp2_with (first | (go_at_call 95; refine hP.out.mono ?_; rintro e w6 ⟨rfl, hb6⟩; have hbb := Lib.hid (Below.of hbr.out hb6)) | (go_at_call 59; refine (iNeed_no _).mono ?_; rintro e w7 ⟨rfl, rfl⟩))
                exact ⟨rfl, grownBy_below gg.out hbb.out, .inr ⟨hnot.out, rfl⟩⟩
              · have hz2b : (z2 == 0) = false := by simpa using hz2
                clear hry hno
                go_wp2_with (first | (go_at_call 95; refine hP.out.mono ?_; rintro e w6 ⟨rfl, hb6⟩; have hbb := Lib.hid (Below.of hbr.out hb6)) | (go_at_call 59; refine (iNeed_no _).mono ?_; rintro e w7 ⟨rfl, rfl⟩))
                exact ⟨rfl, grownBy_below gg.out hbb.out, .inr ⟨hnot.out, rfl⟩⟩
          · have hltz : ¬ (k : Int) < (7 : Int) := by omega
            obtain rfl : k = R.length := by omega
            have hall := hall.out
            rw [List.take_length] at hall
            have hyes := Lib.hid (hsome.out hall)
            have hOut : Hid (OwnI wr w.heap.size u13 (R.map PR.numV)) := by
              refine ⟨?_, fun x hx => ?_⟩
              · have := hown.out
                rw [List.take_length] at this
                rw [List.length_map]
                exact World.ownsRow.mono this gg.out.size
              · obtain ⟨t, ht, rfl⟩ := List.mem_map.1 hx
                have := PR.numV_rng (List.all_eq_true.1 hall t ht)
                unfold rng
                omega
            clear hown hg hk hlt hall
            go_wp2_with fail
            go_ret
            exact ⟨grownBy_below gg.out hbr.out, .inl ⟨_, q, _, hyes.out, rfl, hOut.out, hR4.out.mono hbr.out⟩⟩
      · have hres : Hid (PR.lineN [97, 105, 103] 7 7 s = none) := by
          show _ = _
          rw [hn.out, hok.out, if_neg (by rw [decide_eq_false h1]; simp)]
        clear hn hok hbody hxR hpl hcl hp h0
        by_cases h7 : 7 ≤ R.length
        · have e1 : (7 : Int) ≤ (R.length : Int) := by omega
          have e2 : decide ((R.length : Int) ≤ 7) = false := decide_eq_false (by omega)
          clear h1 h7
          go_enter Tryd.func58, Tryd.ntmps58
          go_wp2_with (first | (go_at_call 48; refine hC.out.mono ?_; rintro e w1 ⟨rfl, hb1⟩; have hR1 := Lib.hid (h.out.mono hb1); have hgb1 := Lib.hid (grownBy_below (O := r) (World.grownBy.refl _ _) hb1); have d0 := hR1.out.cell 0 _ rfl; have f0 := hR1.out.frozen 0; have hR2 := Lib.hid (hR1.out.set 0 (.string ⟨q.toArray⟩)); have hg2 := Lib.hid (grownBy_two hgb1.out (set_grown' w1 r 0 (.string ⟨q.toArray⟩)) fun j e => .inr (Option.some.inj e).symm); have hS2 := Lib.hid (hS.out _ (grownBy_cell hg2.out hm (Ne.symm hr0))); clear hb1) | (go_at_call 59; refine (iNeed_no _).mono ?_; rintro e w5 ⟨rfl, rfl⟩) | (go_at_call 59; refine (iNeed_ok _).mono ?_; rintro e w5 ⟨rfl, hw5⟩; subst hw5) | (go_at_call 71; refine hS2.out.mono ?_; rintro e w3 ⟨g, rfl, hx0, hst, hb3⟩; have gg := Lib.hid (grownBy_below hg2.out hb3); clear hb3))
          all_goals exact ⟨rfl, gg.out, .inr ⟨hres.out, rfl⟩⟩
        · have e1 : decide ((7 : Int) ≤ (R.length : Int)) = false := decide_eq_false (by omega)
          clear h1 h7
          go_enter Tryd.func58, Tryd.ntmps58
          go_wp2_with (first | (go_at_call 48; refine hC.out.mono ?_; rintro e w1 ⟨rfl, hb1⟩; have hR1 := Lib.hid (h.out.mono hb1); have hgb1 := Lib.hid (grownBy_below (O := r) (World.grownBy.refl _ _) hb1); have d0 := hR1.out.cell 0 _ rfl; have f0 := hR1.out.frozen 0; have hR2 := Lib.hid (hR1.out.set 0 (.string ⟨q.toArray⟩)); have hg2 := Lib.hid (grownBy_two hgb1.out (set_grown' w1 r 0 (.string ⟨q.toArray⟩)) fun j e => .inr (Option.some.inj e).symm); have hS2 := Lib.hid (hS.out _ (grownBy_cell hg2.out hm (Ne.symm hr0))); clear hb1) | (go_at_call 59; refine (iNeed_no _).mono ?_; rintro e w5 ⟨rfl, rfl⟩) | (go_at_call 59; refine (iNeed_ok _).mono ?_; rintro e w5 ⟨rfl, hw5⟩; subst hw5) | (go_at_call 71; refine hS2.out.mono ?_; rintro e w3 ⟨g, rfl, hx0, hst, hb3⟩; have gg := Lib.hid (grownBy_below hg2.out hb3); clear hb3))
          all_goals exact ⟨rfl, gg.out, .inr ⟨hres.out, rfl⟩⟩
    · have e0 : (x0 == [97, 105, 103]) = false := beq_eq_false_iff_ne.2 h2
      have e0n : ¬ x0.toArray = #[97, 105, 103] := fun h => h2 (by have := congrArg Array.toList h; simpa using this)
      have hres : Hid (PR.lineN [97, 105, 103] 7 7 s = none) := by
        show _ = _
        rw [hn.out, hok.out, if_neg (by rw [e0]; simp)]
      clear hn hok hbody hxR hpl hcl hp h0 h2
      go_enter Tryd.func58, Tryd.ntmps58
      go_wp2_with (first | (go_at_call 48; refine hC.out.mono ?_; rintro e w1 ⟨rfl, hb1⟩; have hR1 := Lib.hid (h.out.mono hb1); have hgb1 := Lib.hid (grownBy_below (O := r) (World.grownBy.refl _ _) hb1); have d0 := hR1.out.cell 0 _ rfl; have f0 := hR1.out.frozen 0; have hR2 := Lib.hid (hR1.out.set 0 (.string ⟨q.toArray⟩)); have hg2 := Lib.hid (grownBy_two hgb1.out (set_grown' w1 r 0 (.string ⟨q.toArray⟩)) fun j e => .inr (Option.some.inj e).symm); have hS2 := Lib.hid (hS.out _ (grownBy_cell hg2.out hm (Ne.symm hr0))); clear hb1) | (go_at_call 59; refine (iNeed_no _).mono ?_; rintro e w5 ⟨rfl, rfl⟩) | (go_at_call 59; refine (iNeed_ok _).mono ?_; rintro e w5 ⟨rfl, hw5⟩; subst hw5) | (go_at_call 71; refine hS2.out.mono ?_; rintro e w3 ⟨g, rfl, hx0, hst, hb3⟩; have gg := Lib.hid (grownBy_below hg2.out hb3); clear hb3))
      exact ⟨rfl, gg.out, .inr ⟨hres.out, rfl⟩⟩

end Go.Proofs.YtjcaejdokillgaaDoor

namespace Go.Proofs.YtjcaejdokillgaaDoor
open Go.RowKit Go.Shelf
attribute [local simp] mk_get

theorem NumsI.some {ahead : List UInt8} {a b r : Nat} {s : List UInt8} {w w' : World} {e : Ending} (h : NumsI ahead a b r s w e w') {l : List Int} {q : List UInt8} (hl : PR.lineN ahead a b s = .some (l, q)) :
    ∃ v, e = .returned v ∧ OwnI w' w.heap.size v l ∧ RdI w' r q ∧ w.grownBy w' (.some r) := by
  obtain ⟨hg, ⟨l', q', v, h1, rfl, h2, h3⟩ | ⟨h1, _⟩⟩ := h
  · rw [hl] at h1
    obtain ⟨rfl, rfl⟩ := Prod.mk.inj (Option.some.inj h1)
    exact ⟨v, rfl, h2, h3, hg⟩
  · rw [hl] at h1; cases h1
theorem NumsI.none {ahead : List UInt8} {a b r : Nat} {s : List UInt8} {w w' : World} {e : Ending} (h : NumsI ahead a b r s w e w') (hl : PR.lineN ahead a b s = .none) :
    e = .panicked synC ∧ w.grownBy w' (.some r) := by
  obtain ⟨hg, ⟨l', q', v, h1, _⟩ | ⟨_, rfl⟩⟩ := h
  · rw [hl] at h1; cases h1
  · exact ⟨rfl, hg⟩

/-- what so many lines leave -/
def ListI {α : Type} (f : Nat → List Int → Option α) (a b n : Nat) (Own : World → Nat → Value → List α → Prop) (r : Nat) (s : List UInt8) (w : World) (e : Ending) (w' : World) : Prop :=
  w.grownBy w' (some r) ∧ ((∃ l q v, PR.many f a b 0 n s = some (l, q) ∧ e = .returned v ∧ Own w' w.heap.size v l ∧ RdI w' r q ∧ q.length + n ≤ s.length) ∨ (PR.many f a b 0 n s = none ∧ e = .panicked synC))

set_option maxRecDepth 100000 in
set_option maxHeartbeats 4000000 in
theorem iList_any (n r : Nat) (s : List UInt8) (m : Int) (w : World) (h : RdI w r s) (hs : s.length ≤ 65536) (hm : w.cell? ⟨0, 0, none⟩ = some (.int .i64 m)) (hr0 : r ≠ 0) (hn : n ≤ 1099511627776) :
    Calls Tryd.prog 60 #[.pointer (some ⟨r, 0, none⟩), .int .i64 n] w fun e w' => ListI PJ.oneF 1 1 n OwnI r s w e w' := by
  have HR := Lib.hid h
  have HM := Lib.hid hm
  have HS := Lib.hid hs
  clear h hm hs
  go_enter Tryd.func60, Tryd.ntmps60
  go_wp2_with fail
  go_loopg [5, 7] n (fun gg s5 s7 wr => ∃ (k : Nat) (sk : List UInt8) (lk : List Int), n - k ≤ gg ∧ k ≤ n ∧ s7 = .int .i64 k ∧ Hid (w.grownBy wr (some r)) ∧ Hid (RdI wr r sk) ∧ Hid (PR.ManyAt PJ.oneF 1 1 n s k sk lk) ∧ Aside (OwnI wr w.heap.size s5 lk))
  case atStart => exact ⟨0, s, [], by omega, Nat.zero_le _, rfl, World.grownBy.refl _ _, HR.out, PR.ManyAt.zero, World.ownsRow_nil _ _ _ _, fun x hx => by cases hx⟩
  case round =>
    obtain ⟨k, sk, lk, hg, hk, rfl, hgr, hRk, hMA, hown⟩ := hrel
    have hmk := Lib.hid (grownBy_cell hgr.out HM.out (Ne.symm hr0))
    have hskl := hMA.out.2.2.1
    have hlk : lk.length = k := hMA.out.2.1
    have HS' := HS.out
    have hkk : k ≤ 65536 := by omega
    have hN := Lib.hid (iLine_any 1 1 r sk m wr hRk.out (by omega) hmk.out hr0 (by omega))
    by_cases hlt : k < n
    · have hltz : (k : Int) < (n : Int) := by omega
      have hmea : Hid (∀ g : Nat, n - k ≤ g → n - (k + 1) < g) := fun g h => by omega
      have HG := Lib.hid hg
      clear hg HS'
      cases hl : PR.lineN [] 1 1 sk with
      | none =>
        have hno := Lib.hid (hMA.out.no1 hlt hl)
        have hN2 := Lib.hid (hN.out.mono fun e w' hh => NumsI.none hh hl)
        clear hN hl
        go_wp2_with (go_at_call 58; refine hN2.out.mono ?_; rintro e w1 ⟨rfl, hg1⟩)
        exact ⟨rfl, grownBy_two hgr.out hg1 (fun j e => .inr (Option.some.inj e).symm), .inr ⟨hno.out, rfl⟩⟩
      | some x =>
        obtain ⟨ns, q⟩ := x
        obtain ⟨y, rfl, hy0, hy1⟩ := PR.line1 hl
        have hMA1 := Lib.hid (hMA.out.next hlt hl (x := y) rfl)
        have hN2 := Lib.hid (hN.out.mono fun e w' hh => NumsI.some hh hl)
        clear hN hl
        go_wp2_with (first | (go_at_call 58; refine hN2.out.mono ?_; rintro e w1 ⟨v, rfl, hv, hR1, hg1⟩; obtain ⟨g1, o1, c1, rfl, hc1, hgs1⟩ := hv.one; have hR1 := Lib.hid hR1; have hgg1 := Lib.hid (grownBy_two hgr.out hg1 (fun j e => .inr (Option.some.inj e).symm)); have hown1 := Lib.hid (owns_other hown.out.1 hg1 hRk.out (by decide)); clear hg1 hv) | (at_builtin; refine app_new rfl _ _ 22 rfl 3 1 8 _ Tryd.underlying22 infoI' rfl (by decide) (w0 := w1) (B0 := 0) rfl hown1.out (Below.refl 0 w1) (Nat.zero_le _) hgg1.out.size _ 1 1 rfl (by intro u hu; simp at hu; subst hu; rfl) rfl (by omega) (by omega) ?_; intro v4 w4 hown4 hb4 hbs4 hgr4))
        obtain ⟨hgg4, hR4⟩ := app_reader hgg1.out hown1.out hgr4 hR1.out (by decide)
        go_roundg (n - (k + 1))
        case measure => exact hmea.out _ HG.out
        case rel =>
          refine ⟨k + 1, q, lk ++ [y], Nat.le_refl _, hlt, by go_num, hgg4, hR4, hMA1.out, ?_, ?_⟩
          · have e1 : (lk ++ [y]).length = lk.length + 1 := by simp
            rw [e1, List.map_append]
            exact hown4
          · intro z hz
            rcases List.mem_append.1 hz with hz | hz
            · exact hown.out.2 z hz
            · rw [List.mem_singleton.1 hz]
              unfold rng
              omega
    · have hltz : ¬ (k : Int) < (n : Int) := by omega
      have hdone := Lib.hid (hMA.out.done hlt)
      obtain rfl : k = n := by omega
      clear hN
      go_wp2_with fail
      go_ret
      exact ⟨hgr.out, .inl ⟨lk, sk, _, hdone.out, rfl, hown.out, hRk.out, hskl⟩⟩

/-- what a number leaves -/
def NumI (r : Nat) (s : List UInt8) (w : World) (e : Ending) (w' : World) : Prop :=
  w.grownBy w' (some r) ∧ ((∃ n q, PI.numB s = some (n, q) ∧ e = .returned (.int .i64 (n : Int)) ∧ RdI w' r q ∧ n < 2097152) ∨ (PI.numB s = none ∧ e = .panicked synC))

theorem and127 (a : UInt8) : bits BinOp.and IntKind.i64 (a.toNat : Int) 127 = ((a.toNat % 128 : Nat) : Int) := by
  have h : (List.range 256).all (fun v => bits BinOp.and IntKind.i64 (v : Int) 127 == ((v % 128 : Nat) : Int)) = true := by kernel_rfl
  have h1 := List.all_eq_true.1 h a.toNat (List.mem_range.2 a.toNat_lt)
  exact eq_of_beq h1

end Go.Proofs.YtjcaejdokillgaaDoor

namespace Go.Proofs.YtjcaejdokillgaaDoor
open Go.RowKit Go.Shelf
attribute [local simp] mk_get

/-- of a number k groups are read -/
def NumAt (s : List UInt8) (k acc : Nat) : Prop := k ≤ s.length ∧ acc < 128 ^ k ∧ PI.numB s = (PI.numG (3 - k) (k == 0) (s.drop k)).map fun p => (acc + 128 ^ k * p.1, p.2)
theorem NumAt.zero (s : List UInt8) : NumAt s 0 0 := by
  refine ⟨Nat.zero_le _, by decide, ?_⟩
  show PI.numG 3 true s = (PI.numG 3 true s).map _
  cases PI.numG 3 true s with
  | none => rfl
  | some p => simp
section
variable {s : List UInt8} {k acc : Nat}
theorem NumAt.short (h : NumAt s k acc) (hk : k < 3) (hs : ¬ k < s.length) : PI.numB s = none := by
  rw [h.2.2, List.drop_eq_nil_of_le (by omega), show 3 - k = (2 - k) + 1 by omega]
  rfl
theorem NumAt.last (h : NumAt s k acc) (hk : k < 3) (hs : k < s.length) (ha : s[k].toNat < 128) (hz : k = 0 ∨ 0 < s[k].toNat) : PI.numB s = some (acc + 128 ^ k * s[k].toNat, s.drop (k + 1)) := by
  rw [h.2.2, List.drop_eq_getElem_cons hs, show 3 - k = (2 - k) + 1 by omega, PI.numG, if_pos ha, if_pos (by rcases hz with h | h; exact .inl (by simp [h]); exact .inr h)]
  rfl
theorem NumAt.bad (h : NumAt s k acc) (hk : k < 3) (hs : k < s.length) (ha : s[k].toNat < 128) (h0 : k ≠ 0) (hz : ¬ 0 < s[k].toNat) : PI.numB s = none := by
  rw [h.2.2, List.drop_eq_getElem_cons hs, show 3 - k = (2 - k) + 1 by omega, PI.numG, if_pos ha, if_neg (by rintro (h | h); simp at h; exact h0 h; exact hz h)]
  rfl
theorem NumAt.more (h : NumAt s k acc) (hk : k < 3) (hs : k < s.length) (ha : ¬ s[k].toNat < 128) : NumAt s (k + 1) (acc + 128 ^ k * (s[k].toNat % 128)) := by
  obtain ⟨_, h2, h3⟩ := h
  refine ⟨hs, ?_, ?_⟩
  · have : s[k].toNat % 128 ≤ 127 := by omega
    have h4 : 128 ^ k * (s[k].toNat % 128) ≤ 128 ^ k * 127 := Nat.mul_le_mul_left _ this
    rw [Nat.pow_succ]
    omega
  · rw [h3, List.drop_eq_getElem_cons hs, show 3 - k = (3 - (k + 1)) + 1 by omega, PI.numG, if_neg ha]
    have e : (k + 1 == 0) = false := rfl
    rw [e]
    cases PI.numG (3 - (k + 1)) false (s.drop (k + 1)) with
    | none => rfl
    | some p =>
      simp only [Option.map_some, Option.some.injEq, Prod.mk.injEq, and_true]
      rw [Nat.pow_succ, Nat.mul_add, Nat.mul_assoc, Nat.add_assoc]
theorem NumAt.done (h : NumAt s 3 acc) : PI.numB s = none := by
  rw [h.2.2]
  rfl
end
theorem num_small {s q : List UInt8} {n : Nat} (h : PI.numB s = some (n, q)) : n < 2097152 := (PI.numG_back _ _ _ _ _ h).2.2

theorem or_nat (x y : Nat) (hx : x < 2 ^ 62) (hy : y < 2 ^ 62) : bits BinOp.or IntKind.i64 (x : Int) (y : Int) = ((x ||| y : Nat) : Int) := by
  have h1 : (BitVec.ofInt 64 (x : Int)).toNat = x := by
    rw [BitVec.ofInt_natCast, BitVec.toNat_ofNat]; exact Nat.mod_eq_of_lt (by omega)
  have h2 : (BitVec.ofInt 64 (y : Int)).toNat = y := by
    rw [BitVec.ofInt_natCast, BitVec.toNat_ofNat]; exact Nat.mod_eq_of_lt (by omega)
  show IntKind.i64.wrap ((BitVec.ofInt 64 (x : Int) ||| BitVec.ofInt 64 (y : Int)).toNat : Int) = _
  rw [BitVec.toNat_or, h1, h2]
  have := Nat.or_lt_two_pow hx hy
  exact IntWalk.i64_in _ (by omega)
theorem or_groups (x B i : Nat) (hi : i ≤ 14) (hx : x < 2 ^ i) (hB : B < 128) : bits BinOp.or IntKind.i64 (x : Int) ((B : Int) * ((2 ^ i : Nat) : Int)) = ((x + 2 ^ i * B : Nat) : Int) := by
  have hp : 2 ^ i ≤ 2 ^ 14 := Nat.pow_le_pow_right (by omega) hi
  have hm : B * 2 ^ i ≤ 127 * 2 ^ 14 := Nat.mul_le_mul (by omega) hp
  have e : ((B : Int) * ((2 ^ i : Nat) : Int)) = ((B * 2 ^ i : Nat) : Int) := by rw [Int.natCast_mul]
  rw [e, or_nat x (B * 2 ^ i) (by omega) (by omega)]
  have h := Nat.shiftLeft_add_eq_or_of_lt hx B
  rw [Nat.shiftLeft_eq] at h
  rw [Nat.or_comm, ← h, Nat.add_comm, Nat.mul_comm (2 ^ i) B]

theorem drop_ext (s : List UInt8) (k : Nat) : (ByteArray.mk s.toArray).extract k s.length = ⟨(s.drop k).toArray⟩ := by
  apply ByteArray.ext
  simp only [ByteArray.data_extract]
  apply Array.ext'
  simp
  exact List.take_of_length_le (by simp)

set_option maxRecDepth 100000 in
set_option maxHeartbeats 16000000 in
theorem iNumber_any (r : Nat) (s : List UInt8) (w : World) (h : RdI w r s) (hs : s.length ≤ 65536) :
    Calls Tryd.prog 61 #[.pointer (some ⟨r, 0, none⟩)] w fun e w' => NumI r s w e w' := by
  have HR := Lib.hid h
  have c0 := h.cell 0 _ rfl
  have f0 := h.frozen 0
  clear h
  go_enter Tryd.func61, Tryd.ntmps61
  go_wp2_with fail
  go_loopg [3, 6] 3 (fun gg s3 s6 wr => ∃ (k acc : Nat) (K : Int), k ≤ 3 ∧ 3 - k ≤ gg ∧ s6 = .int .i64 K ∧ s3 = .int .i64 (acc : Int) ∧ w = wr ∧ Hid (NumAt s k acc) ∧ K = (k : Int))
  case atStart => exact ⟨0, 0, _, by omega, by omega, rfl, rfl, rfl, NumAt.zero s, rfl⟩
  case round =>
    obtain ⟨k, acc, K, hk, hg, rfl, rfl, rfl, hNA, hK⟩ := hrel
    obtain h0 | h0 | h0 | h0 : k = 0 ∨ k = 1 ∨ k = 2 ∨ k = 3 := by omega
    · subst h0
      obtain rfl : K = 0 := hK
      by_cases hlt : 0 < s.length
      · have hz : (0 : Int) < (s.length : Int) := by omega
        have hx := drop_ext s (0 + 1)
        have hl1 : (0 : Int) + 1 ≤ (s.length : Int) := by omega
        have hlast := Lib.hid (hNA.out.last (by decide) hlt)
        have hbad := Lib.hid (hNA.out.bad (by decide) hlt)
        have hmore := Lib.hid (hNA.out.more (by decide) hlt)
        obtain ⟨a, ha⟩ : ∃ a, s[0] = a := ⟨_, rfl⟩
        rw [ha] at hlast hbad hmore
        have han := and127 a
        have hlt8 := a.toNat_lt
        obtain ⟨A, hA⟩ : ∃ A, a.toNat = A := ⟨_, rfl⟩
        rw [hA] at han hlt8 hlast hbad hmore
        obtain ⟨B, hB⟩ : ∃ B, B = A % 128 := ⟨_, rfl⟩
        rw [← hB] at han hmore
        have hBl : B < 128 := by omega
        have HBd := Lib.hid hB
        obtain ⟨D, hD⟩ : ∃ D, D = s.drop (0 + 1) := ⟨_, rfl⟩
        rw [← hD] at hx hlast
        have HD := Lib.hid hD
        clear hB hD
        have hor := or_groups acc B (7 * 0) (by decide) (by have := hNA.out.2.1; simpa using this) hBl
        obtain ⟨acc2, hacc2⟩ : ∃ z, z = acc + 2 ^ (7 * 0) * B := ⟨_, rfl⟩
        rw [← hacc2] at hor
        rw [show ((B : Int) * ((2 ^ (7 * 0) : Nat) : Int)) = (B : Int) by simp] at hor
        by_cases ha8 : A < 128
        · have ha8z : (A : Int) < 128 := by omega
          by_cases hok : (0 : Nat) = 0 ∨ 0 < A
          · have hyes := Lib.hid (hlast.out ha8 hok)
            have hAB : B = A := by have := HBd.out; omega
            have hsm := num_small hyes.out
            have hres : Hid (PI.numB s = some (acc2, D)) := by rw [hacc2, hAB]; exact hyes.out
            have hsm2 := num_small hres.out
            have h0A : (0 : Int) < (A : Int) ∨ (0 : Nat) = 0 := by rcases hok with h | h; exact .inr h; exact .inl (by omega)
            have hg0 : Hid (w.grownBy (w.setCell ⟨r, 0, none⟩ (.string ⟨D.toArray⟩)) (some r)) := set_grown' w r 0 _
            have hr1 : Hid (RdI (w.setCell ⟨r, 0, none⟩ (.string ⟨D.toArray⟩)) r D) := HR.out.set 0 _
            clear hlast hbad hmore hok hyes hsm hacc2 hAB ha8 hg hk
            skip
            go_wp2_with (go_at_call 59; refine (iNeed_ok _).mono ?_; rintro e w1 ⟨rfl, rfl⟩)
            go_ret
            exact ⟨hg0.out, .inl ⟨acc2, _, hres.out, rfl, hr1.out, hsm2⟩⟩
          · have hno := Lib.hid (hbad.out ha8 (fun h => hok (.inl h)) (fun h => hok (.inr h)))
            have hA0 : A = 0 := by omega
            have hK0 : ¬ (0 : Nat) = 0 := fun h => hok (.inl h)
            clear hlast hbad hmore hok hacc2 ha8
            subst hA0
            (try exact absurd rfl hK0)
            all_goals go_wp2_with (first | (go_at_call 59; refine (iNeed_no _).mono ?_; rintro e w1 ⟨rfl, rfl⟩) | (go_at_call 59; refine (iNeed_ok _).mono ?_; rintro e w1 ⟨rfl, rfl⟩))
            all_goals exact ⟨rfl, World.grownBy.refl _ _, .inr ⟨hno.out, rfl⟩⟩
        · have ha8z : ¬ (A : Int) < 128 := by omega
          have hnx := Lib.hid (hmore.out ha8)
          have hnx2 : Hid (NumAt s (0 + 1) acc2) := by
            have := hnx.out
            rw [hacc2, show 2 ^ (7 * 0) = 128 ^ 0 from rfl]
            exact this
          clear hlast hbad hmore hacc2 ha8 hnx
          go_wp2_with (go_at_call 59; refine (iNeed_ok _).mono ?_; rintro e w1 ⟨rfl, rfl⟩)
          go_roundg (3 - (0 + 1))
          case measure => omega
          case rel => exact ⟨0 + 1, acc2, _, by omega, Nat.le_refl _, rfl, rfl, rfl, hnx2, by first | rfl | decide⟩
      · have hz : ¬ (0 : Int) < (s.length : Int) := by omega
        have hno := Lib.hid (hNA.out.short (by decide) hlt)
        obtain rfl : s = [] := List.eq_nil_of_length_eq_zero (by omega)
        go_wp2_with (go_at_call 59; refine (iNeed_no _).mono ?_; rintro e w1 ⟨rfl, rfl⟩)
        exact ⟨rfl, World.grownBy.refl _ _, .inr ⟨hno.out, rfl⟩⟩
    · subst h0
      obtain rfl : K = 1 := hK
      by_cases hlt : 1 < s.length
      · have hz : (1 : Int) < (s.length : Int) := by omega
        have hx := drop_ext s (1 + 1)
        have hl1 : (1 : Int) + 1 ≤ (s.length : Int) := by omega
        have hlast := Lib.hid (hNA.out.last (by decide) hlt)
        have hbad := Lib.hid (hNA.out.bad (by decide) hlt)
        have hmore := Lib.hid (hNA.out.more (by decide) hlt)
        obtain ⟨a, ha⟩ : ∃ a, s[1] = a := ⟨_, rfl⟩
        rw [ha] at hlast hbad hmore
        have han := and127 a
        have hlt8 := a.toNat_lt
        obtain ⟨A, hA⟩ : ∃ A, a.toNat = A := ⟨_, rfl⟩
        rw [hA] at han hlt8 hlast hbad hmore
        obtain ⟨B, hB⟩ : ∃ B, B = A % 128 := ⟨_, rfl⟩
        rw [← hB] at han hmore
        have hBl : B < 128 := by omega
        have HBd := Lib.hid hB
        obtain ⟨D, hD⟩ : ∃ D, D = s.drop (1 + 1) := ⟨_, rfl⟩
        rw [← hD] at hx hlast
        have HD := Lib.hid hD
        clear hB hD
        have hor := or_groups acc B (7 * 1) (by decide) (by have := hNA.out.2.1; simpa using this) hBl
        obtain ⟨acc2, hacc2⟩ : ∃ z, z = acc + 2 ^ (7 * 1) * B := ⟨_, rfl⟩
        rw [← hacc2] at hor
        rw [show ((2 ^ (7 * 1) : Nat) : Int) = 128 from rfl] at hor
        by_cases ha8 : A < 128
        · have ha8z : (A : Int) < 128 := by omega
          by_cases hok : (1 : Nat) = 0 ∨ 0 < A
          · have hyes := Lib.hid (hlast.out ha8 hok)
            have hAB : B = A := by have := HBd.out; omega
            have hsm := num_small hyes.out
            have hres : Hid (PI.numB s = some (acc2, D)) := by rw [hacc2, hAB]; exact hyes.out
            have hsm2 := num_small hres.out
            have h0A : (0 : Int) < (A : Int) ∨ (1 : Nat) = 0 := by rcases hok with h | h; exact .inr h; exact .inl (by omega)
            have hg0 : Hid (w.grownBy (w.setCell ⟨r, 0, none⟩ (.string ⟨D.toArray⟩)) (some r)) := set_grown' w r 0 _
            have hr1 : Hid (RdI (w.setCell ⟨r, 0, none⟩ (.string ⟨D.toArray⟩)) r D) := HR.out.set 0 _
            clear hlast hbad hmore hok hyes hsm hacc2 hAB ha8 hg hk
            have h0A : 0 < A := h0A.elim (fun h => by omega) (fun h => absurd h (by decide))
            go_wp2_with (go_at_call 59; refine (iNeed_ok _).mono ?_; rintro e w1 ⟨rfl, rfl⟩)
            go_ret
            exact ⟨hg0.out, .inl ⟨acc2, _, hres.out, rfl, hr1.out, hsm2⟩⟩
          · have hno := Lib.hid (hbad.out ha8 (fun h => hok (.inl h)) (fun h => hok (.inr h)))
            have hA0 : A = 0 := by omega
            have hK0 : ¬ (1 : Nat) = 0 := fun h => hok (.inl h)
            clear hlast hbad hmore hok hacc2 ha8
            subst hA0
            (try exact absurd rfl hK0)
            all_goals go_wp2_with (first | (go_at_call 59; refine (iNeed_no _).mono ?_; rintro e w1 ⟨rfl, rfl⟩) | (go_at_call 59; refine (iNeed_ok _).mono ?_; rintro e w1 ⟨rfl, rfl⟩))
            all_goals exact ⟨rfl, World.grownBy.refl _ _, .inr ⟨hno.out, rfl⟩⟩
        · have ha8z : ¬ (A : Int) < 128 := by omega
          have hnx := Lib.hid (hmore.out ha8)
          have hnx2 : Hid (NumAt s (1 + 1) acc2) := by
            have := hnx.out
            rw [hacc2, show 2 ^ (7 * 1) = 128 ^ 1 from rfl]
            exact this
          clear hlast hbad hmore hacc2 ha8 hnx
          go_wp2_with (go_at_call 59; refine (iNeed_ok _).mono ?_; rintro e w1 ⟨rfl, rfl⟩)
          go_roundg (3 - (1 + 1))
          case measure => omega
          case rel => exact ⟨1 + 1, acc2, _, by omega, Nat.le_refl _, rfl, rfl, rfl, hnx2, by first | rfl | decide⟩
      · have hz : ¬ (1 : Int) < (s.length : Int) := by omega
        have hno := Lib.hid (hNA.out.short (by decide) hlt)
        clear hlt
        go_wp2_with (go_at_call 59; refine (iNeed_no _).mono ?_; rintro e w1 ⟨rfl, rfl⟩)
        exact ⟨rfl, World.grownBy.refl _ _, .inr ⟨hno.out, rfl⟩⟩
    · subst h0
      obtain rfl : K = 2 := hK
      by_cases hlt : 2 < s.length
      · have hz : (2 : Int) < (s.length : Int) := by omega
        have hx := drop_ext s (2 + 1)
        have hl1 : (2 : Int) + 1 ≤ (s.length : Int) := by omega
        have hlast := Lib.hid (hNA.out.last (by decide) hlt)
        have hbad := Lib.hid (hNA.out.bad (by decide) hlt)
        have hmore := Lib.hid (hNA.out.more (by decide) hlt)
        obtain ⟨a, ha⟩ : ∃ a, s[2] = a := ⟨_, rfl⟩
        rw [ha] at hlast hbad hmore
        have han := and127 a
        have hlt8 := a.toNat_lt
        obtain ⟨A, hA⟩ : ∃ A, a.toNat = A := ⟨_, rfl⟩
        rw [hA] at han hlt8 hlast hbad hmore
        obtain ⟨B, hB⟩ : ∃ B, B = A % 128 := ⟨_, rfl⟩
        rw [← hB] at han hmore
        have hBl : B < 128 := by omega
        have HBd := Lib.hid hB
        obtain ⟨D, hD⟩ : ∃ D, D = s.drop (2 + 1) := ⟨_, rfl⟩
        rw [← hD] at hx hlast
        have HD := Lib.hid hD
        clear hB hD
        have hor := or_groups acc B (7 * 2) (by decide) (by have := hNA.out.2.1; simpa using this) hBl
        obtain ⟨acc2, hacc2⟩ : ∃ z, z = acc + 2 ^ (7 * 2) * B := ⟨_, rfl⟩
        rw [← hacc2] at hor
        rw [show ((2 ^ (7 * 2) : Nat) : Int) = 16384 from rfl] at hor
        by_cases ha8 : A < 128
        · have ha8z : (A : Int) < 128 := by omega
          by_cases hok : (2 : Nat) = 0 ∨ 0 < A
          · have hyes := Lib.hid (hlast.out ha8 hok)
            have hAB : B = A := by have := HBd.out; omega
            have hsm := num_small hyes.out
            have hres : Hid (PI.numB s = some (acc2, D)) := by rw [hacc2, hAB]; exact hyes.out
            have hsm2 := num_small hres.out
            have h0A : (0 : Int) < (A : Int) ∨ (2 : Nat) = 0 := by rcases hok with h | h; exact .inr h; exact .inl (by omega)
            have hg0 : Hid (w.grownBy (w.setCell ⟨r, 0, none⟩ (.string ⟨D.toArray⟩)) (some r)) := set_grown' w r 0 _
            have hr1 : Hid (RdI (w.setCell ⟨r, 0, none⟩ (.string ⟨D.toArray⟩)) r D) := HR.out.set 0 _
            clear hlast hbad hmore hok hyes hsm hacc2 hAB ha8 hg hk
            have h0A : 0 < A := h0A.elim (fun h => by omega) (fun h => absurd h (by decide))
            go_wp2_with (go_at_call 59; refine (iNeed_ok _).mono ?_; rintro e w1 ⟨rfl, rfl⟩)
            go_ret
            exact ⟨hg0.out, .inl ⟨acc2, _, hres.out, rfl, hr1.out, hsm2⟩⟩
          · have hno := Lib.hid (hbad.out ha8 (fun h => hok (.inl h)) (fun h => hok (.inr h)))
            have hA0 : A = 0 := by omega
            have hK0 : ¬ (2 : Nat) = 0 := fun h => hok (.inl h)
            clear hlast hbad hmore hok hacc2 ha8
            subst hA0
            (try exact absurd rfl hK0)
            all_goals go_wp2_with (first | (go_at_call 59; refine (iNeed_no _).mono ?_; rintro e w1 ⟨rfl, rfl⟩) | (go_at_call 59; refine (iNeed_ok _).mono ?_; rintro e w1 ⟨rfl, rfl⟩))
            all_goals exact ⟨rfl, World.grownBy.refl _ _, .inr ⟨hno.out, rfl⟩⟩
        · have ha8z : ¬ (A : Int) < 128 := by omega
          have hnx := Lib.hid (hmore.out ha8)
          have hnx2 : Hid (NumAt s (2 + 1) acc2) := by
            have := hnx.out
            rw [hacc2, show 2 ^ (7 * 2) = 128 ^ 2 from rfl]
            exact this
          clear hlast hbad hmore hacc2 ha8 hnx
          go_wp2_with (go_at_call 59; refine (iNeed_ok _).mono ?_; rintro e w1 ⟨rfl, rfl⟩)
          go_roundg (3 - (2 + 1))
          case measure => omega
          case rel => exact ⟨2 + 1, acc2, _, by omega, Nat.le_refl _, rfl, rfl, rfl, hnx2, by first | rfl | decide⟩
      · have hz : ¬ (2 : Int) < (s.length : Int) := by omega
        have hno := Lib.hid (hNA.out.short (by decide) hlt)
        clear hlt
        go_wp2_with (go_at_call 59; refine (iNeed_no _).mono ?_; rintro e w1 ⟨rfl, rfl⟩)
        exact ⟨rfl, World.grownBy.refl _ _, .inr ⟨hno.out, rfl⟩⟩
    · subst h0
      obtain rfl : K = 3 := hK
      have hno := Lib.hid hNA.out.done
      clear hNA
      go_wp2_with (go_at_call 59; refine (iNeed_no _).mono ?_; rintro e w1 ⟨rfl, rfl⟩)
      exact ⟨rfl, World.grownBy.refl _ _, .inr ⟨hno.out, rfl⟩⟩

end Go.Proofs.YtjcaejdokillgaaDoor

namespace Go.Proofs.YtjcaejdokillgaaDoor
open Go.RowKit Go.Shelf
attribute [local simp] mk_get

theorem Cut_gen (c : UInt8) (s : List UInt8) (m : Int) (w : World) (hs : s.length ≤ 1048576) (hm : w.cell? ⟨0, 0, none⟩ = some (.int .i64 m)) :
    Calls Tryd.prog 48 #[.string ⟨s.toArray⟩, .string ⟨#[c]⟩] w fun e w' => (∃ za zb zc, e = .returned (.tuple #[.string za, .string zb, .bool zc])) ∧ Below w.heap.size w w' := by
  refine (Cut_one c s m w hs hm).mono ?_
  rintro e w' ⟨hb, ⟨p', q', h1, rfl⟩ | ⟨h1, rfl⟩⟩
  · exact ⟨⟨_, _, _, rfl⟩, hb⟩
  · exact ⟨⟨_, _, _, rfl⟩, hb⟩

/-- what the names leave -/
def NamesI (r : Nat) (s : List UInt8) (w : World) (e : Ending) (w' : World) : Prop :=
  w.grownBy w' (some r) ∧ ((∃ l v, PR.names false PI.namB s = some l ∧ e = .returned v ∧ OwnN w' w.heap.size v l ∧ l.length ≤ s.length) ∨ (PR.names false PI.namB s = none ∧ e = .panicked synC))

set_option maxRecDepth 100000 in
set_option maxHeartbeats 8000000 in
theorem iNames_any (r : Nat) (s : List UInt8) (m : Int) (w : World) (h : RdI w r s) (hs : s.length ≤ 65536) (hm : w.cell? ⟨0, 0, none⟩ = some (.int .i64 m)) (hr0 : r ≠ 0) :
    Calls Tryd.prog 62 #[.pointer (some ⟨r, 0, none⟩)] w fun e w' => NamesI r s w e w' := by
  have HR := Lib.hid h
  have HM := Lib.hid hm
  have HS := Lib.hid hs
  clear h hm hs
  go_enter Tryd.func62, Tryd.ntmps62
  go_wp2_with fail
  go_loopg [3] s.length (fun gg s3 wr => ∃ (k : Nat) (sk : List UInt8) (lk : List PC.Nam) (v3 : Value), sk.length ≤ gg ∧ v3 = s3 ∧ Hid (w.grownBy wr (some r)) ∧ Hid (RdI wr r sk) ∧ Hid (PR.NamesAt false PI.namB s k sk lk) ∧ Aside (OwnN wr w.heap.size v3 lk))
  case atStart => exact ⟨0, s, [], _, Nat.le_refl _, rfl, World.grownBy.refl _ _, HR.out, PR.NamesAt.zero, World.ownsRow_nil _ _ _ _, fun x hx => by cases hx⟩
  case round =>
    obtain ⟨k, sk, lk, v3, hg, rfl, hgr, hRk, hMA, hown⟩ := hrel
    have hmk := Lib.hid (grownBy_cell hgr.out HM.out (Ne.symm hr0))
    have hskl := hMA.out.2.1
    have hlk : lk.length = k := hMA.out.1
    have HS' := HS.out
    have hkk : k ≤ 65536 := by omega
    have hc0 := hRk.out.cell 0 _ rfl
    by_cases hlt : sk = []
    · subst hlt
      have hdone := Lib.hid hMA.out.done
      have hskl := Lib.hid hskl
      clear HS' hg
      go_wp2_with fail
      go_ret
      exact ⟨hgr.out, .inl ⟨lk, _, hdone.out, rfl, hown.out, by rw [hlk]; have := hskl.out; simpa using this⟩⟩
    · have e0 : sk.isEmpty = false := by
        cases sk with
        | nil => exact absurd rfl hlt
        | cons a b => rfl
      have e0n : ¬ sk.toArray = #[] := fun h => hlt (by have := congrArg Array.toList h; simpa using this)
      have HG := Lib.hid hg
      cases hp : PR.at1 10 sk with
      | none =>
        have hC1 := Lib.hid (Cut_none 10 sk m wr (by omega) hmk.out hp)
        have hC := Lib.hid fun (y : World) (hy : y.cell? ⟨0, 0, none⟩ = some (.int .i64 m)) => Cut_gen 32 sk m y (by omega) hy
        have hno := Lib.hid (hMA.out.no1 hlt hp)
        clear hp hg HS' hlt hskl
        go_wp2_with (first | (go_at_call 48; have _ := hdone1; refine hC2.out.mono ?_; rintro e w2 ⟨⟨za, zb, zc, rfl⟩, hb2⟩; have hbb2 := Lib.hid (Below.of hbb1.out hb2); clear hb2) | (go_at_call 48; refine hC1.out.mono ?_; rintro e w1 ⟨rfl, hb1⟩; have hC2 := Lib.hid (hC.out w1 ((hb1.cell (World.block_lt_of_cell? wr _ hmk.out)).trans hmk.out)); have hbb1 := Lib.hid hb1; have hdone1 : True := trivial; clear hb1) | (go_at_call 59; refine (iNeed_no _).mono ?_; rintro e w5 ⟨rfl, rfl⟩))
        exact ⟨rfl, grownBy_below hgr.out hbb2.out, .inr ⟨hno.out, rfl⟩⟩
      | some x =>
        obtain ⟨p, q⟩ := x
        have hC1 := Lib.hid (Cut_some 10 sk p q m wr (by omega) hmk.out hp)
        have hlen := PR.at1_lt hp
        have hpl : p.length ≤ 65536 := by omega
        have hql : q.length < sk.length := by omega
        have hncm : ¬ (false = true ∧ p = [99]) := fun h => by cases h.1
        cases hq : PR.at1 32 p with
        | none =>
          have hC := Lib.hid fun (y : World) (hy : y.cell? ⟨0, 0, none⟩ = some (.int .i64 m)) => Cut_none 32 p m y (by omega) hy hq
          have hno := Lib.hid (hMA.out.no2 hp hncm (by unfold PI.namB; rw [hq]))
          clear hp hg HS' hlt hskl hlen hncm hq
          go_wp2_with (first | (go_at_call 48; have _ := hdone1; refine hC2.out.mono ?_; rintro e w2 ⟨rfl, hb2⟩; have hbb2 := Lib.hid (Below.of hbb1.out hb2); clear hb2) | (go_at_call 48; refine hC1.out.mono ?_; rintro e w1 ⟨rfl, hb1⟩; have hC2 := Lib.hid (hC.out w1 ((hb1.cell (World.block_lt_of_cell? wr _ hmk.out)).trans hmk.out)); have hbb1 := Lib.hid hb1; have hdone1 : True := trivial; clear hb1) | (go_at_call 59; refine (iNeed_no _).mono ?_; rintro e w5 ⟨rfl, rfl⟩))
          exact ⟨rfl, grownBy_below hgr.out hbb2.out, .inr ⟨hno.out, rfl⟩⟩
        | some x =>
          obtain ⟨hh, tt⟩ := x
          have hnf : PI.namB p = if PI.namOkB hh = true then some ⟨hh.take 1, PR.numV (hh.drop 1), tt⟩ else none := by unfold PI.namB; rw [hq]
          have hno' : PI.namOkB hh = false → PR.names false PI.namB s = none := fun hf => hMA.out.no2 hp hncm (by rw [hnf, hf]; rfl)
          have hC := Lib.hid fun (y : World) (hy : y.cell? ⟨0, 0, none⟩ = some (.int .i64 m)) => Cut_some 32 p hh tt m y (by omega) hy hq
          have hll := PR.at1_lt hq
          by_cases h1 : 1 < hh.length
          case neg =>
            have hno := Lib.hid (hno' (by unfold PI.namOkB; rw [decide_eq_false h1]; rfl))
            have d1 : decide ((1 : Int) < (hh.length : Int)) = false := decide_eq_false (by omega)
            clear hp hg HS' hlt hskl hlen hncm hq hnf hno' hll h1
            go_wp2_with (first | (go_at_call 48; have _ := hdone1; refine hC2.out.mono ?_; rintro e w2 ⟨rfl, hb2⟩; have hbb2 := Lib.hid (Below.of hbb1.out hb2); clear hb2) | (go_at_call 48; refine hC1.out.mono ?_; rintro e w1 ⟨rfl, hb1⟩; have hC2 := Lib.hid (hC.out w1 ((hb1.cell (World.block_lt_of_cell? wr _ hmk.out)).trans hmk.out)); have hbb1 := Lib.hid hb1; have hdone1 : True := trivial; clear hb1) | (go_at_call 59; refine (iNeed_no _).mono ?_; rintro e w5 ⟨rfl, rfl⟩))
            exact ⟨rfl, grownBy_below hgr.out hbb2.out, .inr ⟨hno.out, rfl⟩⟩
          obtain ⟨c0, hr, rfl⟩ : ∃ c0 hr, hh = c0 :: hr := by
            cases hh with
            | nil => simp at h1
            | cons a b => exact ⟨a, b, rfl⟩
          have hrn0 : 0 < hr.length := by simpa using h1
          have hok : PI.namOkB (c0 :: hr) = PR.numOk hr := by
            unfold PI.namOkB
            rw [decide_eq_true h1]
            rfl
          rw [hok] at hno' hnf
          have hx1 := bytes_head c0 hr
          have hx2 := bytes_tail c0 hr
          have d1 : (1 : Int) < (hr.length : Int) + 1 := by omega
          have d2 : 1 < hr.length + 1 := by omega
          have hrl : hr.length ≤ 65536 := by simp at hll; omega
          have htl : tt.length ≤ 65536 := by simp at hll; omega
          have hP := Lib.hid fun y => Parse_any hr y (by omega)
          clear h1 hq hok hll
          cases hk3 : PR.numOk hr with
          | false =>
            have hno := Lib.hid (hno' hk3)
            have hkk3 : (decide ((P01.parse hr).2 = 0) && decide (0 ≤ (P01.parse hr).1)) = false := hk3
            generalize (P01.parse hr).1 = z at *
            generalize (P01.parse hr).2 = z2 at *
            by_cases hz2 : z2 = 0
            · subst hz2
              have hz0 : decide (0 ≤ z) = false := by simpa using hkk3
              clear hp hg HS' hlt hskl hlen hncm hnf hno' hk3 hkk3
              go_wp2_with (first | (go_at_call 48; have _ := hdone1; refine hC2.out.mono ?_; rintro e w2 ⟨rfl, hb2⟩; have hbb2 := Lib.hid (Below.of hbb1.out hb2); clear hb2) | (go_at_call 48; refine hC1.out.mono ?_; rintro e w1 ⟨rfl, hb1⟩; have hC2 := Lib.hid (hC.out w1 ((hb1.cell (World.block_lt_of_cell? wr _ hmk.out)).trans hmk.out)); have hbb1 := Lib.hid hb1; have hdone1 : True := trivial; clear hb1) | (go_at_call 59; refine (iNeed_no _).mono ?_; rintro e w5 ⟨rfl, rfl⟩) | (go_at_call 59; refine (iNeed_ok _).mono ?_; rintro e w5 ⟨rfl, hw5⟩; subst hw5) | (go_at_call 95; refine (hP.out _).mono ?_; rintro e w6 ⟨rfl, hb6⟩; have hbb6 := Lib.hid (Below.of hbb2.out hb6); clear hb6))
              exact ⟨rfl, grownBy_below hgr.out hbb6.out, .inr ⟨hno.out, rfl⟩⟩
            · have hz2b : (z2 == 0) = false := by simpa using hz2
              clear hp hg HS' hlt hskl hlen hncm hnf hno' hk3 hkk3
              go_wp2_with (first | (go_at_call 48; have _ := hdone1; refine hC2.out.mono ?_; rintro e w2 ⟨rfl, hb2⟩; have hbb2 := Lib.hid (Below.of hbb1.out hb2); clear hb2) | (go_at_call 48; refine hC1.out.mono ?_; rintro e w1 ⟨rfl, hb1⟩; have hC2 := Lib.hid (hC.out w1 ((hb1.cell (World.block_lt_of_cell? wr _ hmk.out)).trans hmk.out)); have hbb1 := Lib.hid hb1; have hdone1 : True := trivial; clear hb1) | (go_at_call 59; refine (iNeed_no _).mono ?_; rintro e w5 ⟨rfl, rfl⟩) | (go_at_call 59; refine (iNeed_ok _).mono ?_; rintro e w5 ⟨rfl, hw5⟩; subst hw5) | (go_at_call 95; refine (hP.out _).mono ?_; rintro e w6 ⟨rfl, hb6⟩; have hbb6 := Lib.hid (Below.of hbb2.out hb6); clear hb6))
              exact ⟨rfl, grownBy_below hgr.out hbb6.out, .inr ⟨hno.out, rfl⟩⟩
          | true =>
            obtain ⟨q1, q2⟩ := PR.numOk_iff.1 hk3
            have hNr0 := PR.numV_rng hk3
            obtain ⟨N, hN⟩ : ∃ N, N = PR.numV hr := ⟨_, rfl⟩
            rw [hk3] at hnf
            have hMA1 := Lib.hid (hMA.out.next hp hncm (x := ⟨[c0], N, tt⟩) (by rw [hnf, hN]; rfl))
            have hNr : Hid (rng N) := by
              show rng N
              rw [hN]
              unfold rng
              omega
            have hzN : (P01.parse hr).1 = N := hN.symm
            rw [hzN] at hP q2
            rw [q1] at hP
            have hql := Lib.hid hql
            have hRd2 : Hid (∀ y, Below wr.heap.size wr y → RdI y r sk) := fun y hy => hRk.out.mono hy
            clear hp hg HS' hlt hskl hlen hncm hnf hno' hk3 hN hzN q1 hNr0
            go_wp2_with (first | (go_at_call 48; have _ := hdone1; refine hC2.out.mono ?_; rintro e w2 ⟨rfl, hb2⟩; have hbb2 := Lib.hid (Below.of hbb1.out hb2); clear hb2) | (go_at_call 48; refine hC1.out.mono ?_; rintro e w1 ⟨rfl, hb1⟩; have hC2 := Lib.hid (hC.out w1 ((hb1.cell (World.block_lt_of_cell? wr _ hmk.out)).trans hmk.out)); have hbb1 := Lib.hid hb1; have hdone1 : True := trivial; clear hb1) | (go_at_call 59; refine (iNeed_ok _).mono ?_; rintro e w5 ⟨rfl, hw5⟩; subst hw5) | (go_at_call 95; refine (hP.out _).mono ?_; rintro e w6 ⟨rfl, hb6⟩; have hbb6 := Lib.hid (Below.of hbb2.out hb6); clear hb6) | (at_builtin; refine app_new rfl _ _ 25 rfl 68 3 40 _ Tryd.underlying25 infoNamJ rfl (by decide) (w0 := w6) (B0 := 0) rfl (owns_below' hown.out.1 hbb6.out) (Below.refl 0 w6) (Nat.zero_le _) (Nat.le_trans hgr.out.size hbb6.out.size) _ 1 1 rfl (by intro u hu; simp at hu; rcases hu with rfl | rfl | rfl <;> rfl) rfl (by omega) (by omega) ?_; intro v8 w8 hown8 hb8 hbs8 hgr8; obtain ⟨hgg8, hR8⟩ := app_reader (grownBy_below hgr.out hbb6.out) (owns_below' hown.out.1 hbb6.out) hgr8 (hRd2.out _ hbb6.out) (by decide); have hgg8 := Lib.hid hgg8; have hR8 := Lib.hid hR8; have hown8 := Lib.hid hown8; have e1' := hR8.out.cell 0 _ rfl; have f1' := hR8.out.frozen 0; clear hgr8))
            have hgg9 := Lib.hid (grownBy_two hgg8.out (set_grown' w8 r 0 (.string ⟨q.toArray⟩)) (fun j e => .inr (Option.some.inj e).symm))
            have hR9 : Hid (RdI (w8.setCell ⟨r, 0, none⟩ (.string ⟨q.toArray⟩)) r q) := hR8.out.set 0 _
            have hown9 := Lib.hid (owns_other hown8.out (set_grown' w8 r 0 (.string ⟨q.toArray⟩)) hR8.out (by decide))
            go_roundg q.length
            case measure => have := hql.out; have := HG.out; omega
            case rel =>
              refine ⟨k + 1, q, lk ++ [⟨[c0], N, tt⟩], _, Nat.le_refl _, rfl, hgg9, hR9, hMA1, ?_, ?_⟩
              · have e1 : (lk ++ [(⟨[c0], N, tt⟩ : PC.Nam)]).length = lk.length + 1 := by simp
                rw [e1, List.flatMap_append]
                exact hown9.out
              · intro u hu
                rcases List.mem_append.1 hu with hu | hu
                · exact hown.out.2 u hu
                · rw [List.mem_singleton.1 hu]
                  exact ⟨hNr.out, by simp, by simp only; omega⟩

end Go.Proofs.YtjcaejdokillgaaDoor
