/- Contract: a literal's cone. -/
import Derived.Test.YtmnionocehflmaaDoorWalkN2
namespace Go.Proofs.YtmnionocehflmaaDoor
open Go.RowKit Go.Shelf

theorem PC.closed_of (c : PC.Circ) (L : List Int) (h : ∀ j (_ : j < c.ands.length) (h : j < c.ands.length), PC.closedAt c.ands[j] L) : PC.Closed c L := fun a ha => by
  obtain ⟨j, hj, rfl⟩ := List.getElem_of_mem ha
  exact h j hj hj

set_option maxRecDepth 100000 in
set_option maxHeartbeats 4000000 in
theorem rCone_any (c : PC.Circ) (vc v : Value) (l : Int) (w : World) (h : IsCirc w vc c) (hR : PC.Right c) (hv : Ints w v [l]) (hl : rng l) :
    Calls Tryd.prog 13 #[vc, v] w fun e w' => ∃ u, e = .returned u ∧ ∃ L, Ints w' u L ∧ PC.Okc (PC.varOf l) L ∧ PC.Closed c L ∧ (PC.varOf l ≠ 0 → (PC.varOf l : Int) ∈ L) ∧ Below w.heap.size w w' := by
  have hF := Lib.hid fun (k : Nat) (hk : k < c.ands.length) w1 (hb : Below w.heap.size w w1) => rfirst_any c vc k w1 (h.mono hb) hR hk
  obtain ⟨ao, cap, rfl, hlc, hcm, hc⟩ := hv.open_
  have HC := Lib.hid (hc 0 (by simp))
  clear hv hc
  obtain ⟨vi, vl, vo, vb, vv, va, vn, rfl, hp, hm⟩ := h
  obtain ⟨aa, capa, rfl, ha1, ha2, ha3⟩ := hp.ands.open_
  clear hp
  have HG := Lib.hid ha3
  clear ha3
  have HR := Lib.hid hR
  clear hR
  have hb0 : Below w.heap.size w (w.alloc (.cells #[.int .i64 c.max, vi, vl, vo, vb, vv, .slice aa c.ands.length capa, vn] 27)) := (Below.refl _ _).alloc (Nat.le_refl _) _
  have hbx0 := Lib.hid (Box8.new w (.int .i64 c.max) vi vl vo vb vv (.slice aa c.ands.length capa) vn 27)
  obtain ⟨W, hW⟩ : ∃ W, W = w.alloc (.cells #[.int .i64 c.max, vi, vl, vo, vb, vv, .slice aa c.ands.length capa, vn] 27) := ⟨_, rfl⟩
  rw [← hW] at hb0 hbx0
  have HW := Lib.hid hW
  clear hW
  have hB0 := Lib.hid hb0
  have hVl : Hid (∀ w1, Calls _ _ _ _ _) := fun w1 => rVar_any l w1 hl
  have hVb : ((PC.varOf l : Nat) : Int) ≤ 9223372036854775807 := by have := hl.2; unfold PC.varOf; omega
  generalize PC.varOf l = V at *
  go_enter Tryd.func13, Tryd.ntmps13
  go_wp2
  rw [← HW.out]
  go_loopg [5, 6] 1 (fun gg s5 s6 wr => ∃ k : Nat, k ≤ 1 ∧ 1 - k ≤ gg ∧ s6 = .int .i64 k ∧ Below W.heap.size W wr ∧ Aside (Ints wr s5 (if k = 0 then [] else PC.put0 [] V)))
  case atStart => exact ⟨0, by omega, by omega, rfl, Below.refl _ _, (show Ints W _ [] from ⟨Cells.nil _ _, by simp⟩)⟩
  case round =>
    obtain ⟨k, hk, hg, rfl, hbr, hI⟩ := hrel
    by_cases hlt : k = 0
    · subst hlt
      have hI : Hid (Ints wr u5 []) := hI.out
      obtain ⟨b, off, he, hbs, _, hcell⟩ := HC.out
      obtain rfl : ao = some ⟨b, off, none⟩ := by simpa using he
      have hcell : wr.cell? ⟨b, off, none⟩ = some (.int .i64 l) := by simpa using ((Below.of hB0.out hbr).cell hbs).trans hcell
      have hP := Lib.hid (rPut_any [] u5 V wr hI.out ⟨by omega, hVb⟩ (by simp))
      by_cases hz : V = 0
      · have hz2 : ((V : Int) != 0) = false := by simp [hz]
        go_wp2_with (go_at_call 35; refine (hVl.out _).mono ?_; rintro e w5 ⟨rfl, rfl⟩)
        go_roundg 0
        case measure => omega
        case rel => exact ⟨1, by omega, by omega, by go_num, hbr, (show Ints _ _ _ by rw [if_neg (by decide), PC.put0, if_pos (by omega)]; exact hI.out)⟩
      · have hz2 : ((V : Int) != 0) = true := by simp; omega
        go_wp2_with (go_at_call 35; refine (hVl.out _).mono ?_; rintro e w5 ⟨rfl, rfl⟩)
        refine hP.out.mono ?_
        rintro e w1 ⟨u, rfl, ho, hb1⟩
        have ho1 := Lib.hid ho.ints
        clear ho
        go_wp2_with fail
        go_roundg 0
        case measure => omega
        case rel => exact ⟨1, by omega, by omega, by go_num, Below.of hbr hb1, (show Ints _ _ _ by rw [if_neg (by decide), PC.put0, if_neg (by omega)]; exact ho1.out)⟩
    · obtain rfl : k = 1 := by omega
      have hI : Hid (Ints wr u5 (PC.put0 [] V)) := hI.out
      obtain ⟨W1, hW1⟩ : ∃ W1, W1 = wr := ⟨_, rfl⟩
      subst hW1
      go_wp2_with fail
      go_loopg [5, 7] 2050 (fun gg s5 s7 wr => ∃ (m : Nat) (L : List Int), m ≤ L.length + 1 ∧ 2050 - m ≤ gg ∧ s7 = .int .i64 ((m : Int) - 1) ∧ Below W1.heap.size W1 wr ∧ Aside (Ints wr s5 L) ∧ Aside (PC.Okc V L ∧ (V ≠ 0 → (V : Int) ∈ L) ∧ (m = L.length + 1 → PC.Closed c L)))
      case atStart =>
        refine ⟨0, _, by omega, by omega, rfl, Below.refl _ _, hI.out, (show _ ∧ _ from ⟨?_, fun h0 => ?_, fun h0 => absurd h0 (by omega)⟩)⟩
        · unfold PC.put0
          split
          · exact ⟨List.Pairwise.nil, by simp⟩
          · exact ⟨PC.put_rising _ _ List.Pairwise.nil, fun x hx => Or.inl (by simpa using (PC.mem_put _ _ _).1 hx)⟩
        · exact (PC.mem_put0 _ _ _).2 (Or.inr ⟨by omega, rfl⟩)
      case round =>
        obtain ⟨m, L, hm1, hg1, rfl, hbo, hIo, A⟩ := hrel
        have hIo := Lib.hid hIo.out
        have A := Lib.hid A.out
        have hLlen := A.out.1.len
        obtain ⟨ao5, cap5, rfl, hl51, hl52, _⟩ := hIo.out.open_
        by_cases hgo : m ≤ L.length
        · have hltz : (m : Int) - 1 < (L.length : Int) := by omega
          have hmea : ∀ g : Nat, 2050 - m ≤ g → 2050 - (L.length + 1) < g := fun g h => by omega
          have HMEA := Lib.hid hmea
          have HG1 := Lib.hid hg1
          clear hmea hg1
          obtain ⟨W2, hW2⟩ : ∃ W2, W2 = wr := ⟨_, rfl⟩
          subst hW2
          go_wp2_with fail
          go_loopg [5, 8] c.ands.length (fun gg s5 s8 wr => ∃ (k : Nat) (L' : List Int), k ≤ c.ands.length ∧ c.ands.length - k ≤ gg ∧ s8 = .int .i64 k ∧ Below W2.heap.size W2 wr ∧ Aside (Ints wr s5 L') ∧ Aside (PC.Rnd c V L k L'))
          case atStart => exact ⟨0, L, Nat.zero_le _, by omega, rfl, Below.refl _ _, hIo.out, PC.Rnd.start c A.out.1⟩
          case round =>
            obtain ⟨k, L', hk, hgk, rfl, hbi, hIi, AR⟩ := hrel
            have hIi := Lib.hid hIi.out
            have AR := Lib.hid AR.out
            have hbW1 := Lib.hid (Below.of (Below.of hbr hbo) hbi)
            have hbxr := Lib.hid (hbx0.out.mono hbW1.out)
            obtain ⟨q0, q1, q2, q3, q4, q5, q6, q7⟩ := hbxr.out
            by_cases hlt : k < c.ands.length
            · have hmei : Hid (∀ g : Nat, c.ands.length - k ≤ g → c.ands.length - (k + 1) < g) := fun g h => by omega
              obtain ⟨b, off, rfl, hbs', ⟨hxr, hyr, hzr⟩, c0, c1, c2⟩ := HG.out k hlt
              have hbw := Below.of hB0.out hbW1.out
              have c0 := (hbw.cell hbs').trans c0
              have c1 := (hbw.cell hbs').trans c1
              have c2 := (hbw.cell hbs').trans c2
              have hgat := HR.out.gats _ (List.getElem_mem hlt)
              have hdef := HR.out.defs _ (PC.mem_defs_gat c _ (List.getElem_mem hlt))
              have hmx := HR.out.max1
              have hskip : Hid (_ → _) := fun hn => AR.out.skip hlt hn
              have hnext : Hid _ := Lib.hid (AR.out.next hlt (by have := hgat.1; unfold PC.varOf; omega) (by have := hgat.2.1; unfold PC.varOf; omega))
              have hvl : (PC.varOf c.ands[k].left : Int) ≤ 2048 := by have := hgat.1; unfold PC.varOf; omega
              have hvr : (PC.varOf c.ands[k].right : Int) ≤ 2048 := by have := hgat.2.1; unfold PC.varOf; omega
              have hF1 := hF.out k hlt
              have hx0 : decide (c.ands[k].lit < 0) = false := by simp; omega
              generalize hx : c.ands[k] = x at *
              clear hx hgat hdef hmx
              obtain ⟨x, xl, xr⟩ := x
              simp only at hxr hyr hzr c0 c1 c2 hskip hnext hvl hvr hx0
              have hLl := AR.out.ok.len
              have hVx : Hid (∀ w1, Calls _ _ _ _ _) := fun w1 => rVar_any x w1 hxr
              have hVy : Hid (∀ w1, Calls _ _ _ _ _) := fun w1 => rVar_any xl w1 hyr
              have hVz : Hid (∀ w1, Calls _ _ _ _ _) := fun w1 => rVar_any xr w1 hzr
              generalize PC.varOf x = vx at *
              generalize PC.varOf xl = y at *
              generalize PC.varOf xr = z at *
              have hltz : (k : Int) < (c.ands.length : Int) := by omega
              have hbx3 := Lib.hid (Box3.new wr (.int .i64 x) (.int .i64 xl) (.int .i64 xr) 34)
              have hbA := Lib.hid ((Below.refl wr.heap.size wr).alloc (Nat.le_refl _) (.cells #[.int .i64 x, .int .i64 xl, .int .i64 xr] 34))
              obtain ⟨WA, hWA⟩ : ∃ WA, WA = wr.alloc (.cells #[.int .i64 x, .int .i64 xl, .int .i64 xr] 34) := ⟨_, rfl⟩
              rw [← hWA] at hbx3 hbA
              have HWA := Lib.hid hWA
              clear hWA
              go_wp2_with fail
              rw [← HWA.out]
              obtain ⟨r0, r1, r2⟩ := hbx3.out
              clear q0 q1 q2 q3 q4 q5 q6 q7
              obtain ⟨q0, q1, q2, q3, q4, q5, q6, q7⟩ := hbxr.out.mono hbA.out
              have hIA := Lib.hid (hIi.out.mono hbA.out)
              cases hh : PC.hasI L' (vx : Int) with
              | false =>
                have hHas := Lib.hid (rHas_any L' u5 vx WA hIA.out)
                rw [hh] at hHas
                have hn : (vx : Int) ∉ L' := fun hm => by
                  rw [PC.hasI_eq, List.contains_iff_mem.2 hm] at hh; cases hh
                have hrn := Lib.hid (hskip.out hn)
                clear hh hn hskip hnext
                go_wp2_with (first | (go_at_call 35; refine (hVx.out _).mono ?_; rintro e w5 ⟨rfl, rfl⟩) | (go_at_call 37; refine hHas.out.mono ?_; rintro e w6 ⟨rfl, rfl⟩))
                go_roundg (c.ands.length - (k + 1))
                case measure => exact hmei.out _ hgk
                case rel => exact ⟨k + 1, L', by omega, by omega, by go_num, Below.of hbi hbA.out, hIA.out, hrn.out⟩
              | true =>
                have hHas := Lib.hid (rHas_any L' u5 vx WA hIA.out)
                rw [hh] at hHas
                clear hh hskip
                have hF2 := Lib.hid (hF1 WA (Below.of hbw hbA.out))
                go_wp2_with (first | (go_at_call 35; refine (hVx.out _).mono ?_; rintro e w5 ⟨rfl, rfl⟩) | (go_at_call 37; refine hHas.out.mono ?_; rintro e w6 ⟨rfl, rfl⟩))
                refine hF2.out.mono ?_
                rintro e w6 ⟨rfl, hb6⟩
                have hbA6 := Lib.hid (Below.of hbA.out hb6)
                have hbx6 := Lib.hid (hbx3.out.mono hb6)
                have hI6 := Lib.hid (hIA.out.mono hb6)
                clear r0 r1 r2 q0 q1 q2 q3 q4 q5 q6 q7 hF1 hF2 hHas hb6 hbA hbx3 hIA c0 c1 c2 hbw
                obtain ⟨r0, r1, r2⟩ := hbx6.out
                by_cases hy0 : y = 0
                · have hy2 : ((y : Int) != 0) = false := by simp [hy0]
                  by_cases hz0 : z = 0
                  · have hz2 : ((z : Int) != 0) = false := by simp [hz0]
                    have hnx : Hid (PC.Rnd c V L (k + 1) L') := by
                      have := hnext.out
                      rw [PC.put0, if_pos (by omega), PC.put0, if_pos (by omega)] at this
                      exact this
                    go_wp2_with (go_at_call 35; first | (with_reducible refine (hVy.out _).mono ?_; rintro e w5 ⟨rfl, rfl⟩) | (with_reducible refine (hVz.out _).mono ?_; rintro e w5 ⟨rfl, rfl⟩))
                    go_roundg (c.ands.length - (k + 1))
                    case measure => exact hmei.out _ hgk
                    case rel => exact ⟨k + 1, L', by omega, by omega, by go_num, Below.of hbi hbA6.out, hI6.out, hnx.out⟩
                  · have hz2 : ((z : Int) != 0) = true := by simp; omega
                    have hnx : Hid (PC.Rnd c V L (k + 1) (PC.put L' z)) := by
                      have := hnext.out
                      rw [PC.put0, if_neg (by omega), PC.put0, if_pos (by omega)] at this
                      exact this
                    go_wp2_with (go_at_call 35; first | (with_reducible refine (hVy.out _).mono ?_; rintro e w5 ⟨rfl, rfl⟩) | (with_reducible refine (hVz.out _).mono ?_; rintro e w5 ⟨rfl, rfl⟩))
                    refine (rPut_any L' u5 z _ hI6.out ⟨by omega, by omega⟩ (by omega)).mono ?_
                    rintro e w7 ⟨u, rfl, ho, hb7⟩
                    have ho := Lib.hid ho.ints
                    go_wp2_with fail
                    go_roundg (c.ands.length - (k + 1))
                    case measure => exact hmei.out _ hgk
                    case rel => exact ⟨k + 1, _, by omega, by omega, by go_num, Below.of hbi (Below.of hbA6.out hb7), ho.out, hnx.out⟩
                · have hy2 : ((y : Int) != 0) = true := by simp; omega
                  by_cases hz0 : z = 0
                  · have hz2 : ((z : Int) != 0) = false := by simp [hz0]
                    have hnx : Hid (PC.Rnd c V L (k + 1) (PC.put L' y)) := by
                      have := hnext.out
                      rw [PC.put0, if_pos (by omega), PC.put0, if_neg (by omega)] at this
                      exact this
                    go_wp2_with (go_at_call 35; first | (with_reducible refine (hVy.out _).mono ?_; rintro e w5 ⟨rfl, rfl⟩) | (with_reducible refine (hVz.out _).mono ?_; rintro e w5 ⟨rfl, rfl⟩))
                    refine (rPut_any L' u5 y _ hI6.out ⟨by omega, by omega⟩ (by omega)).mono ?_
                    rintro e w7 ⟨u, rfl, ho, hb7⟩
                    have ho := Lib.hid ho.ints
                    have hbx7 := Lib.hid (hbx6.out.mono hb7)
                    clear r0 r1 r2
                    obtain ⟨r0, r1, r2⟩ := hbx7.out
                    go_wp2_with (go_at_call 35; first | (with_reducible refine (hVy.out _).mono ?_; rintro e w5 ⟨rfl, rfl⟩) | (with_reducible refine (hVz.out _).mono ?_; rintro e w5 ⟨rfl, rfl⟩))
                    go_roundg (c.ands.length - (k + 1))
                    case measure => exact hmei.out _ hgk
                    case rel => exact ⟨k + 1, _, by omega, by omega, by go_num, Below.of hbi (Below.of hbA6.out hb7), ho.out, hnx.out⟩
                  · have hz2 : ((z : Int) != 0) = true := by simp; omega
                    have hnx : Hid (PC.Rnd c V L (k + 1) (PC.put (PC.put L' y) z)) := by
                      have := hnext.out
                      rw [PC.put0, if_neg (by omega), PC.put0, if_neg (by omega)] at this
                      exact this
                    have hpl := (PC.put_len L' y).2
                    go_wp2_with (go_at_call 35; first | (with_reducible refine (hVy.out _).mono ?_; rintro e w5 ⟨rfl, rfl⟩) | (with_reducible refine (hVz.out _).mono ?_; rintro e w5 ⟨rfl, rfl⟩))
                    refine (rPut_any L' u5 y _ hI6.out ⟨by omega, by omega⟩ (by omega)).mono ?_
                    rintro e w7 ⟨u, rfl, ho, hb7⟩
                    have ho := Lib.hid ho.ints
                    have hbx7 := Lib.hid (hbx6.out.mono hb7)
                    clear r0 r1 r2
                    obtain ⟨r0, r1, r2⟩ := hbx7.out
                    go_wp2_with (go_at_call 35; first | (with_reducible refine (hVy.out _).mono ?_; rintro e w5 ⟨rfl, rfl⟩) | (with_reducible refine (hVz.out _).mono ?_; rintro e w5 ⟨rfl, rfl⟩))
                    refine (rPut_any _ u z _ ho.out ⟨by omega, by omega⟩ (by omega)).mono ?_
                    rintro e w8 ⟨u2, rfl, ho2, hb8⟩
                    have ho2 := Lib.hid ho2.ints
                    go_wp2_with fail
                    go_roundg (c.ands.length - (k + 1))
                    case measure => exact hmei.out _ hgk
                    case rel => exact ⟨k + 1, _, by omega, by omega, by go_num, Below.of hbi (Below.of (Below.of hbA6.out hb7) hb8), ho2.out, hnx.out⟩
            · have hltz : ¬ (k : Int) < (c.ands.length : Int) := by omega
              obtain rfl : k = c.ands.length := by omega
              go_wp2_with fail
              go_roundg (2050 - (L.length + 1))
              case measure => exact HMEA.out _ HG1.out
              case rel =>
                have hsl := AR.out.len
                exact ⟨L.length + 1, L', by omega, by omega, by go_num, Below.of hbo hbi, hIi.out, (show _ ∧ _ from ⟨AR.out.ok, fun h0 => AR.out.sub _ (A.out.2.1 h0), fun e => PC.closed_of c L' fun j hj h => AR.out.cl (by omega) j hj h⟩)⟩
        · have hltz : ¬ (m : Int) - 1 < (L.length : Int) := by omega
          go_wp2_with fail
          go_ret
          exact ⟨_, rfl, L, hIo.out, A.out.1, A.out.2.2 (by omega), A.out.2.1, Below.of hB0.out (Below.of hbr hbo)⟩

end Go.Proofs.YtmnionocehflmaaDoor
