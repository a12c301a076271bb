/- Contract: what holds in a frame, of a circuit that is right. -/
import Derived.Test.YtbjioniefalgpaaWalkH3
namespace Go.Proofs.Ytbjioniefalgpaa
open Go.RowKit Go.Shelf

theorem take_map_succ {α β : Type} (f : α → β) (l : List α) (k : Nat) (h : k < l.length) (pre : List β) : pre ++ (l.take (k + 1)).map f = (pre ++ (l.take k).map f) ++ [f l[k]] := by
  rw [List.take_succ_eq_append_getElem h, List.map_append, ← List.append_assoc]; rfl

set_option maxRecDepth 100000 in
set_option maxHeartbeats 8000000 in
theorem uFrame_good (c : PC.Circ) (assume lemmas known : List (List Int)) (bad depth budget : Int) (vq : Value) (fr : Int) (w : World) (h : IsQ w vq ⟨c, assume, lemmas, known, bad, depth, budget⟩) (hF : FitsQ ⟨c, assume, lemmas, known, bad, depth, budget⟩) (hck : PC.chk c = true) (g0 : 0 ≤ fr) (g1 : fr ≤ 80) :
    Calls Try.prog 24 #[vq, .int .i64 fr] w fun e w' => ∃ u, e = .returned u ∧ OutI w' w.heap.size u (PC.frameT c assume lemmas known fr) ∧ Below w.heap.size w w' := by
  obtain ⟨vi, vl, vo, vb, vv, va, vn, vA, vL, vK, rfl, hc, h1, h2, h3, r⟩ := h
  obtain ⟨f1, f2, f3, f4, f5, f6⟩ := hF
  dsimp only at *
  have hR := Lib.hid (PC.right_of c hck)
  have hp := hc.parts
  obtain ⟨a1, k1, rfl⟩ := hp.inputs.1.slice
  obtain ⟨a2, k2, rfl⟩ := hp.latches.1.slice
  obtain ⟨a3, k3, rfl⟩ := hp.outputs.1.slice
  obtain ⟨a4, k4, rfl⟩ := hp.bads.1.slice
  obtain ⟨a5, k5, rfl⟩ := hp.invars.1.slice
  obtain ⟨a6, k6, rfl⟩ := hp.ands.1.slice
  obtain ⟨a7, k7, rfl⟩ := hp.names.1.slice
  obtain ⟨aA, kA, rfl⟩ := h1.slice
  obtain ⟨aL, kL, rfl, hL1, hL2, hL3⟩ := h2.open_
  obtain ⟨aK, kK, rfl, hK1, hK2, hK3⟩ := h3.open_
  clear h2 h3 r hp
  have HL := Lib.hid hL3
  have HK := Lib.hid hK3
  clear hL3 hK3
  have hb0 : Below w.heap.size w ((w.alloc (.cells #[.int .i64 c.max, .slice a1 c.inputs.length k1, .slice a2 c.latches.length k2, .slice a3 c.outputs.length k3, .slice a4 c.bads.length k4, .slice a5 c.invars.length k5, .slice a6 c.ands.length k6, .slice a7 c.names.length k7, .slice aA assume.length kA, .slice aL lemmas.length kL, .slice aK known.length kK, .int .i64 bad, .int .i64 depth, .int .i64 budget] 54)).alloc (.cells #[.int .i64 c.max, .slice a1 c.inputs.length k1, .slice a2 c.latches.length k2, .slice a3 c.outputs.length k3, .slice a4 c.bads.length k4, .slice a5 c.invars.length k5, .slice a6 c.ands.length k6, .slice a7 c.names.length k7] 27)) := ((Below.refl _ _).alloc (Nat.le_refl _) _).alloc (by simp) _
  have hbx14 := Lib.hid ((Box14.new w (.int .i64 c.max) (.slice a1 c.inputs.length k1) (.slice a2 c.latches.length k2) (.slice a3 c.outputs.length k3) (.slice a4 c.bads.length k4) (.slice a5 c.invars.length k5) (.slice a6 c.ands.length k6) (.slice a7 c.names.length k7) (.slice aA assume.length kA) (.slice aL lemmas.length kL) (.slice aK known.length kK) (.int .i64 bad) (.int .i64 depth) (.int .i64 budget) 54).mono ((Below.refl _ _).alloc (Nat.le_refl _) (.cells #[.int .i64 c.max, .slice a1 c.inputs.length k1, .slice a2 c.latches.length k2, .slice a3 c.outputs.length k3, .slice a4 c.bads.length k4, .slice a5 c.invars.length k5, .slice a6 c.ands.length k6, .slice a7 c.names.length k7] 27)))
  have hbx8 := Lib.hid (Box8.new (w.alloc (.cells #[.int .i64 c.max, .slice a1 c.inputs.length k1, .slice a2 c.latches.length k2, .slice a3 c.outputs.length k3, .slice a4 c.bads.length k4, .slice a5 c.invars.length k5, .slice a6 c.ands.length k6, .slice a7 c.names.length k7, .slice aA assume.length kA, .slice aL lemmas.length kL, .slice aK known.length kK, .int .i64 bad, .int .i64 depth, .int .i64 budget] 54)) (.int .i64 c.max) (.slice a1 c.inputs.length k1) (.slice a2 c.latches.length k2) (.slice a3 c.outputs.length k3) (.slice a4 c.bads.length k4) (.slice a5 c.invars.length k5) (.slice a6 c.ands.length k6) (.slice a7 c.names.length k7) 27)
  rw [World.size_alloc] at hbx8
  have HC := Lib.hid hc
  have HA := Lib.hid h1
  clear hc h1
  obtain ⟨hbb0, hbb1⟩ := base_bounds fr c.max hR.out.max0 hR.out.max1 g0 (by omega)
  have hE := Lib.hid (rightE_zero c (fr * (c.max + 1)) hck hbb0 (by omega))
  have hRt := Lib.hid fun w1 (hb : Below w.heap.size w w1) => uright_any c _ fr w1 (HC.out.mono hb)
  have hBs := Lib.hid fun w1 (hb : Below w.heap.size w w1) => ubase_any c _ fr w1 (HC.out.mono hb) hR.out.max0 hR.out.max1 g0 (by omega)
  have hGt := Lib.hid fun w1 (hb : Below w.heap.size w w1) => tGates_good c _ (fr * (c.max + 1)) w1 (HC.out.mono hb) hE.out
  have hFo := Lib.hid fun w1 (hb : Below w.heap.size w w1) => tForce_good c _ _ assume (fr * (c.max + 1)) w1 (HC.out.mono hb) (HA.out.mono hb) ⟨by omega, fun a ha => by have := f4 a ha; omega⟩ hE.out
  have hLt := Lib.hid fun (n : Int) (hn : rng n) w1 (hb : Below w.heap.size w w1) => uLatch_any c _ fr n w1 (HC.out.mono hb) hck g0 g1 hn
  rw [hck, decide_eq_true g0, decide_eq_true g1] at hRt
  have hgp := PC.gatesT_pos c hR.out (fr * (c.max + 1))
  have hgl := PC.gatesT_len c hR.out (fr * (c.max + 1))
  have hfl := PC.force_len c hR.out assume (fr * (c.max + 1))
  have hal := PC.ands_len c hR.out
  have hlr := Lib.hid fun n => latchT_small c fr n hR.out.max0 hR.out.max1 g0 (by omega)
  have hft : Hid (PC.frameT c assume lemmas known fr = (PC.gatesT c (fr * (c.max + 1)) ++ PC.force c assume (fr * (c.max + 1)) ++ lemmas.map (List.map (PC.litT (fr * (c.max + 1))))) ++ known.map (List.map (PC.latchT c fr))) := rfl
  generalize PC.frameT c assume lemmas known fr = RES at *
  generalize PC.gatesT c (fr * (c.max + 1)) = GA at *
  generalize PC.force c assume (fr * (c.max + 1)) = FO at *
  generalize hB : fr * (c.max + 1) = BB at *
  clear hB hck
  have G0 := Lib.hid g0
  have G1 := Lib.hid g1
  have F4 := Lib.hid f4
  have F5 := Lib.hid f5
  have F6 := Lib.hid f6
  clear g0 g1 f4 f5 f6 hL1 hL2 hK1 hK2
  go_enter Try.func24, Try.ntmps24
  go_wp2_with fail
  refine (hRt.out _ (by exact hb0)).mono ?_
  rintro e w1 ⟨rfl, hb1⟩
  obtain ⟨⟨q0, q1, q2, q3, q4, q5, q6, q7⟩, q8, q9, q10, q11, q12, q13⟩ := hbx14.out.mono hb1
  obtain ⟨p0, p1, p2, p3, p4, p5, p6, p7⟩ := hbx8.out.mono hb1
  have X14 : Hid (Box14 w1 w.heap.size _ _ _ _ _ _ _ _ _ _ _ _ _ _) := hbx14.out.mono hb1
  have X8 : Hid (Box8 w1 (w.heap.size + 1) _ _ _ _ _ _ _ _) := hbx8.out.mono hb1
  have hB1 := Below.of hb0 hb1
  clear hb0 hb1 hbx14 hbx8 hRt
  go_wp2_with fail
  refine (hBs.out w1 (by exact hB1)).mono ?_
  rintro e w2 ⟨rfl, hb2⟩
  have hB2 := Below.of hB1 hb2
  obtain ⟨p0, p1, p2, p3, p4, p5, p6, p7⟩ := X8.out.mono hb2
  go_wp2_with fail
  refine (hBs.out w2 (by exact hB2)).mono ?_
  rintro e w3 ⟨rfl, hb3⟩
  have hB3 := Below.of hB2 hb3
  have hC3 := Below.of hb2 hb3
  clear q0 q1 q2 q3 q4 q5 q6 q7 q8 q9 q10 q11 q12 q13 p0 p1 p2 p3 p4 p5 p6 p7
  obtain ⟨p0, p1, p2, p3, p4, p5, p6, p7⟩ := X8.out.mono hC3
  go_wp2_with fail
  refine (hGt.out w3 (by exact hB3)).mono ?_
  rintro e w4 ⟨u4, rfl, hO4, hb4⟩
  have hB4 := Below.of hB3 hb4
  have hC4 := Below.of hC3 hb4
  clear p0 p1 p2 p3 p4 p5 p6 p7
  obtain ⟨p0, p1, p2, p3, p4, p5, p6, p7⟩ := X8.out.mono hC4
  obtain ⟨⟨q0, q1, q2, q3, q4, q5, q6, q7⟩, q8, q9, q10, q11, q12, q13⟩ := X14.out.mono hC4
  go_wp2_with fail
  refine (hFo.out w4 (by exact hB4)).mono ?_
  rintro e w5 ⟨u5, rfl, hO5, hb5⟩
  have hB5 := Below.of hB4 hb5
  have hC5 := Below.of hC4 hb5
  clear p0 p1 p2 p3 p4 p5 p6 p7 q0 q1 q2 q3 q4 q5 q6 q7 q8 q9 q10 q11 q12 q13
  have hO4 := hO4.mono hb5
  obtain ⟨s4, n4, c4, rfl⟩ := hO4.slice
  obtain ⟨s5, n5, c5, rfl⟩ := hO5.slice
  go_wp2_with fail
  have hba : Below w5.heap.size w5 (w5.alloc (.cells #[.slice s4 n4 c4, .slice s5 n5 c5] 28)) := (Below.refl _ _).alloc (Nat.le_refl _) _
  have hce : ∀ j, (w5.alloc (.cells #[.slice s4 n4 c4, .slice s5 n5 c5] 28)).cell? ⟨w5.heap.size, j, none⟩ = (#[.slice s4 n4 c4, .slice s5 n5 c5] : Array Value)[j]? := fun j => World.cell?_alloc_mark _ _ _ _ _
  refine (sConcat_two GA FO _ _ w5.heap.size _ _ _ (hO4.mono hba) (hO5.mono hba) (hce 0) (hce 1) (by omega) (by omega)).mono ?_
  rintro e w6 ⟨u6, rfl, hO6, hb6⟩
  have hB6 := Below.of (Below.of hB5 hba) hb6
  have hC6 := Below.of (Below.of hC5 hba) hb6
  have hO6 := Lib.hid (hO6.weaken (B' := w1.heap.size) (by rw [World.size_alloc]; have := hC5.size; omega))
  clear hO4 hO5 hb2 hb3 hb4 hb5 hb6 hB2 hB3 hB4 hB5 hC3 hC4 hC5 hba hce hGt hFo hBs
  obtain ⟨⟨q0, q1, q2, q3, q4, q5, q6, q7⟩, q8, q9, q10, q11, q12, q13⟩ := X14.out.mono hC6
  have hlen0 : (GA ++ FO).length ≤ 2500000 := by rw [List.length_append]; omega
  generalize GA ++ FO = P0 at *
  clear hgl hfl hgp hal
  go_wp2_with fail
  clear q0 q1 q2 q3 q4 q5 q6 q7 q8 q9 q10 q11 q12 q13
  go_loopg [11, 55] lemmas.length (fun gg s11 s55 wr => ∃ k : Nat, k ≤ lemmas.length ∧ lemmas.length - k ≤ gg ∧ s55 = .int .i64 k ∧ Below w1.heap.size w1 wr ∧ Aside (OutI wr w1.heap.size s11 (P0 ++ (lemmas.take k).map (List.map (PC.litT BB)))))
  case atStart => exact ⟨0, Nat.zero_le _, by omega, rfl, hC6, by simpa [Aside] using hO6.out⟩
  case round =>
    clear hB6 hC6 hO6
    obtain ⟨k, hk, hg, rfl, hbr, hout⟩ := hrel
    by_cases hlt : k < lemmas.length
    · obtain ⟨b', off, u, rfl, hbs, hc, hiu⟩ := HL.out k hlt
      have hmea : ∀ g : Nat, lemmas.length - k ≤ g → lemmas.length - (k + 1) < g := fun g h => by omega
      have hBr := Below.of hB1 hbr
      have hc := (hBr.cell hbs).trans hc
      have hal := F5.out _ (List.getElem_mem hlt)
      have hstep := Lib.hid (take_map_succ (List.map (PC.litT BB)) lemmas k hlt P0)
      have hlen : (P0 ++ (lemmas.take k).map (List.map (PC.litT BB))).length ≤ 2500000 + k := by
        rw [List.length_append, List.length_map, List.length_take]; omega
      generalize hy : lemmas[k] = y at *
      clear hy
      have hltz : (k : Int) < (lemmas.length : Int) := by omega
      have hCl := Lib.hid (tClause_any BB y u wr hbb0 (by omega) (hiu.mono hBr) (by omega))
      go_wp2_with fail
      refine hCl.out.mono ?_
      rintro e w2 ⟨u2, rfl, hr2, hb2⟩
      obtain ⟨ao2, n2, c2, rfl⟩ := hr2.slice
      have hbr2 := Below.of hbr hb2
      have hrows := Lib.hid ((RowsI.nil _).push hr2)
      have hout1 := Lib.hid (hout.out.mono hb2)
      go_wp2_with (at_builtin; refine app_rows rfl _ _ rfl (w0 := w1) (B0 := w1.heap.size) rfl hout1.out (us := #[.slice ao2 n2 c2]) (ms := [y.map (PC.litT BB)]) (by exact hrows.out) hbr2 (Nat.le_refl _) hbr2.size 1 1 rfl rfl (by omega) ?_; intro v3 w3 hout3 hb3 hbs3)
      go_roundg (lemmas.length - (k + 1))
      case measure => exact hmea _ hg
      case rel =>
        refine ⟨k + 1, by omega, by omega, by go_num, hb3, ?_⟩
        rw [hstep.out]
        exact hout3
    · have hltz : ¬ (k : Int) < (lemmas.length : Int) := by omega
      obtain rfl : k = lemmas.length := by omega
      rw [List.take_length] at hout
      have hlen1 : (P0 ++ lemmas.map (List.map (PC.litT BB))).length ≤ 4000000 := by rw [List.length_append, List.length_map]; omega
      generalize P0 ++ lemmas.map (List.map (PC.litT BB)) = P1 at *
      clear HL hlen0 hg hk hlt
      obtain ⟨⟨q0, q1, q2, q3, q4, q5, q6, q7⟩, q8, q9, q10, q11, q12, q13⟩ := X14.out.mono hbr
      go_wp2_with fail
      clear q0 q1 q2 q3 q4 q5 q6 q7 q8 q9 q10 q11 q12 q13
      go_loopg [11, 69] known.length (fun gg s11 s69 wr => ∃ k : Nat, k ≤ known.length ∧ known.length - k ≤ gg ∧ s69 = .int .i64 k ∧ Below w1.heap.size w1 wr ∧ Aside (OutI wr w1.heap.size s11 (P1 ++ (known.take k).map (List.map (PC.latchT c fr)))))
      case atStart => exact ⟨0, Nat.zero_le _, by omega, rfl, hbr, by simpa [Aside] using hout.out⟩
      case round =>
        clear hbr hout hltz
        obtain ⟨k, hk, hg, rfl, hbr, hout⟩ := hrel
        by_cases hlt : k < known.length
        · obtain ⟨b', off, u, rfl, hbs, hc, hiu⟩ := HK.out k hlt
          have hmea : ∀ g : Nat, known.length - k ≤ g → known.length - (k + 1) < g := fun g h => by omega
          have hBr := Below.of hB1 hbr
          have hc := (hBr.cell hbs).trans hc
          have hal := F6.out _ (List.getElem_mem hlt)
          have hstep := Lib.hid (take_map_succ (List.map (PC.latchT c fr)) known k hlt P1)
          have hlen : (P1 ++ (known.take k).map (List.map (PC.latchT c fr))).length ≤ 4000000 + k := by
            rw [List.length_append, List.length_map, List.length_take]; omega
          generalize hy : known[k] = y at *
          clear hy
          have hltz : (k : Int) < (known.length : Int) := by omega
          have hiu := hiu.mono hBr
          obtain ⟨ao, cap, rfl, hi1, hi2, hi3⟩ := hiu.open_
          have HI := Lib.hid hi3
          clear hi3 hiu hi1 hi2
          obtain ⟨W, hW⟩ : ∃ W, W = wr := ⟨_, rfl⟩
          subst hW
          go_wp2_with fail
          go_loopg [16, 75] y.length (fun gg s16 s75 wr => ∃ i : Nat, i ≤ y.length ∧ y.length - i ≤ gg ∧ s75 = .int .i64 i ∧ Below W.heap.size W wr ∧ Aside (wr.ownsRow W.heap.size 3 1 s16 i (((y.take i).map (PC.latchT c fr)).map (Value.int .i64))))
          case atStart => exact ⟨0, Nat.zero_le _, by omega, rfl, Below.refl _ _, by simpa [Aside] using World.ownsRow_nil _ _ _ _⟩
          case round =>
            obtain ⟨i, hi, hgi, rfl, hbi, hown⟩ := hrel
            have hbWi := Below.of hbr hbi
            by_cases hlti : i < y.length
            · obtain ⟨bi, offi, rfl, hbsi, hry, hci⟩ := HI.out i hlti
              have hmeai : ∀ g : Nat, y.length - i ≤ g → y.length - (i + 1) < g := fun g h => by omega
              have hci := (hbi.cell hbsi).trans hci
              have hstepi : Hid ((y.take (i + 1)).map (PC.latchT c fr) = (y.take i).map (PC.latchT c fr) ++ [PC.latchT c fr y[i]]) := by
                show _ = _
                rw [List.take_succ_eq_append_getElem hlti, List.map_append]; rfl
              have hLa := Lib.hid fun w2 hb => hLt.out y[i] hry w2 hb
              have hrl := hlr.out y[i]
              generalize hz : y[i] = z at *
              clear hz
              generalize PC.latchT c fr z = r at *
              have hltzi : (i : Int) < (y.length : Int) := by omega
              obtain ⟨p0, p1, p2, p3, p4, p5, p6, p7⟩ := X8.out.mono hbWi
              go_wp2_with fail
              refine (hLa.out _ (Below.of hB1 hbWi)).mono ?_
              rintro e w2 ⟨rfl, hb2⟩
              have hbi2 := Below.of hbi hb2
              have hown2 := Lib.hid (hown.out.kept ⟨hb2.os, hb2.tape, hb2.output, hb2.size, fun b hb' _ => hb2.block b hb'⟩ (row := none) (by cases u16.ownBlock <;> simp))
              clear p0 p1 p2 p3 p4 p5 p6 p7
              go_wp2_with (at_builtin; refine app_new rfl _ _ 22 rfl 3 1 8 _ Try.underlying22 Try.info3 rfl (by decide) (w0 := W) (B0 := W.heap.size) rfl hown2.out hbi2 (Nat.le_refl _) hbi2.size _ 1 1 rfl (by intro u hu; simp at hu; subst hu; rfl) rfl (by omega) (by omega) ?_; intro v3 w3 hown3 hb3 hbs3 hgr3)
              go_roundg (y.length - (i + 1))
              case measure => exact hmeai _ hgi
              case rel =>
                refine ⟨i + 1, by omega, by omega, by go_num, hb3, ?_⟩
                rw [hstepi.out, List.map_append]
                exact hown3
            · have hltzi : ¬ (i : Int) < (y.length : Int) := by omega
              obtain rfl : i = y.length := by omega
              have hrI : RowI wr u16 (y.map (PC.latchT c fr)) := by
                have := hown.out
                rw [List.take_length] at this
                refine ⟨?_, ?_⟩
                · rw [List.length_map]
                  exact ⟨this.1, by
                    rcases this.2 with h | ⟨g, cap', cur, h1, h2, h3⟩
                    · exact .inl h
                    · exact .inr ⟨g, cap', cur, h1, Nat.zero_le _, h3⟩⟩
                · intro x hx
                  obtain ⟨z, _, rfl⟩ := List.mem_map.1 hx
                  have := hlr.out z
                  unfold rng
                  omega
              obtain ⟨ao2, n2, c2, rfl⟩ := hrI.slice
              have hrows := Lib.hid ((RowsI.nil _).push hrI)
              have hout1 := Lib.hid (hout.out.mono hbi)
              clear hrI hown HI
              go_wp2_with (at_builtin; refine app_rows rfl _ _ rfl (w0 := w1) (B0 := w1.heap.size) rfl hout1.out (us := #[.slice ao2 n2 c2]) (ms := [y.map (PC.latchT c fr)]) (by exact hrows.out) hbWi (Nat.le_refl _) hbWi.size 1 1 rfl rfl (by omega) ?_; intro v3 w3 hout3 hb3 hbs3)
              go_roundg (known.length - (k + 1))
              case measure => exact hmea _ hg
              case rel =>
                refine ⟨k + 1, by omega, by omega, by go_num, hb3, ?_⟩
                rw [hstep.out]
                exact hout3
        · have hltz : ¬ (k : Int) < (known.length : Int) := by omega
          obtain rfl : k = known.length := by omega
          rw [List.take_length] at hout
          go_wp2_with fail
          go_ret
          refine ⟨_, rfl, ?_, Below.of hB1 hbr⟩
          rw [hft.out]
          exact hout.out.weaken hB1.size

end Go.Proofs.Ytbjioniefalgpaa
