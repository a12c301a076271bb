/- The walk of WitnessTells. -/
import Derived.Test.YtfjejjdkogfelaaDoorWalkX4
import Derived.Test.YtfjejjdkogfelaaDoorWalkX5
namespace Go.Proofs.YtfjejjdkogfelaaDoor
open Go.RowKit Go.Shelf
attribute [local simp] mk_get

theorem alive_fits : PW.fits 0 [48] [[49]] = true := by decide
theorem decI_zero : P01.decI 0 = [48] := by
  unfold P01.decI
  rw [if_neg (by decide)]
  exact P01.dec_lt 0 (by decide)
theorem alive_text : PW.printS 0 [48] [[49]] = [49, 10, 98, 48, 10, 48, 10, 49, 10, 46, 10] := by
  rw [PW.printS, if_pos alive_fits, PW.text, PW.lines, decI_zero]; rfl
theorem alive_err : PW.printE 0 [48] [[49]] = 0 := by rw [PW.printE, if_pos alive_fits]

theorem alive25_any (w : World) : Calls Tryd.prog 7 #[] w fun e w' => e = .returned (.bool true) ∧ Below w.heap.size w w' := by
  have hS : Strs (w.alloc (.cells #[.string ⟨#[49]⟩] 9)) (.slice (some ⟨w.heap.size, 0, none⟩) 1 1) [[49]] :=
    ⟨⟨_, _, rfl, Nat.le_refl _, by decide, fun h => by (cases h), rfl, fun j hj => ⟨w.heap.size, 0, rfl, by simp, by
      have hj0 : j = 0 := by simp at hj; omega
      subst hj0
      rw [World.cell?_alloc_mark]; rfl⟩⟩, fun s hs => by obtain rfl := List.mem_singleton.1 hs; decide⟩
  have hP := witPrint_any 0 [48] [[49]] _ _ hS (by decide)
  rw [alive_text, alive_err] at hP
  have HP := Lib.hid hP
  clear hP hS
  go_enter Tryd.func7, Tryd.ntmps7
  go_wp2_with fail
  refine HP.out.mono ?_
  rintro e w1 ⟨rfl, hb1⟩
  go_wp2_with fail
  go_ret
  exact ⟨by simp, Below.of ((Below.refl _ _).alloc (Nat.le_refl _) _) hb1⟩

set_option maxRecDepth 100000 in
set_option maxHeartbeats 4000000 in
theorem witTells_walk (bad : Int) (st : List UInt8) (ins : List (List UInt8)) (vins : Value) (w : World) (hS : Strs w vins ins) (hs : st.length ≤ 9223372036854775807) :
    Calls Tryd.prog 3 #[.agg #[.int .i64 bad, .string ⟨st.toArray⟩, vins]] w fun e w' => e = .returned (.bool true) ∧ Below w.heap.size w w' := by
  have hP := Lib.hid fun w1 (hb : Below w.heap.size w w1) => witPrint_any bad st ins vins w1 (hS.mono hb) hs
  have hF := Lib.hid fun w1 (hb : Below w.heap.size w w1) => fits25_any bad st ins vins w1 (hS.mono hb) hs
  obtain ⟨TS, hTS⟩ : ∃ x, x = PW.printS bad st ins := ⟨_, rfl⟩
  obtain ⟨TE, hTE⟩ : ∃ x, x = PW.printE bad st ins := ⟨_, rfl⟩
  rw [← hTS, ← hTE] at hP
  obtain ⟨ao, cap, rfl, h1, h2, h3⟩ := hS.open_
  have hb0 := Lib.hid ((Below.refl w.heap.size w).alloc (Nat.le_refl _) (.cells #[.int .i64 bad, .string ⟨st.toArray⟩, .slice ao ins.length cap] 24))
  have hby0 := Lib.hid (Box3.new w (.int .i64 bad) (.string ⟨st.toArray⟩) (.slice ao ins.length cap) 24)
  obtain ⟨q0, q1, q2⟩ := hby0.out
  have H3 := Lib.hid h3
  clear h3 hS
  have hA := Lib.hid fun w1 => alive25_any w1
  have HTS := Lib.hid hTS
  have HTE := Lib.hid hTE
  clear hTS hTE
  go_enter Tryd.func3, Tryd.ntmps3
  go_wp2_with fail
  refine (hP.out _ hb0.out).mono ?_
  rintro e w1 ⟨rfl, hbk⟩
  have hbA := Lib.hid (Below.of hb0.out hbk)
  have hby1 := Lib.hid (hby0.out.mono hbk)
  clear hb0 hbk hby0 hP q0 q1 q2
  obtain ⟨q0, q1, q2⟩ := hby1.out
  go_wp2_with fail
  cases hf : PW.fits bad st ins with
  | false =>
    rw [hf] at hF
    have e1 : TS = [] := by rw [HTS.out, PW.printS, hf]; rfl
    have e2 : TE = 9 := by rw [HTE.out, PW.printE, hf]; rfl
    subst e1
    subst e2
    refine (hF.out _ hbA.out).mono ?_
    rintro e w2 ⟨rfl, hbk⟩
    go_wp2_with (go_at_call 7; refine (hA.out _).mono ?_; rintro e w3 ⟨rfl, hb3⟩)
    go_ret
    exact ⟨by simp, Below.of (Below.of hbA.out hbk) hb3⟩
  | true =>
    rw [hf] at hF
    obtain ⟨hj1, hj2⟩ := join_text_len hf
    have e1 : Hid (TS = Lib.join (PW.lines bad st ins) [10] ++ [10]) := by show _ = _; rw [HTS.out, PW.printS, hf, hj2]; rfl
    have e2 : TE = 0 := by rw [HTE.out, PW.printE, hf]; rfl
    have hsh := Lib.hid (PW.lines_short hf)
    obtain ⟨⟨f1, f2, f3, f4, f5, -⟩, -⟩ := (PW.fits_iff _ _ _).1 hf
    have hn1 : Hid (1 ≤ ins.length ∧ ins.length ≤ 80) := ⟨f4, f5⟩
    have hr1 : Hid (-9223372036854775808 ≤ bad ∧ bad ≤ 9223372036854775807) := ⟨by omega, by omega⟩
    have hdl : Hid ((P01.decI bad).length ≤ 63) := by
      have := hsh.out (98 :: P01.decI bad) (by simp [PW.lines])
      show _ ≤ _
      simp at this
      omega
    obtain ⟨b, off, rfl, hbs, -, -⟩ := H3.out 0 f4
    subst e2
    refine (hF.out _ hbA.out).mono ?_
    rintro e w2 ⟨rfl, hbk⟩
    have hbB := Lib.hid (Below.of hbA.out hbk)
    have hby2 := Lib.hid (hby1.out.mono hbk)
    obtain ⟨W2, hW2⟩ : ∃ W, W = w2 := ⟨_, rfl⟩
    subst hW2
    have hy0 : Hid (∀ y, Below W2.heap.size W2 y → Box3 y w.heap.size (.int .i64 bad) (strV st) (.slice (some ⟨b, off, none⟩) ins.length cap)) := fun y hy => hby2.out.mono hy
    have hcells : Hid (∀ y, Below W2.heap.size W2 y → ∀ j (h : j < ins.length), y.cell? ⟨b, off + j, none⟩ = some (strV ins[j])) := fun y hy j hj => by
      obtain ⟨b', off', e, hlt, _, hc⟩ := H3.out j hj
      cases e
      exact ((Below.of hbB.out hy).cell hlt).trans hc
    have HJ1 := Lib.hid hj1
    clear hbA hbk hby1 hF q0 q1 q2 f1 f2 f3 f4 f5 hf hj2 hj1 H3 HTS HTE
    go_wp2_with fail
    refine wp_region_makes 11 [isV (.pointer (some ⟨w.heap.size, 0, none⟩)), isV (.int .i64 bad), isV (strV (P01.decI bad)), isV (strV (98 :: P01.decI bad)), isV (.pointer (some ⟨w.heap.size, 1, none⟩)), isV (strV st), litS [strV [49], strV (98 :: P01.decI bad), strV st],
      isV (.pointer (some ⟨w.heap.size, 2, none⟩)), isV (.slice (some ⟨b, off, none⟩) ins.length cap), (fun v y => y.ownsRow W2.heap.size 9 1 v (3 + ins.length) ([strV [49], strV (98 :: P01.decI bad), strV st] ++ ins.map strV)), litS [strV [46]]]
      [some 23, some 24, some 25, some 26, some 27, some 28, some 29, some 30, some 31, some 32, some 33] (by kernel_rfl) (by kernel_rfl) rfl (by
        intro g hg
        simp only [List.mem_cons, List.mem_nil_iff, or_false] at hg
        rcases hg with rfl | rfl | rfl | rfl | rfl | rfl | rfl | rfl | rfl | rfl | rfl <;> first | exact isV_keeps _ | exact litS_keeps _ | exact owns_keeps _ _ _ _ _) ?_ ?_
    · refine ⟨fun vs y hy hd => ?_, fun vs y hy hd => ?_, fun vs y hy hd => ?_, fun vs y hy hd => ?_, fun vs y hy hd => ?_, fun vs y hy hd => ?_, fun vs y hy hd => ?_, fun vs y hy hd => ?_, fun vs y hy hd => ?_, fun vs y hy hd => ?_, fun vs y hy hd => ?_, trivial⟩
      · simp only [opens, Nat.reduceAdd]
        go_wp2_with fail
        exact ⟨_, rfl, Below.refl _ _, rfl⟩
      · have g0 : vs 0 = .pointer (some ⟨w.heap.size, 0, none⟩) := hd 0 (by decide) (by kernel_rfl)
        have hc := (hy0.out y hy).1
        simp only [opens, Nat.reduceAdd]
        rw [g0]
        go_wp2_with fail
        exact ⟨_, rfl, Below.refl _ _, rfl⟩
      · have g0 : vs 1 = .int .i64 bad := hd 1 (by decide) (by kernel_rfl)
        have hP := Lib.hid (r01Print_any bad y hr1.out.1 hr1.out.2)
        simp only [opens, Nat.reduceAdd]
        rw [g0]
        go_wp2_with (go_at_call 8; refine hP.out.mono ?_; rintro e w1 ⟨rfl, hb⟩)
        exact ⟨_, rfl, hb, rfl⟩
      · have g0 : vs 2 = strV (P01.decI bad) := hd 2 (by decide) (by kernel_rfl)
        obtain ⟨Z, hZ⟩ : ∃ Z, Z = 98 :: P01.decI bad := ⟨_, rfl⟩
        have hcat : (ByteArray.mk #[98]) ++ (ByteArray.mk (P01.decI bad).toArray) = ⟨Z.toArray⟩ := by rw [hZ]; exact cat_eq [98] _
        have hl1 := hdl.out
        have HZ := Lib.hid hZ
        clear hZ
        generalize P01.decI bad = D at *
        simp only [opens, Nat.reduceAdd]
        rw [g0]
        simp only [strV]
        go_wp2_with fail
        exact ⟨_, rfl, Below.refl _ _, by rw [HZ.out]; rfl⟩
      · simp only [opens, Nat.reduceAdd]
        go_wp2_with fail
        exact ⟨_, rfl, Below.refl _ _, rfl⟩
      · have g0 : vs 4 = .pointer (some ⟨w.heap.size, 1, none⟩) := hd 4 (by decide) (by kernel_rfl)
        have hc := (hy0.out y hy).2.1
        simp only [opens, Nat.reduceAdd]
        rw [g0]
        go_wp2_with fail
        exact ⟨_, rfl, Below.refl _ _, rfl⟩
      · have g0 : vs 3 = strV (98 :: P01.decI bad) := hd 3 (by decide) (by kernel_rfl)
        have g1 : vs 5 = strV st := hd 5 (by decide) (by kernel_rfl)
        simp only [opens, Nat.reduceAdd]
        rw [g0, g1]
        simp only [strV]
        go_wp2_with fail
        exact ⟨_, rfl, (Below.refl _ _).alloc (Nat.le_refl _) _, litS_new y [strV [49], strV (98 :: P01.decI bad), strV st] _⟩
      · simp only [opens, Nat.reduceAdd]
        go_wp2_with fail
        exact ⟨_, rfl, Below.refl _ _, rfl⟩
      · have g0 : vs 7 = .pointer (some ⟨w.heap.size, 2, none⟩) := hd 7 (by decide) (by kernel_rfl)
        have hc := (hy0.out y hy).2.2
        simp only [opens, Nat.reduceAdd]
        rw [g0]
        go_wp2_with fail
        exact ⟨_, rfl, Below.refl _ _, rfl⟩
      · obtain ⟨g, g0, g1⟩ : litS [strV [49], strV (98 :: P01.decI bad), strV st] (vs 6) y := hd 6 (by decide) (by kernel_rfl)
        have g2 : vs 8 = .slice (some ⟨b, off, none⟩) ins.length cap := hd 8 (by decide) (by kernel_rfl)
        simp only [opens, Nat.reduceAdd]
        rw [g0, g2]
        refine wpList_append_grows y rfl _ _ 22 rfl 9 _ _ 1 16 Tryd.underlying22 (info_parts info_string).choose_spec.1 (info_parts info_string).choose_spec.2.1 (info_parts info_string).choose_spec.2.2.1 (info_parts info_string).choose_spec.2.2.2 rfl (by decide)
          (some ⟨g, 0, none⟩) 3 3 [strV [49], strV (98 :: P01.decI bad), strV st] rfl (fun h => by cases h) rfl (fun b' e j u hj => by cases e; have := g1 j u hj; rw [Addr.add_lit, Nat.zero_add]; exact this)
          ⟨b, off, none⟩ ins.length cap (ins.map strV) rfl (by simp) (fun j u hj => by
            rw [Addr.add_lit]
            have hj' : j < ins.length := by simpa using (List.getElem?_eq_some_iff.1 hj).1
            have := hcells.out y hy j hj'
            rw [this]
            rw [List.getElem?_map, List.getElem?_eq_getElem hj'] at hj
            exact hj) (fun u hu => by obtain ⟨s, _, rfl⟩ := List.mem_map.1 hu; rfl) (by have := hn1.out; omega) (by have := hn1.out; simp only [maxLen]; omega) (by have := hn1.out; omega) ?_
        intro v' w' hown hgr
        refine ⟨v', rfl, Below.of_grown hgr, World.ownsRow.mono hown hy.size⟩
      · simp only [opens, Nat.reduceAdd]
        go_wp2_with fail
        exact ⟨_, rfl, (Below.refl _ _).alloc (Nat.le_refl _) _, litS_new y [strV [46]] _⟩
    intro vs y hy hf
    have g0 : y.ownsRow W2.heap.size 9 1 (vs 9) (3 + ins.length) ([strV [49], strV (98 :: P01.decI bad), strV st] ++ ins.map strV) := hf 9 (by decide)
    obtain ⟨g, g1, g2⟩ : litS [strV [46]] (vs 10) y := hf 10 (by decide)
    have hce : Cells y 1 (.slice (some ⟨g, 0, none⟩) 1 1) 1 [strV [46]] := ⟨_, _, rfl, Nat.le_refl _, by decide, fun h => by (cases h), rfl, fun j hj => ⟨g, 0, rfl, World.block_lt_of_cell? y _ (g2 0 _ rfl), by
      rw [Nat.zero_add]
      exact g2 j _ (List.getElem?_eq_getElem hj)⟩⟩
    simp only [opens, Nat.reduceAdd]
    rw [g1]
    generalize vs 9 = v9 at *
    refine app_cells (n := 3 + ins.length) (m := 1) rfl _ _ 22 rfl 9 1 16 _ Tryd.underlying22 info_string rfl (by decide) rfl g0 hy (Nat.le_refl _) hy.size rfl hce (fun u hu => by obtain rfl := List.mem_singleton.1 hu; rfl) (by have := hn1.out; omega) (by have := hn1.out; omega) ?_
    intro v' w' hown hbel _ _
    rw [lines_map] at hown
    have hSL : Strs w' v' (PW.lines bad st ins) := Strs.of_owns (by rw [PW.lines_len]; rw [show ins.length + 4 = 3 + ins.length + 1 by omega]; exact hown) fun s hs => by
      have := hsh.out s hs
      omega
    have hJ := Lib.hid (r01Join_any (PW.lines bad st ins) v' w' hSL (by have := HJ1.out; omega))
    have hle := HJ1.out
    have hTS := e1.out
    clear hown hsh hdl hcells hy0 hn1 hr1 hce g0 g1 g2 hf HJ1 e1 hSL
    generalize Lib.join (PW.lines bad st ins) [10] = J at *
    have hcat : (ByteArray.mk J.toArray) ++ (ByteArray.mk #[10]) = ⟨TS.toArray⟩ := by rw [hTS]; exact cat_eq _ [10]
    have hl1 : J.length + 1 ≤ 9223372036854775807 := by omega
    have hl2 : (J.length : Int) + 1 ≤ 9223372036854775807 := by omega
    have eT : (TS == TS) = true := by simp
    clear hTS hle
    go_wp2_with (first | (go_at_call 9; refine hJ.out.mono ?_; rintro e w3 ⟨rfl, rfl⟩) | (go_at_call 7; refine (hA.out _).mono ?_; rintro e w3 ⟨rfl, hb3⟩))
    go_ret
    exact ⟨by simp, Below.of (Below.of hbB.out hbel) hb3⟩

theorem witTells_card (bad : Int) (st : List UInt8) (ins : List (List UInt8)) (vins : Value) (w : World) (hS : Strs w vins ins) (hs : st.length ≤ 9223372036854775807) (_hr : rng bad) (_hl : ins.length * 16 ≤ 140737488351232) :
    Calls Tryd.prog 3 #[.agg #[.int .i64 bad, .string ⟨st.toArray⟩, vins]] w fun e w' => e = .returned (.bool true) ∧ Below w.heap.size w w' := witTells_walk bad st ins vins w hS hs

end Go.Proofs.YtfjejjdkogfelaaDoor
