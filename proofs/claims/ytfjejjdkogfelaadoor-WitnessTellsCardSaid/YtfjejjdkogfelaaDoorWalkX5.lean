/- Contracts: a witness's lines, its text. -/
import Derived.Test.YtfjejjdkogfelaaDoorWalkX2
import Derived.Test.YtfjejjdkogfelaaDoorLibR
import Derived.ArgAppend
import Derived.Deep.Onto
namespace Go.Proofs.YtfjejjdkogfelaaDoor
open Go.RowKit Go.Shelf
attribute [local simp] mk_get

/-- a slice that was written down -/
def litS (l : List Value) (v : Value) (y : World) : Prop := ∃ g, v = .slice (some ⟨g, 0, none⟩) l.length l.length ∧ ∀ j u, l[j]? = some u → y.cell? ⟨g, j, none⟩ = some u
theorem litS_keeps (l : List Value) : Keeps (litS l) := fun _ y _ hb ⟨g, e, h⟩ => ⟨g, e, fun j u hj => (hb.cell (World.block_lt_of_cell? y _ (h j u hj))).trans (h j u hj)⟩
theorem litS_new (y : World) (l : List Value) (t : TypeId) : litS l (.slice (some ⟨y.heap.size, 0, none⟩) l.length l.length) (y.alloc (.cells l.toArray t)) :=
  ⟨_, rfl, fun j u hj => by rw [World.cell?_alloc_mark]; simpa using hj⟩

theorem owns_keeps (B : Nat) (e : TypeId) (k n : Nat) (xs : List Value) : Keeps (fun v y => y.ownsRow B e k v n xs) := fun v y y' hb ⟨h1, h2⟩ => by
  refine ⟨h1, ?_⟩
  rcases h2 with ⟨rfl, rfl⟩ | ⟨g, cap, cur, rfl, hB, hg, hc⟩
  · exact Or.inl ⟨rfl, rfl⟩
  · exact Or.inr ⟨g, cap, cur, rfl, hB, by rw [hb.block g (Array.getElem?_eq_some_iff.1 hg).1]; exact hg, hc⟩

theorem info_string : (Tryd.prog.info? 9).map (fun i => (i.zero, i.size, i.bytes)) = some (some (.string ⟨#[]⟩), 1, 16) := by kernel_rfl

/-- the lines as values -/
def strV (s : List UInt8) : Value := .string ⟨s.toArray⟩

theorem Strs.of_owns {w : World} {B : Nat} {v : Value} {l : List (List UInt8)} (h : w.ownsRow B 9 1 v l.length (l.map strV)) (hl : ∀ s ∈ l, s.length ≤ 9223372036854775807) : Strs w v l := ⟨Cells.of_owns h, hl⟩

theorem Below.of_grown {y y' : World} (h : y.grownBy y' none) : Below y.heap.size y y' := (Below.refl _ _).grown h (Nat.le_refl _) fun _ e => by cases e

theorem lines_map (bad : Int) (st : List UInt8) (ins : List (List UInt8)) : ([strV [49], strV (98 :: P01.decI bad), strV st] ++ ins.map strV) ++ [strV [46]] = (PW.lines bad st ins).map strV := by simp [PW.lines]

set_option maxRecDepth 100000 in
set_option maxHeartbeats 4000000 in
theorem witLines_any (bad : Int) (st : List UInt8) (ins : List (List UInt8)) (vins : Value) (w : World) (hS : Strs w vins ins) (hfit : PW.fits bad st ins = true) :
    Calls Tryd.prog 14 #[.agg #[.int .i64 bad, .string ⟨st.toArray⟩, vins]] w fun e w' => ∃ v, e = .returned v ∧ Strs w' v (PW.lines bad st ins) ∧ Below w.heap.size w w' := by
  have hsh := Lib.hid (PW.lines_short hfit)
  obtain ⟨⟨f1, f2, f3, f4, f5, -⟩, -⟩ := (PW.fits_iff _ _ _).1 hfit
  obtain ⟨ao, cap, rfl, h1, h2, h3⟩ := hS.open_
  obtain ⟨b, off, rfl, hbs, -, -⟩ := h3 0 f4
  have hn1 : Hid (1 ≤ ins.length ∧ ins.length ≤ 80) := ⟨f4, f5⟩
  have hr1 : Hid (-9223372036854775808 ≤ bad ∧ bad ≤ 9223372036854775807) := ⟨by omega, by omega⟩
  have hdl : Hid ((P01.decI bad).length ≤ 63) := by
    have := hsh.out (98 :: P01.decI bad) (by simp [PW.lines])
    show _ ≤ _
    simp at this
    omega
  have hb0 := Lib.hid ((Below.refl w.heap.size w).alloc (Nat.le_refl _) (.cells #[.int .i64 bad, .string ⟨st.toArray⟩, .slice (some ⟨b, off, none⟩) ins.length cap] 24))
  have hby0 := Box3.new w (.int .i64 bad) (.string ⟨st.toArray⟩) (.slice (some ⟨b, off, none⟩) ins.length cap) 24
  obtain ⟨W0, hW0⟩ : ∃ W, W = w.alloc (.cells #[.int .i64 bad, .string ⟨st.toArray⟩, .slice (some ⟨b, off, none⟩) ins.length cap] 24) := ⟨_, rfl⟩
  rw [← hW0] at hb0 hby0
  have hy0 : Hid (∀ y, Below W0.heap.size W0 y → Box3 y w.heap.size (.int .i64 bad) (strV st) (.slice (some ⟨b, off, none⟩) ins.length cap)) := fun y hy => hby0.mono hy
  have hcells : Hid (∀ y, Below W0.heap.size W0 y → ∀ j (h : j < ins.length), y.cell? ⟨b, off + j, none⟩ = some (strV ins[j])) := fun y hy j hj => by
    obtain ⟨b', off', e, hlt, _, hc⟩ := h3 j hj
    cases e
    exact ((Below.of hb0.out hy).cell hlt).trans hc
  have HW0 := Lib.hid hW0
  clear h3 hS hW0 hby0 f1 f2 f3 f4 f5 hfit
  go_enter Tryd.func14, Tryd.ntmps14
  go_wp2_with fail
  rw [← HW0.out]
  refine wp_region_makes 11 [isV (.pointer (some ⟨w.heap.size, 0, none⟩)), isV (.int .i64 bad), isV (strV (P01.decI bad)), isV (strV (98 :: P01.decI bad)), isV (.pointer (some ⟨w.heap.size, 1, none⟩)), isV (strV st), litS [strV [49], strV (98 :: P01.decI bad), strV st],
    isV (.pointer (some ⟨w.heap.size, 2, none⟩)), isV (.slice (some ⟨b, off, none⟩) ins.length cap), (fun v y => y.ownsRow W0.heap.size 9 1 v (3 + ins.length) ([strV [49], strV (98 :: P01.decI bad), strV st] ++ ins.map strV)), litS [strV [46]]]
    [some 3, some 4, some 5, some 6, some 7, some 8, some 9, some 10, some 11, some 12, some 13] (by kernel_rfl) (by kernel_rfl) rfl (by
      intro g hg
      simp only [List.mem_cons, List.mem_nil_iff, or_false] at hg
      rcases hg with rfl | rfl | rfl | rfl | rfl | rfl | rfl | rfl | rfl | rfl | rfl <;> first | exact isV_keeps _ | exact litS_keeps _ | exact owns_keeps _ _ _ _ _) ?_ ?_
  · refine ⟨fun vs y hy hd => ?_, fun vs y hy hd => ?_, fun vs y hy hd => ?_, fun vs y hy hd => ?_, fun vs y hy hd => ?_, fun vs y hy hd => ?_, fun vs y hy hd => ?_, fun vs y hy hd => ?_, fun vs y hy hd => ?_, fun vs y hy hd => ?_, fun vs y hy hd => ?_, trivial⟩
    · simp only [opens, Nat.reduceAdd]
      go_wp2_with fail
      exact ⟨_, rfl, Below.refl _ _, rfl⟩
    · have g0 : vs 0 = .pointer (some ⟨w.heap.size, 0, none⟩) := hd 0 (by decide) (by kernel_rfl)
      have hc := (hy0.out y hy).1
      simp only [opens, Nat.reduceAdd]
      rw [g0]
      go_wp2_with fail
      exact ⟨_, rfl, Below.refl _ _, rfl⟩
    · have g0 : vs 1 = .int .i64 bad := hd 1 (by decide) (by kernel_rfl)
      have hP := Lib.hid (Print_any bad y hr1.out.1 hr1.out.2)
      simp only [opens, Nat.reduceAdd]
      rw [g0]
      go_wp2_with (go_at_call 27; refine hP.out.mono ?_; rintro e w1 ⟨rfl, hb⟩)
      exact ⟨_, rfl, hb, rfl⟩
    · have g0 : vs 2 = strV (P01.decI bad) := hd 2 (by decide) (by kernel_rfl)
      obtain ⟨Z, hZ⟩ : ∃ Z, Z = 98 :: P01.decI bad := ⟨_, rfl⟩
      have hcat : (ByteArray.mk #[98]) ++ (ByteArray.mk (P01.decI bad).toArray) = ⟨Z.toArray⟩ := by rw [hZ]; exact cat_eq [98] _
      have hl1 := hdl.out
      have HZ := Lib.hid hZ
      clear hZ
      generalize P01.decI bad = D at *
      simp only [opens, Nat.reduceAdd]
      rw [g0]
      simp only [strV]
      go_wp2_with fail
      exact ⟨_, rfl, Below.refl _ _, by rw [HZ.out]; rfl⟩
    · simp only [opens, Nat.reduceAdd]
      go_wp2_with fail
      exact ⟨_, rfl, Below.refl _ _, rfl⟩
    · have g0 : vs 4 = .pointer (some ⟨w.heap.size, 1, none⟩) := hd 4 (by decide) (by kernel_rfl)
      have hc := (hy0.out y hy).2.1
      simp only [opens, Nat.reduceAdd]
      rw [g0]
      go_wp2_with fail
      exact ⟨_, rfl, Below.refl _ _, rfl⟩
    · have g0 : vs 3 = strV (98 :: P01.decI bad) := hd 3 (by decide) (by kernel_rfl)
      have g1 : vs 5 = strV st := hd 5 (by decide) (by kernel_rfl)
      simp only [opens, Nat.reduceAdd]
      rw [g0, g1]
      simp only [strV]
      go_wp2_with fail
      exact ⟨_, rfl, (Below.refl _ _).alloc (Nat.le_refl _) _, litS_new y [strV [49], strV (98 :: P01.decI bad), strV st] _⟩
    · simp only [opens, Nat.reduceAdd]
      go_wp2_with fail
      exact ⟨_, rfl, Below.refl _ _, rfl⟩
    · have g0 : vs 7 = .pointer (some ⟨w.heap.size, 2, none⟩) := hd 7 (by decide) (by kernel_rfl)
      have hc := (hy0.out y hy).2.2
      simp only [opens, Nat.reduceAdd]
      rw [g0]
      go_wp2_with fail
      exact ⟨_, rfl, Below.refl _ _, rfl⟩
    · obtain ⟨g, g0, g1⟩ : litS [strV [49], strV (98 :: P01.decI bad), strV st] (vs 6) y := hd 6 (by decide) (by kernel_rfl)
      have g2 : vs 8 = .slice (some ⟨b, off, none⟩) ins.length cap := hd 8 (by decide) (by kernel_rfl)
      simp only [opens, Nat.reduceAdd]
      rw [g0, g2]
      refine wpList_append_grows y rfl _ _ 22 rfl 9 _ _ 1 16 Tryd.underlying22 (info_parts info_string).choose_spec.1 (info_parts info_string).choose_spec.2.1 (info_parts info_string).choose_spec.2.2.1 (info_parts info_string).choose_spec.2.2.2 rfl (by decide)
        (some ⟨g, 0, none⟩) 3 3 [strV [49], strV (98 :: P01.decI bad), strV st] rfl (fun h => by cases h) rfl (fun b' e j u hj => by cases e; have := g1 j u hj; rw [Addr.add_lit, Nat.zero_add]; exact this)
        ⟨b, off, none⟩ ins.length cap (ins.map strV) rfl (by simp) (fun j u hj => by
          rw [Addr.add_lit]
          have hj' : j < ins.length := by simpa using (List.getElem?_eq_some_iff.1 hj).1
          have := hcells.out y hy j hj'
          rw [this]
          rw [List.getElem?_map, List.getElem?_eq_getElem hj'] at hj
          exact hj) (fun u hu => by obtain ⟨s, _, rfl⟩ := List.mem_map.1 hu; rfl) (by have := hn1.out; omega) (by have := hn1.out; simp only [maxLen]; omega) (by have := hn1.out; omega) ?_
      intro v' w' hown hgr
      refine ⟨v', rfl, Below.of_grown hgr, World.ownsRow.mono hown hy.size⟩
    · simp only [opens, Nat.reduceAdd]
      go_wp2_with fail
      exact ⟨_, rfl, (Below.refl _ _).alloc (Nat.le_refl _) _, litS_new y [strV [46]] _⟩
  intro vs y hy hf
  have g0 : y.ownsRow W0.heap.size 9 1 (vs 9) (3 + ins.length) ([strV [49], strV (98 :: P01.decI bad), strV st] ++ ins.map strV) := hf 9 (by decide)
  obtain ⟨g, g1, g2⟩ : litS [strV [46]] (vs 10) y := hf 10 (by decide)
  have hce : Cells y 1 (.slice (some ⟨g, 0, none⟩) 1 1) 1 [strV [46]] := ⟨_, _, rfl, Nat.le_refl _, by decide, fun h => by (cases h), rfl, fun j hj => ⟨g, 0, rfl, World.block_lt_of_cell? y _ (g2 0 _ rfl), by
    rw [Nat.zero_add]
    exact g2 j _ (List.getElem?_eq_getElem hj)⟩⟩
  simp only [opens, Nat.reduceAdd]
  rw [g1]
  generalize vs 9 = v9 at *
  refine app_cells (n := 3 + ins.length) (m := 1) rfl _ _ 22 rfl 9 1 16 _ Tryd.underlying22 info_string rfl (by decide) rfl g0 hy (Nat.le_refl _) hy.size rfl hce (fun u hu => by obtain rfl := List.mem_singleton.1 hu; rfl) (by have := hn1.out; omega) (by have := hn1.out; omega) ?_
  intro v' w' hown hbel _ _
  rw [lines_map] at hown
  go_wp2_with fail
  go_ret
  refine ⟨v', rfl, Strs.of_owns (by rw [PW.lines_len]; rw [show ins.length + 4 = 3 + ins.length + 1 by omega]; exact hown) fun s hs => ?_, Below.of hb0.out hbel⟩
  have := hsh.out s hs
  omega

theorem sJoin_any (l : List (List UInt8)) (v : Value) (w : World) (hS : Strs w v l) (hne : 0 < l.length) (hN : l.length ≤ 140737488355328) (hlen : (Lib.join l [10]).length ≤ 140737488355328) :
    Calls Tryd.prog 13 #[v, .string ⟨#[10]⟩] w fun e w' => e = .returned (.string ⟨(Lib.join l [10]).toArray⟩) ∧ Below w.heap.size w w' := by
  obtain ⟨ao, cap, rfl, h1, h2, h3⟩ := hS.open_
  obtain ⟨b, off, rfl, hbs, -, -⟩ := h3 0 hne
  have em : (l.map fun s => (⟨s.toArray⟩ : ByteArray)).map (·.data.toList) = l := by
    rw [List.map_map, show ((fun x : ByteArray => x.data.toList) ∘ fun l : List UInt8 => ByteArray.mk l.toArray) = id from rfl, List.map_id]
  have h := Tryd.strings_Join b off cap (l.map fun s => ⟨s.toArray⟩) ⟨#[10]⟩ w (fun j x hx => by
    obtain ⟨hj, hx⟩ := List.getElem?_eq_some_iff.1 hx
    have hj' : j < l.length := by simpa using hj
    obtain ⟨b', off', e, _, _, hc⟩ := h3 j hj'
    cases e
    rw [hc, ← hx]; simp) hbs (by simpa using hN) (by simpa using h1) (by rw [em]; exact hlen)
  rw [em, List.length_map] at h
  exact h

theorem join_text_len {bad : Int} {st : List UInt8} {ins : List (List UInt8)} (h : PW.fits bad st ins = true) : (Lib.join (PW.lines bad st ins) [10]).length ≤ 5460 ∧ Lib.join (PW.lines bad st ins) [10] ++ [10] = PW.text bad st ins := by
  have e := PW.join_flat (PW.lines bad st ins) (by simp [PW.lines])
  have hl := PW.text_len h
  refine ⟨?_, e⟩
  have := congrArg List.length e
  rw [List.length_append] at this
  unfold PW.text at hl
  omega

set_option maxHeartbeats 1000000 in
theorem witPrint_any (bad : Int) (st : List UInt8) (ins : List (List UInt8)) (vins : Value) (w : World) (hS : Strs w vins ins) (hs : st.length ≤ 9223372036854775807) :
    Calls Tryd.prog 5 #[.agg #[.int .i64 bad, .string ⟨st.toArray⟩, vins]] w fun e w' => e = .returned (.tuple #[.string ⟨(PW.printS bad st ins).toArray⟩, .int .i64 (PW.printE bad st ins)]) ∧ Below w.heap.size w w' := by
  have hF := Lib.hid fun w1 (hb : Below w.heap.size w w1) => witFits_any bad st ins vins w1 (hS.mono hb) hs
  have hb0 := Lib.hid ((Below.refl w.heap.size w).alloc (Nat.le_refl _) (.cells #[.int .i64 bad, .string ⟨st.toArray⟩, vins] 24))
  have hby0 := Lib.hid (Box3.new w (.int .i64 bad) (.string ⟨st.toArray⟩) vins 24)
  have hL := Lib.hid fun w1 (hb : Below w.heap.size w w1) hf => witLines_any bad st ins vins w1 (hS.mono hb) hf
  obtain ⟨PS_, hPS⟩ : ∃ x, x = PW.printS bad st ins := ⟨_, rfl⟩
  obtain ⟨PE, hPE⟩ : ∃ x, x = PW.printE bad st ins := ⟨_, rfl⟩
  rw [← hPS, ← hPE]
  obtain ⟨ao, cap, rfl, _, _, _⟩ := hS.open_
  obtain ⟨q0, q1, q2⟩ := hby0.out
  go_enter Tryd.func5, Tryd.ntmps5
  go_wp2_with fail
  cases hf : PW.fits bad st ins with
  | false =>
    rw [hf] at hF
    have e1 : PS_ = [] := by rw [hPS, PW.printS, hf]; rfl
    have e2 : PE = 9 := by rw [hPE, PW.printE, hf]; rfl
    subst e1
    subst e2
    refine (hF.out _ hb0.out).mono ?_
    rintro e w1 ⟨rfl, hb1⟩
    go_wp2_with fail
    go_ret2
    exact ⟨rfl, Below.of hb0.out hb1⟩
  | true =>
    rw [hf] at hF
    obtain ⟨hj1, hj2⟩ := join_text_len hf
    have e1 : PS_ = Lib.join (PW.lines bad st ins) [10] ++ [10] := by rw [hPS, PW.printS, hf, hj2]; rfl
    have e2 : PE = 0 := by rw [hPE, PW.printE, hf]; rfl
    have hll : (PW.lines bad st ins).length ≤ 84 ∧ 0 < (PW.lines bad st ins).length := by
      rw [PW.lines_len]
      have := ((PW.fits_iff _ _ _).1 hf).1.2.2.2.2.1
      omega
    subst e2
    have hL1 := Lib.hid fun w1 hb => hL.out w1 hb hf
    refine (hF.out _ hb0.out).mono ?_
    rintro e w1 ⟨rfl, hb1⟩
    have hbA := Lib.hid (Below.of hb0.out hb1)
    have hby1 := Lib.hid (hby0.out.mono hb1)
    generalize PW.lines bad st ins = L at *
    clear hb0 hb1 hby0 hL hF q0 q1 q2 hf hPS hPE hj2
    obtain ⟨q0, q1, q2⟩ := hby1.out
    go_wp2_with fail
    refine (hL1.out _ hbA.out).mono ?_
    rintro e w2 ⟨vL, rfl, hSL, hb2⟩
    have hJ := Lib.hid (sJoin_any L vL w2 hSL hll.2 (by omega) (by omega))
    have hbB := Lib.hid (Below.of hbA.out hb2)
    have hcat : (ByteArray.mk (Lib.join L [10]).toArray) ++ (ByteArray.mk #[10]) = ⟨PS_.toArray⟩ := by rw [e1]; exact cat_eq _ [10]
    generalize Lib.join L [10] = J at *
    have hl1 : J.length + 1 ≤ 9223372036854775807 := by omega
    have hl2 : (J.length : Int) + 1 ≤ 9223372036854775807 := by omega
    clear q0 q1 q2 hbA hb2 hL1 hSL e1 hll
    go_wp2_with fail
    refine hJ.out.mono ?_
    rintro e w3 ⟨rfl, hb3⟩
    go_wp2_with fail
    go_ret2
    exact ⟨rfl, Below.of hbB.out hb3⟩

end Go.Proofs.YtfjejjdkogfelaaDoor
