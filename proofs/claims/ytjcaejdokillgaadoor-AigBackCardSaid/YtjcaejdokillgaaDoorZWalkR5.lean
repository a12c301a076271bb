/- Contract: the page's look at a circuit. -/
import Derived.Test.YtjcaejdokillgaaDoorZR1
namespace Go.Proofs.YtjcaejdokillgaaDoor
open Go.RowKit Go.Shelf

theorem Tryd.info3 : (Tryd.prog.info? 3).map (fun i => (i.zero, i.size, i.bytes)) = some (some (.int .i64 0), 1, 8) := by kernel_rfl

def encI (n : Int) : Value := .int .i64 n
theorem encI_eq (l : List Int) : l.map (Value.int .i64) = l.map encI := rfl

theorem rise_step (c : PC.Circ) (k : Nat) (h0 : 0 < k) (h : k < c.ands.length) : (c.ands[k - 1]'(by omega)).lit = c.ands[k - 1].lit := rfl

/-- what the page's look found so far: the first stage -/
structure Stage1 (c : PC.Circ) : Prop where
  b : 0 ≤ c.max ∧ c.max ≤ 2048 ∧ c.inputs.length ≤ 64 ∧ c.latches.length ≤ 64
  names : PC.namesFrom c none c.names = true

set_option maxRecDepth 100000 in
set_option maxHeartbeats 8000000 in
theorem rCheck_early (c : PC.Circ) (vc : Value) (w : World) (h : IsCirc w vc c) (hS : ¬ Stage1 c) :
    Calls Tryd.prog 55 #[vc] w fun e w' => e = .returned (.int .i64 (if PC.chk c then 0 else 9)) ∧ Below w.heap.size w w' := by
  have hN : ∀ w1, Below w.heap.size w w1 → _ := fun w1 hb => rnames_any c vc w1 (h.mono hb)
  have hKn : ∀ l w1, rng l → Below w.heap.size w w1 → _ := fun l w1 hl hb => rknown_any c vc l w1 hl (h.mono hb)
  have hAl : ∀ v l w1, Ints w1 v l → Below w.heap.size w w1 → _ := fun v l w1 hl hb => rall_any c vc v l w1 hl (h.mono hb)
  obtain ⟨vi, vl, vo, vb, vv, va, vn, rfl, hp, ⟨hm1, hm2⟩⟩ := h
  have hPI := Lib.hid hp
  obtain ⟨ai, capi, rfl, hi1, hi2, hi3⟩ := hp.inputs.open_
  obtain ⟨al, capl, rfl, hl1, hl2, hl3⟩ := hp.latches.open_
  obtain ⟨aa, capa, rfl, ha1, ha2, ha3⟩ := hp.ands.open_
  clear hp
  have HL := Lib.hid hl3
  have HG := Lib.hid ha3
  clear hl3 ha3 hi3
  obtain ⟨R, hR⟩ : ∃ R : Int, R = if PC.chk c then 0 else 9 := ⟨_, rfl⟩
  rw [← hR]
  have HR : Hid ((PC.chk c = false → R = 9) ∧ (PC.chk c = true → R = 0)) := by
    refine ⟨fun h => by rw [hR, h]; rfl, fun h => by rw [hR, h]; rfl⟩
  clear hR
  have hC := Lib.hid (PC.chk_iff c)
  by_cases h1 : c.max < 0
  · clear hN hKn hAl
    go_enter Tryd.func55, Tryd.ntmps55
    go_wp2
    go_ret
    have : PC.chk c = false := PC.chk_false_of fun h => by have := (hC.out.1 h).1.1; omega
    exact ⟨by rw [HR.out.1 this]; rfl, (Below.refl _ _).alloc (Nat.le_refl _) _⟩
  by_cases h2 : 2048 < c.max
  · clear hN hKn hAl
    go_enter Tryd.func55, Tryd.ntmps55
    go_wp2
    go_ret
    have : PC.chk c = false := PC.chk_false_of fun h => by have := (hC.out.1 h).1.2.1; omega
    exact ⟨by rw [HR.out.1 this]; rfl, (Below.refl _ _).alloc (Nat.le_refl _) _⟩
  by_cases h3 : 64 < c.inputs.length
  · clear hN hKn hAl
    go_enter Tryd.func55, Tryd.ntmps55
    go_wp2
    go_ret
    have : PC.chk c = false := PC.chk_false_of fun h => by have := (hC.out.1 h).1.2.2.1; omega
    exact ⟨by rw [HR.out.1 this]; rfl, (Below.refl _ _).alloc (Nat.le_refl _) _⟩
  by_cases h4 : 64 < c.latches.length
  · clear hN hKn hAl
    go_enter Tryd.func55, Tryd.ntmps55
    go_wp2
    go_ret
    have : PC.chk c = false := PC.chk_false_of fun h => by have := (hC.out.1 h).1.2.2.2; omega
    exact ⟨by rw [HR.out.1 this]; rfl, (Below.refl _ _).alloc (Nat.le_refl _) _⟩
  cases h5 : PC.namesFrom c none c.names with
  | false =>
    rw [h5] at hN
    have H5 := Lib.hid h5
    clear h5 hKn hAl
    go_enter Tryd.func55, Tryd.ntmps55
    go_wp2_with (go_at_call 91; refine (hN _ (by exact (Below.refl _ _).alloc (Nat.le_refl _) _)).mono ?_; rintro e w1 ⟨rfl, hb1⟩)
    go_ret
    have : PC.chk c = false := PC.chk_false_of fun h => by have := (hC.out.1 h).2.1; rw [H5.out] at this; cases this
    exact ⟨by rw [HR.out.1 this]; rfl, below1 hb1⟩
  | true => exact absurd ⟨⟨by omega, by omega, by omega, by omega⟩, h5⟩ hS

set_option maxRecDepth 100000 in
set_option maxHeartbeats 8000000 in
theorem rCheck_late (c : PC.Circ) (vc : Value) (w : World) (h : IsCirc w vc c) (hsz : c.ands.length * 8 ≤ 140737488351232) (S1 : Hid (Stage1 c)) :
    Calls Tryd.prog 55 #[vc] w fun e w' => e = .returned (.int .i64 (if PC.chk c then 0 else 9)) ∧ Below w.heap.size w w' := by
  have hN : ∀ w1, Below w.heap.size w w1 → _ := fun w1 hb => rnames_any c vc w1 (h.mono hb)
  have hKn : ∀ l w1, rng l → Below w.heap.size w w1 → _ := fun l w1 hl hb => rknown_any c vc l w1 hl (h.mono hb)
  have hAl : ∀ v l w1, Ints w1 v l → Below w.heap.size w w1 → _ := fun v l w1 hl hb => rall_any c vc v l w1 hl (h.mono hb)
  obtain ⟨vi, vl, vo, vb, vv, va, vn, rfl, hp, ⟨hm1, hm2⟩⟩ := h
  have hPI := Lib.hid hp
  obtain ⟨ai, capi, rfl, hi1, hi2, hi3⟩ := hp.inputs.open_
  obtain ⟨al, capl, rfl, hl1, hl2, hl3⟩ := hp.latches.open_
  obtain ⟨aa, capa, rfl, ha1, ha2, ha3⟩ := hp.ands.open_
  clear hp
  have HL := Lib.hid hl3
  have HG := Lib.hid ha3
  clear hl3 ha3 hi3
  obtain ⟨R, hR⟩ : ∃ R : Int, R = if PC.chk c then 0 else 9 := ⟨_, rfl⟩
  rw [← hR]
  have HR : Hid ((PC.chk c = false → R = 9) ∧ (PC.chk c = true → R = 0)) := by
    refine ⟨fun h => by rw [hR, h]; rfl, fun h => by rw [hR, h]; rfl⟩
  clear hR
  have hC := Lib.hid (PC.chk_iff c)
  obtain ⟨⟨b1, b2, h3, h4⟩, h5⟩ := S1.out
  rw [h5] at hN
  clear h5
  iterate 1
    clear hm1 hm2
    go_enter Tryd.func55, Tryd.ntmps55
    go_wp2_with (first | (go_at_call 91; refine (hN _ (by exact (Below.refl _ _).alloc (Nat.le_refl _) _)).mono ?_; rintro e w1 ⟨rfl, hb1⟩; have hbox := (Box8.new w (.int .i64 c.max) (.slice ai c.inputs.length capi) (.slice al c.latches.length capl) vo vb vv (.slice aa c.ands.length capa) vn 27).mono hb1; have hboxH := Lib.hid hbox; obtain ⟨q0, q1, q2, q3, q4, q5, q6, q7⟩ := hbox; have hbel1 := below1 hb1) | (at_builtin; refine app_cells rfl _ _ 22 rfl 3 1 8 _ Tryd.underlying22 Tryd.info3 rfl (by decide) (n := 0) (xs := []) (B0 := w1.heap.size) (w0 := w1) (B := w1.heap.size) rfl (World.ownsRow_nil _ _ _ _) (Below.refl _ _) (Nat.le_refl _) (Nat.le_refl _) rfl (hPI.out.inputs.mono hbel1).1 (ints_oneCell _ _) (by omega) (by omega) ?_; intro v0 w2 hown2 hb2 _ _))
    clear q0 q1 q2 q3 q4 q5 q6 q7 hN hb1
    have hbel2 := Below.of hbel1 hb2
    have hbox2 := hboxH.out.mono hb2
    go_loopg [3, 4] c.latches.length (fun gg s3 s4 wr => ∃ k : Nat, k ≤ c.latches.length ∧ c.latches.length - k ≤ gg ∧ s4 = .int .i64 k ∧ Below w1.heap.size w1 wr ∧
      Aside (wr.ownsRow w1.heap.size 3 1 s3 (c.inputs.length + k) ((c.inputs ++ (c.latches.take k).map (·.lit)).map (Value.int .i64))) ∧ Aside (∀ j (hj : j < k) (h : j < c.latches.length), PC.latOk c c.latches[j] = true))
    case atStart => exact ⟨0, Nat.zero_le _, by omega, rfl, hb2, by simpa [Aside] using hown2, fun j hj => absurd hj (Nat.not_lt_zero _)⟩
    case round =>
      obtain ⟨k, hk, hg, rfl, hbr, hown, A⟩ := hrel
      have hbelr := Below.of hbel1 hbr
      have hboxr := hboxH.out.mono hbr
      have hboxrH := Lib.hid hboxr
      have hbs := hbr.size
      obtain ⟨q0, q1, q2, q3, q4, q5, q6, q7⟩ := hboxr
      by_cases hlt : k < c.latches.length
      · obtain ⟨b, off, rfl, hbs', ⟨⟨g1, g2⟩, hrn, ⟨g3, g4⟩⟩, c0, c1, c2⟩ := HL.out k hlt
        have c0 := (hbelr.cell hbs').trans c0
        have c1 := (hbelr.cell hbs').trans c1
        have c2 := (hbelr.cell hbs').trans c2
        have hstep := Lib.hid (PC.defs_lat c k hlt)
        generalize hx : c.latches[k] = x at *
        have X := Lib.hid hx
        clear hx
        have hK := hKn x.next
        have hK := fun w1 hb => hK w1 hrn hb
        have hltz : (k : Int) < (c.latches.length : Int) := by omega
        go_wp2_with (at_builtin; refine app_new rfl _ _ 22 rfl 3 1 8 _ Tryd.underlying22 Tryd.info3 rfl (by decide) (w0 := w1) (B0 := w1.heap.size) rfl (hown.out.alloc _) (hbr.alloc hbs _) (Nat.le_refl _) (by simp; omega) _ 1 1 rfl (by intro u hu; simp at hu; subst hu; rfl) (by first | rfl | (simp only [World.size_alloc]; rfl)) (by omega) (by omega) ?_; intro v3 w3 hown3 hb3 hbs3 hgr3; have n0 := beside hown.out hgr3 (p := ⟨wr.heap.size, 0, none⟩) (u := .int .i64 x.lit) (by go_simp) (Nat.le_refl _); have n1 := beside hown.out hgr3 (p := ⟨wr.heap.size, 1, none⟩) (u := .int .i64 x.next) (by go_simp) (Nat.le_refl _); have n2 := beside hown.out hgr3 (p := ⟨wr.heap.size, 2, none⟩) (u := .int .i64 x.reset) (by go_simp) (Nat.le_refl _); clear hgr3 q0 q1 q2 q3 q4 q5 q6 q7; obtain ⟨q0, q1, q2, q3, q4, q5, q6, q7⟩ := hboxH.out.mono hb3)
        all_goals have hbel3 := Lib.hid (Below.of hbel1 hb3)
        all_goals have hown3 := Lib.hid (show w3.ownsRow w1.heap.size 3 1 v3 (c.inputs.length + (k + 1)) ((c.inputs ++ (c.latches.take (k + 1)).map (·.lit)).map (Value.int .i64)) from by rw [hstep.out, List.map_append]; exact hown3)
        · have hres : x.reset = 0 ∨ x.reset = 1 ∨ x.reset = x.lit := Or.inl (by assumption)
          have HRES := Lib.hid hres
          clear hres
          have hbel3' := hbel3.out
          cases hkn : PC.known c x.next with
          | true =>
            rw [hkn] at hK
            have HKN := Lib.hid hkn
            clear hkn
            go_wp2_with (go_at_call 92; refine (hK _ (by exact hbel3')).mono ?_; rintro e w4 ⟨rfl, hb4⟩)
            go_roundg (c.latches.length - (k + 1))
            case measure => omega
            case rel =>
              refine ⟨k + 1, by omega, by omega, by go_num, Below.of hb3 hb4, ?_, (show Aside _ from fun j hj h => ?_)⟩
              · have := hown3.out.kept ⟨hb4.os, hb4.tape, hb4.output, hb4.size, fun b hb _ => hb4.block b hb⟩ (row := none) (by cases v3.ownBlock <;> simp)
                exact this
              · by_cases e : j = k
                · subst e
                  rw [X.out]
                  simp only [PC.latOk, HKN.out, Bool.and_true, Bool.or_eq_true, decide_eq_true_eq]
                  have := HRES.out
                  omega
                · exact A.out j (by omega) h
          | false =>
            rw [hkn] at hK
            have HKN := Lib.hid hkn
            clear hkn
            go_wp2_with (go_at_call 92; refine (hK _ (by exact hbel3')).mono ?_; rintro e w4 ⟨rfl, hb4⟩)
            go_ret
            have : PC.chk c = false := PC.chk_false_of fun h => by
              have := (hC.out.1 h).2.2.1 k hlt
              rw [X.out] at this
              simp [PC.latOk, HKN.out] at this
            exact ⟨by rw [HR.out.1 this]; rfl, Below.of hbel3' hb4⟩
        · have hres : x.reset = 0 ∨ x.reset = 1 ∨ x.reset = x.lit := Or.inr (Or.inl (by assumption))
          have HRES := Lib.hid hres
          clear hres
          have hbel3' := hbel3.out
          cases hkn : PC.known c x.next with
          | true =>
            rw [hkn] at hK
            have HKN := Lib.hid hkn
            clear hkn
            go_wp2_with (go_at_call 92; refine (hK _ (by exact hbel3')).mono ?_; rintro e w4 ⟨rfl, hb4⟩)
            go_roundg (c.latches.length - (k + 1))
            case measure => omega
            case rel =>
              refine ⟨k + 1, by omega, by omega, by go_num, Below.of hb3 hb4, ?_, (show Aside _ from fun j hj h => ?_)⟩
              · have := hown3.out.kept ⟨hb4.os, hb4.tape, hb4.output, hb4.size, fun b hb _ => hb4.block b hb⟩ (row := none) (by cases v3.ownBlock <;> simp)
                exact this
              · by_cases e : j = k
                · subst e
                  rw [X.out]
                  simp only [PC.latOk, HKN.out, Bool.and_true, Bool.or_eq_true, decide_eq_true_eq]
                  have := HRES.out
                  omega
                · exact A.out j (by omega) h
          | false =>
            rw [hkn] at hK
            have HKN := Lib.hid hkn
            clear hkn
            go_wp2_with (go_at_call 92; refine (hK _ (by exact hbel3')).mono ?_; rintro e w4 ⟨rfl, hb4⟩)
            go_ret
            have : PC.chk c = false := PC.chk_false_of fun h => by
              have := (hC.out.1 h).2.2.1 k hlt
              rw [X.out] at this
              simp [PC.latOk, HKN.out] at this
            exact ⟨by rw [HR.out.1 this]; rfl, Below.of hbel3' hb4⟩
        · have hres : x.reset = 0 ∨ x.reset = 1 ∨ x.reset = x.lit := Or.inr (Or.inr (by assumption))
          have HRES := Lib.hid hres
          clear hres
          have hbel3' := hbel3.out
          cases hkn : PC.known c x.next with
          | true =>
            rw [hkn] at hK
            have HKN := Lib.hid hkn
            clear hkn
            go_wp2_with (go_at_call 92; refine (hK _ (by exact hbel3')).mono ?_; rintro e w4 ⟨rfl, hb4⟩)
            go_roundg (c.latches.length - (k + 1))
            case measure => omega
            case rel =>
              refine ⟨k + 1, by omega, by omega, by go_num, Below.of hb3 hb4, ?_, (show Aside _ from fun j hj h => ?_)⟩
              · have := hown3.out.kept ⟨hb4.os, hb4.tape, hb4.output, hb4.size, fun b hb _ => hb4.block b hb⟩ (row := none) (by cases v3.ownBlock <;> simp)
                exact this
              · by_cases e : j = k
                · subst e
                  rw [X.out]
                  simp only [PC.latOk, HKN.out, Bool.and_true, Bool.or_eq_true, decide_eq_true_eq]
                  have := HRES.out
                  omega
                · exact A.out j (by omega) h
          | false =>
            rw [hkn] at hK
            have HKN := Lib.hid hkn
            clear hkn
            go_wp2_with (go_at_call 92; refine (hK _ (by exact hbel3')).mono ?_; rintro e w4 ⟨rfl, hb4⟩)
            go_ret
            have : PC.chk c = false := PC.chk_false_of fun h => by
              have := (hC.out.1 h).2.2.1 k hlt
              rw [X.out] at this
              simp [PC.latOk, HKN.out] at this
            exact ⟨by rw [HR.out.1 this]; rfl, Below.of hbel3' hb4⟩
        · go_ret
          have h1 : ¬ x.reset = 0 := by assumption
          have h2 : ¬ x.reset = 1 := by assumption
          have h3 : ¬ x.reset = x.lit := by assumption
          have : PC.chk c = false := PC.chk_false_of fun h => by
            have := (hC.out.1 h).2.2.1 k hlt
            rw [X.out] at this
            simp [PC.latOk, h1, h2, h3] at this
          exact ⟨by rw [HR.out.1 this]; rfl, hbel3.out⟩
      · have hltz : ¬ (k : Int) < (c.latches.length : Int) := by omega
        obtain rfl : k = c.latches.length := by omega
        rw [List.take_length] at hown
        have S2 : Hid (∀ j (h : j < c.latches.length), PC.latOk c c.latches[j] = true) := fun j h => A.out j h h
        clear A HL
        go_wp2_with fail
        go_loopg [3, 6] c.ands.length (fun gg s3 s6 wr => ∃ k : Nat, k ≤ c.ands.length ∧ c.ands.length - k ≤ gg ∧ s6 = .int .i64 k ∧ Below w1.heap.size w1 wr ∧
          Aside (wr.ownsRow w1.heap.size 3 1 s3 (c.inputs.length + c.latches.length + k) ((c.inputs ++ c.latches.map (·.lit) ++ (c.ands.take k).map (·.lit)).map (Value.int .i64))) ∧
          Aside ((∀ j (hj : j < k) (h : j < c.ands.length), PC.gatOk c c.ands[j] = true) ∧ (∀ j (hj : j + 1 < k) (h : j + 1 < c.ands.length), c.ands[j].lit < c.ands[j + 1].lit)))
        case atStart => exact ⟨0, Nat.zero_le _, by omega, rfl, hbr, by simpa [Aside] using hown, fun j hj => absurd hj (Nat.not_lt_zero _), fun j hj => absurd hj (Nat.not_lt_zero _)⟩
        case round =>
          clear q0 q1 q2 q3 q4 q5 q6 q7 hbelr hboxrH hbs hbr hown hbox2 hbel2 hown2 hb2 hg hk hlt hltz
          obtain ⟨k, hk, hg, rfl, hbr, hown, A⟩ := hrel
          have hbelr := Below.of hbel1 hbr
          have hboxr := hboxH.out.mono hbr
          have hboxrH := Lib.hid hboxr
          have hbs := hbr.size
          obtain ⟨q0, q1, q2, q3, q4, q5, q6, q7⟩ := hboxr
          by_cases hlt : k < c.ands.length
          · have hprev : ¬ k = 0 → ∃ b off p, aa = some ⟨b, off, none⟩ ∧ b < w.heap.size ∧ rng p ∧ w.cell? ⟨b, off + (k - 1) * 3, none⟩ = some (.int .i64 p) ∧ (c.ands[k - 1]'(by omega)).lit = p := by
              intro h0
              obtain ⟨b, off, e, hbs', ⟨hr, _⟩, c0, _⟩ := HG.out (k - 1) (by omega)
              exact ⟨b, off, _, e, hbs', hr, c0, rfl⟩
            obtain ⟨b, off, haa, hbs', ⟨⟨g1, g2⟩, hyl, hyr⟩, c0, c1, c2⟩ := HG.out k hlt
            have c0 := (hbelr.cell hbs').trans c0
            have c1 := (hbelr.cell hbs').trans c1
            have c2 := (hbelr.cell hbs').trans c2
            have hstep := Lib.hid (PC.defs_gat c k hlt)
            generalize hx : c.ands[k] = y at *
            have X := Lib.hid hx
            clear hx
            subst haa
            have hltz : (k : Int) < (c.ands.length : Int) := by omega
            have hprev := Lib.hid hprev
            go_wp2_with (at_builtin; refine app_new rfl _ _ 22 rfl 3 1 8 _ Tryd.underlying22 Tryd.info3 rfl (by decide) (w0 := w1) (B0 := w1.heap.size) rfl (hown.out.alloc _) (hbr.alloc hbs _) (Nat.le_refl _) (by simp; omega) _ 1 1 rfl (by intro u hu; simp at hu; subst hu; rfl) (by first | rfl | (simp only [World.size_alloc]; rfl)) (by omega) (by omega) ?_; intro v3 w3 hown3 hb3 hbs3 hgr3; have n0 := beside hown.out hgr3 (p := ⟨wr.heap.size, 0, none⟩) (u := .int .i64 y.lit) (by go_simp) (Nat.le_refl _); have n1 := beside hown.out hgr3 (p := ⟨wr.heap.size, 1, none⟩) (u := .int .i64 y.left) (by go_simp) (Nat.le_refl _); have n2 := beside hown.out hgr3 (p := ⟨wr.heap.size, 2, none⟩) (u := .int .i64 y.right) (by go_simp) (Nat.le_refl _); clear hgr3 q0 q1 q2 q3 q4 q5 q6 q7; obtain ⟨q0, q1, q2, q3, q4, q5, q6, q7⟩ := hboxH.out.mono hb3)
            have hbel3 := Lib.hid (Below.of hbel1 hb3)
            have hb3a := Lib.hid hb3
            have hown3 := Lib.hid (show w3.ownsRow w1.heap.size 3 1 v3 (c.inputs.length + c.latches.length + (k + 1)) ((c.inputs ++ c.latches.map (·.lit) ++ (c.ands.take (k + 1)).map (·.lit)).map (Value.int .i64)) from by rw [hstep.out, List.map_append]; exact hown3)
            clear q0 q1 q2 q3 q4 q5 q6 q7
            obtain ⟨q0, q1, q2, q3, q4, q5, q6, q7⟩ := (hboxH.out.mono hb3).later
            have hY : Box3 w3 wr.heap.size (.int .i64 y.lit) (.int .i64 y.left) (.int .i64 y.right) := ⟨n0, n1, n2⟩
            obtain ⟨m0, m1, m2⟩ := hY.later
            clear n0 n1 n2
            by_cases h0 : k = 0
            · have hk0 : ¬ 0 < (k : Int) := by omega
              have HP : Hid (0 < k → (c.ands[k - 1]'(by omega)).lit < y.lit) := fun h => by omega
              have hKl : ∀ x1 : Later w3, _ := fun x1 => hKn y.left x1.at_ hyl (Below.of hbel3.out x1.below)
              have hKr : ∀ x1 : Later w3, _ := fun x1 => hKn y.right x1.at_ hyr (Below.of hbel3.out x1.below)
              by_cases d2 : y.lit ≤ y.left
              · refine wp_region_later (by kernel_rfl) (by kernel_rfl) ?_; (repeat (go_big_quiet_step (first | (go_at_call 92; with_reducible exact Calls.later (hKl _)) | (go_at_call 92; with_reducible exact Calls.later (hKr _))))); refine wpQuiet_nil ?_; rintro w3 ⟨⟨_, hb3⟩, rfl⟩
                go_wp2
                go_ret
                have : PC.chk c = false := PC.chk_false_of fun h => by
                  have := (hC.out.1 h).2.2.2.1 k hlt; rw [X.out] at this; simp [PC.gatOk] at this; omega
                exact ⟨by rw [HR.out.1 this]; rfl, Below.of hbel3.out hb3⟩
              by_cases d3 : y.lit ≤ y.right
              · refine wp_region_later (by kernel_rfl) (by kernel_rfl) ?_; (repeat (go_big_quiet_step (first | (go_at_call 92; with_reducible exact Calls.later (hKl _)) | (go_at_call 92; with_reducible exact Calls.later (hKr _))))); refine wpQuiet_nil ?_; rintro w3 ⟨⟨_, hb3⟩, rfl⟩
                go_wp2
                go_ret
                have : PC.chk c = false := PC.chk_false_of fun h => by
                  have := (hC.out.1 h).2.2.2.1 k hlt; rw [X.out] at this; simp [PC.gatOk] at this; omega
                exact ⟨by rw [HR.out.1 this]; rfl, Below.of hbel3.out hb3⟩
              cases d4 : PC.known c y.left with
              | false =>
                rw [d4] at hKl
                have D4 := Lib.hid d4
                clear d4
                refine wp_region_later (by kernel_rfl) (by kernel_rfl) ?_; (repeat (go_big_quiet_step (first | (go_at_call 92; with_reducible exact Calls.later (hKl _)) | (go_at_call 92; with_reducible exact Calls.later (hKr _))))); refine wpQuiet_nil ?_; rintro w3 ⟨⟨_, hb3⟩, rfl⟩
                go_wp2
                go_ret
                have : PC.chk c = false := PC.chk_false_of fun h => by
                  have := (hC.out.1 h).2.2.2.1 k hlt; rw [X.out] at this; simp [PC.gatOk, D4.out] at this
                exact ⟨by rw [HR.out.1 this]; rfl, Below.of hbel3.out hb3⟩
              | true =>
                rw [d4] at hKl
                have D4 := Lib.hid d4
                clear d4
                cases d5 : PC.known c y.right with
                | false =>
                  rw [d5] at hKr
                  have D5 := Lib.hid d5
                  clear d5
                  refine wp_region_later (by kernel_rfl) (by kernel_rfl) ?_; (repeat (go_big_quiet_step (first | (go_at_call 92; with_reducible exact Calls.later (hKl _)) | (go_at_call 92; with_reducible exact Calls.later (hKr _))))); refine wpQuiet_nil ?_; rintro w3 ⟨⟨_, hb3⟩, rfl⟩
                  go_wp2
                  go_ret
                  have : PC.chk c = false := PC.chk_false_of fun h => by
                    have := (hC.out.1 h).2.2.2.1 k hlt; rw [X.out] at this; simp [PC.gatOk, D5.out] at this
                  exact ⟨by rw [HR.out.1 this]; rfl, Below.of hbel3.out hb3⟩
                | true =>
                  rw [d5] at hKr
                  have D5 := Lib.hid d5
                  clear d5
                  have d2' := Lib.hid (show ¬ y.lit ≤ y.left by omega)
                  have d3' := Lib.hid (show ¬ y.lit ≤ y.right by omega)
                  refine wp_region_later (by kernel_rfl) (by kernel_rfl) ?_; (repeat (go_big_quiet_step (first | (go_at_call 92; with_reducible exact Calls.later (hKl _)) | (go_at_call 92; with_reducible exact Calls.later (hKr _))))); refine wpQuiet_nil ?_; rintro w3 ⟨⟨_, hb3⟩, rfl⟩
                  go_wp2
                  go_roundg (c.ands.length - (k + 1))
                  case measure => omega
                  case rel =>
                    refine ⟨k + 1, by omega, by omega, by go_num, Below.of hb3a.out hb3, ?_, (show Aside _ from ⟨fun j hj h => ?_, fun j hj h => ?_⟩)⟩
                    · exact hown3.out.kept ⟨hb3.os, hb3.tape, hb3.output, hb3.size, fun b hb _ => hb3.block b hb⟩ (row := none) (by cases v3.ownBlock <;> simp)
                    · by_cases e : j = k
                      · subst e
                        rw [X.out]
                        have := d2'.out
                        have := d3'.out
                        simp only [PC.gatOk, D4.out, D5.out, Bool.and_true, Bool.and_eq_true, decide_eq_true_eq]
                        omega
                      · exact A.out.1 j (by omega) h
                    · by_cases e : j + 1 = k
                      · subst e
                        rw [X.out]
                        exact HP.out (by omega)
                      · exact A.out.2 j (by omega) h
            · obtain ⟨b', off', p, e, _, ⟨hp1, hp2⟩, hpc, hpe⟩ := hprev.out h0
              cases e
              have hk0 : 0 < (k : Int) := by omega
              have hkN : 0 < k := by omega
              have hpc : ∀ x1 : Later w3, x1.at_.cell? ⟨b, off + (k - 1) * 3, none⟩ = some (.int .i64 p) := fun x1 => x1.cell ((hbel3.out.cell hbs').trans hpc)
              by_cases hle : y.lit ≤ p
              · have hKl : ∀ x1 : Later w3, _ := fun x1 => hKn y.left x1.at_ hyl (Below.of hbel3.out x1.below)
                have hKr := hKl
                refine wp_region_later (by kernel_rfl) (by kernel_rfl) ?_; (repeat (go_big_quiet_step (first | (go_at_call 92; with_reducible exact Calls.later (hKl _)) | (go_at_call 92; with_reducible exact Calls.later (hKr _))))); refine wpQuiet_nil ?_; rintro w3 ⟨⟨_, hb3⟩, rfl⟩
                go_wp2
                go_ret
                have : PC.chk c = false := PC.chk_false_of fun h => by
                  have hh := (hC.out.1 h).2.2.2.2.1 (k - 1) (by omega); simp only [show k - 1 + 1 = k from by omega] at hh; rw [hpe, X.out] at hh; omega
                exact ⟨by rw [HR.out.1 this]; rfl, Below.of hbel3.out hb3⟩
              · have HP : Hid (0 < k → (c.ands[k - 1]'(by omega)).lit < y.lit) := fun h => by rw [hpe]; omega
                have hKl : ∀ x1 : Later w3, _ := fun x1 => hKn y.left x1.at_ hyl (Below.of hbel3.out x1.below)
                have hKr : ∀ x1 : Later w3, _ := fun x1 => hKn y.right x1.at_ hyr (Below.of hbel3.out x1.below)
                by_cases d2 : y.lit ≤ y.left
                · refine wp_region_later (by kernel_rfl) (by kernel_rfl) ?_; (repeat (go_big_quiet_step (first | (go_at_call 92; with_reducible exact Calls.later (hKl _)) | (go_at_call 92; with_reducible exact Calls.later (hKr _))))); refine wpQuiet_nil ?_; rintro w3 ⟨⟨_, hb3⟩, rfl⟩
                  go_wp2
                  go_ret
                  have : PC.chk c = false := PC.chk_false_of fun h => by
                    have := (hC.out.1 h).2.2.2.1 k hlt; rw [X.out] at this; simp [PC.gatOk] at this; omega
                  exact ⟨by rw [HR.out.1 this]; rfl, Below.of hbel3.out hb3⟩
                by_cases d3 : y.lit ≤ y.right
                · refine wp_region_later (by kernel_rfl) (by kernel_rfl) ?_; (repeat (go_big_quiet_step (first | (go_at_call 92; with_reducible exact Calls.later (hKl _)) | (go_at_call 92; with_reducible exact Calls.later (hKr _))))); refine wpQuiet_nil ?_; rintro w3 ⟨⟨_, hb3⟩, rfl⟩
                  go_wp2
                  go_ret
                  have : PC.chk c = false := PC.chk_false_of fun h => by
                    have := (hC.out.1 h).2.2.2.1 k hlt; rw [X.out] at this; simp [PC.gatOk] at this; omega
                  exact ⟨by rw [HR.out.1 this]; rfl, Below.of hbel3.out hb3⟩
                cases d4 : PC.known c y.left with
                | false =>
                  rw [d4] at hKl
                  have D4 := Lib.hid d4
                  clear d4
                  refine wp_region_later (by kernel_rfl) (by kernel_rfl) ?_; (repeat (go_big_quiet_step (first | (go_at_call 92; with_reducible exact Calls.later (hKl _)) | (go_at_call 92; with_reducible exact Calls.later (hKr _))))); refine wpQuiet_nil ?_; rintro w3 ⟨⟨_, hb3⟩, rfl⟩
                  go_wp2
                  go_ret
                  have : PC.chk c = false := PC.chk_false_of fun h => by
                    have := (hC.out.1 h).2.2.2.1 k hlt; rw [X.out] at this; simp [PC.gatOk, D4.out] at this
                  exact ⟨by rw [HR.out.1 this]; rfl, Below.of hbel3.out hb3⟩
                | true =>
                  rw [d4] at hKl
                  have D4 := Lib.hid d4
                  clear d4
                  cases d5 : PC.known c y.right with
                  | false =>
                    rw [d5] at hKr
                    have D5 := Lib.hid d5
                    clear d5
                    refine wp_region_later (by kernel_rfl) (by kernel_rfl) ?_; (repeat (go_big_quiet_step (first | (go_at_call 92; with_reducible exact Calls.later (hKl _)) | (go_at_call 92; with_reducible exact Calls.later (hKr _))))); refine wpQuiet_nil ?_; rintro w3 ⟨⟨_, hb3⟩, rfl⟩
                    go_wp2
                    go_ret
                    have : PC.chk c = false := PC.chk_false_of fun h => by
                      have := (hC.out.1 h).2.2.2.1 k hlt; rw [X.out] at this; simp [PC.gatOk, D5.out] at this
                    exact ⟨by rw [HR.out.1 this]; rfl, Below.of hbel3.out hb3⟩
                  | true =>
                    rw [d5] at hKr
                    have D5 := Lib.hid d5
                    clear d5
                    have d2' := Lib.hid (show ¬ y.lit ≤ y.left by omega)
                    have d3' := Lib.hid (show ¬ y.lit ≤ y.right by omega)
                    refine wp_region_later (by kernel_rfl) (by kernel_rfl) ?_; (repeat (go_big_quiet_step (first | (go_at_call 92; with_reducible exact Calls.later (hKl _)) | (go_at_call 92; with_reducible exact Calls.later (hKr _))))); refine wpQuiet_nil ?_; rintro w3 ⟨⟨_, hb3⟩, rfl⟩
                    go_wp2
                    go_roundg (c.ands.length - (k + 1))
                    case measure => omega
                    case rel =>
                      refine ⟨k + 1, by omega, by omega, by go_num, Below.of hb3a.out hb3, ?_, (show Aside _ from ⟨fun j hj h => ?_, fun j hj h => ?_⟩)⟩
                      · exact hown3.out.kept ⟨hb3.os, hb3.tape, hb3.output, hb3.size, fun b hb _ => hb3.block b hb⟩ (row := none) (by cases v3.ownBlock <;> simp)
                      · by_cases e : j = k
                        · subst e
                          rw [X.out]
                          have := d2'.out
                          have := d3'.out
                          simp only [PC.gatOk, D4.out, D5.out, Bool.and_true, Bool.and_eq_true, decide_eq_true_eq]
                          omega
                        · exact A.out.1 j (by omega) h
                      · by_cases e : j + 1 = k
                        · subst e
                          rw [X.out]
                          exact HP.out (by omega)
                        · exact A.out.2 j (by omega) h
          · have hltz : ¬ (k : Int) < (c.ands.length : Int) := by omega
            obtain rfl : k = c.ands.length := by omega
            rw [List.take_length] at hown
            have S3 : Hid ((∀ j (h : j < c.ands.length), PC.gatOk c c.ands[j] = true) ∧ (∀ j (h : j + 1 < c.ands.length), c.ands[j].lit < c.ands[j + 1].lit)) := ⟨fun j h => A.out.1 j h h, fun j h => A.out.2 j h h⟩
            clear A HG
            have hCl : Hid (Cells wr 1 _ (c.inputs.length + c.latches.length + c.ands.length) (c.defs.map (Value.int .i64))) := Cells.of_owns hown.out
            obtain ⟨ao, cap, rfl, _, hcapm, _, hcl, hcc⟩ := hCl.out
            have hdl : Hid (c.defs.length = c.inputs.length + c.latches.length + c.ands.length) := by simp [Hid, PC.Circ.defs]; omega
            have hdn : c.inputs.length + c.latches.length + c.ands.length ≤ 9223372036854775807 := by omega
            have hcc : Hid (∀ j (hj : j < c.defs.length), ∃ b off, ao = some ⟨b, off, none⟩ ∧ b < wr.heap.size ∧ wr.cell? ⟨b, off + j, none⟩ = some (.int .i64 c.defs[j])) := fun j hj => by
              obtain ⟨b, off, e, h1, h2⟩ := hcc j (by simpa using hj)
              exact ⟨b, off, e, h1, by simpa using h2⟩
            have hdr : Hid (∀ x ∈ c.defs, rng x) := fun x hx => by
              simp only [PC.Circ.defs, List.mem_append, List.mem_map] at hx
              rcases hx with (hx | ⟨y, hy, rfl⟩) | ⟨y, hy, rfl⟩
              · exact hPI.out.inputs.2 x hx
              · exact (hPI.out.latches.2 y hy).1
              · exact (hPI.out.ands.2 y hy).1
            clear hcl hown
            go_wp2_with fail
            generalize hn : c.inputs.length + c.latches.length + c.ands.length = n at *
            have HN := Lib.hid hn
            clear hn
            have hbelH := Lib.hid hbelr
            have hbrH := Lib.hid hbr
            clear hbelr hbr hbs hg hk hlt hltz
            obtain ⟨W0, hW0⟩ : ∃ W0, W0 = wr := ⟨_, rfl⟩
            subst hW0
            go_loopg [8] n (fun gg s8 wr => ∃ k : Nat, k ≤ n ∧ n - k ≤ gg ∧ s8 = .int .i64 k ∧ Below W0.heap.size W0 wr ∧
              Aside (∀ j (hj : j < k) (h : j < c.defs.length), PC.defOk c c.defs[j] = true ∧ PC.hasI (c.defs.take j) c.defs[j] = false))
            case atStart => exact ⟨0, Nat.zero_le _, by omega, rfl, Below.refl _ _, fun j hj => absurd hj (Nat.not_lt_zero _)⟩
            case round =>
              clear q0 q1 q2 q3 q4 q5 q6 q7
              obtain ⟨k, hk, hg, rfl, hb4, A⟩ := hrel
              have hbel4 := Lib.hid (Below.of hbelH.out hb4)
              have hbox4 := Lib.hid (hboxrH.out.mono hb4)
              by_cases hlt : k < n
              · obtain ⟨b, off, hao, hbs', hc0⟩ := hcc.out k (by rw [hdl.out]; exact hlt)
                subst hao
                have hc0 : ∀ x1 : Later wr, x1.at_.cell? ⟨b, off + k, none⟩ = some (.int .i64 (c.defs[k]'(by rw [hdl.out]; exact hlt))) := fun x1 => x1.cell ((hb4.cell hbs').trans hc0)
                have hIn : Ints wr (.slice (some ⟨b, off, none⟩) k cap) (c.defs.take k) := by
                  have hkl : (c.defs.take k).length = k := by rw [List.length_take, hdl.out]; omega
                  have h1 := (hCl.out.mono hb4).cut k (by omega)
                  rw [Nat.mul_one, ← List.map_take] at h1
                  exact ⟨by rw [hkl]; exact h1, fun x hx => hdr.out x (List.mem_of_mem_take hx)⟩
                obtain ⟨g1, g2⟩ := hdr.out (c.defs[k]'(by rw [hdl.out]; exact hlt)) (List.getElem_mem _)
                generalize hx : (c.defs[k]'(by rw [hdl.out]; exact hlt)) = x at *
                have X := Lib.hid hx
                clear hx
                have hHas : ∀ x1 : Later wr, _ := fun x1 => rHas_any (c.defs.take k) _ x x1.at_ (hIn.mono x1.below)
                clear hIn
                obtain ⟨q0, q1, q2, q3, q4, q5, q6, q7⟩ := hbox4.out.later
                have hltz : (k : Int) < (n : Int) := by omega
                go_wp2_with fail
                by_cases d1 : x < 2
                · refine wp_region_later (by kernel_rfl) (by kernel_rfl) ?_; (repeat (go_big_quiet_step ((go_at_call 93; with_reducible exact Calls.later_same (hHas _))))); refine wpQuiet_nil ?_; rintro w3 ⟨⟨_, hb3⟩, rfl⟩
                  go_wp2
                  go_ret
                  have : PC.chk c = false := PC.chk_false_of fun h => by
                    have := (hC.out.1 h).2.2.2.2.2.1 k (by rw [hdl.out]; exact hlt)
                    rw [X.out] at this
                    simp [PC.defOk] at this; omega
                  exact ⟨by rw [HR.out.1 this]; rfl, Below.of hbel4.out hb3⟩
                by_cases d2 : x % 2 = 1
                · refine wp_region_later (by kernel_rfl) (by kernel_rfl) ?_; (repeat (go_big_quiet_step ((go_at_call 93; with_reducible exact Calls.later_same (hHas _))))); refine wpQuiet_nil ?_; rintro w3 ⟨⟨_, hb3⟩, rfl⟩
                  go_wp2
                  go_ret
                  have : PC.chk c = false := PC.chk_false_of fun h => by
                    have := (hC.out.1 h).2.2.2.2.2.1 k (by rw [hdl.out]; exact hlt)
                    rw [X.out] at this
                    simp [PC.defOk] at this; omega
                  exact ⟨by rw [HR.out.1 this]; rfl, Below.of hbel4.out hb3⟩
                have d2' : x % 2 = 0 := by omega
                clear d2
                by_cases d3 : 2 * c.max < x
                · refine wp_region_later (by kernel_rfl) (by kernel_rfl) ?_; (repeat (go_big_quiet_step ((go_at_call 93; with_reducible exact Calls.later_same (hHas _))))); refine wpQuiet_nil ?_; rintro w3 ⟨⟨_, hb3⟩, rfl⟩
                  go_wp2
                  go_ret
                  have : PC.chk c = false := PC.chk_false_of fun h => by
                    have := (hC.out.1 h).2.2.2.2.2.1 k (by rw [hdl.out]; exact hlt)
                    rw [X.out] at this
                    simp [PC.defOk] at this; omega
                  exact ⟨by rw [HR.out.1 this]; rfl, Below.of hbel4.out hb3⟩
                cases dh : PC.hasI (c.defs.take k) x with
                | true =>
                  rw [dh] at hHas
                  have DH := Lib.hid dh
                  clear dh
                  refine wp_region_later (by kernel_rfl) (by kernel_rfl) ?_; (repeat (go_big_quiet_step ((go_at_call 93; with_reducible exact Calls.later_same (hHas _))))); refine wpQuiet_nil ?_; rintro w3 ⟨⟨_, hb3⟩, rfl⟩
                  go_wp2
                  go_ret
                  have : PC.chk c = false := PC.chk_false_of fun h => by
                    have := (hC.out.1 h).2.2.2.2.2.1 k (by rw [hdl.out]; exact hlt)
                    rw [X.out] at this
                    rw [DH.out] at this; simp at this
                  exact ⟨by rw [HR.out.1 this]; rfl, Below.of hbel4.out hb3⟩
                | false =>
                  rw [dh] at hHas
                  have DH := Lib.hid dh
                  clear dh
                  have D := Lib.hid (show PC.defOk c x = true by simp [PC.defOk]; omega)
                  refine wp_region_later (by kernel_rfl) (by kernel_rfl) ?_; (repeat (go_big_quiet_step ((go_at_call 93; with_reducible exact Calls.later_same (hHas _))))); refine wpQuiet_nil ?_; rintro w3 ⟨⟨_, hb3⟩, rfl⟩
                  go_wp2
                  go_roundg (n - (k + 1))
                  case measure => omega
                  case rel =>
                    refine ⟨k + 1, by omega, by omega, by go_num, Below.of hb4 hb3, (show Aside _ from fun j hj h => ?_)⟩
                    by_cases e : j = k
                    · subst e
                      rw [X.out]
                      exact ⟨D.out, DH.out⟩
                    · exact A.out j (by omega) h
              · have hltz : ¬ (k : Int) < (n : Int) := by omega
                obtain rfl : k = n := by omega
                have S4 : Hid (∀ j (h : j < c.defs.length), PC.defOk c c.defs[j] = true ∧ PC.hasI (c.defs.take j) c.defs[j] = false) := fun j h => A.out j (by rw [hdl.out] at h; exact h) h
                clear A hcc hb4
                have hO : ∀ w1, Below w.heap.size w w1 → _ := fun w1 hb => hAl vo c.outputs w1 (hPI.out.outputs.mono hb) hb
                have hB : ∀ w1, Below w.heap.size w w1 → _ := fun w1 hb => hAl vb c.bads w1 (hPI.out.bads.mono hb) hb
                have hV : ∀ w1, Below w.heap.size w w1 → _ := fun w1 hb => hAl vv c.invars w1 (hPI.out.invars.mono hb) hb
                clear hAl hKn
                obtain ⟨q0, q1, q2, q3, q4, q5, q6, q7⟩ := hbox4.out
                have hALL : Hid (∀ (_ : PC.allKnown c c.outputs = true) (_ : PC.allKnown c c.bads = true) (_ : PC.allKnown c c.invars = true), PC.chk c = true) := fun a1 a2 a3 => hC.out.2 ⟨⟨b1, b2, h3, h4⟩, S1.out.names, S2.out, S3.out.1, S3.out.2, S4.out, a1, a2, a3⟩
                cases ho : PC.allKnown c c.outputs with
                | false =>
                  rw [ho] at hO
                  have HO := Lib.hid ho
                  clear ho
                  go_wp2_with (go_at_call 94; refine (hO _ (by exact hbel4.out)).mono ?_; rintro e w5 ⟨rfl, hb5⟩; have hbel5 := Lib.hid (Below.of hbel4.out hb5); have hbox5 := Lib.hid (hbox4.out.mono hb5); clear q0 q1 q2 q3 q4 q5 q6 q7 hb5; obtain ⟨q0, q1, q2, q3, q4, q5, q6, q7⟩ := hbox5.out)
                  go_ret
                  have : PC.chk c = false := PC.chk_false_of fun h => by
                    have := (hC.out.1 h).2.2.2.2.2.2.1
                    rw [HO.out] at this
                    cases this
                  exact ⟨by rw [HR.out.1 this]; rfl, hbel5.out⟩
                | true =>
                  rw [ho] at hO
                  have HO := Lib.hid ho
                  clear ho
                  cases hb : PC.allKnown c c.bads with
                  | false =>
                    rw [hb] at hB
                    have HB := Lib.hid hb
                    clear hb
                    go_wp2_with (go_at_call 94; first | (have _ := hbel5; refine (hB _ (by exact hbel5.out)).mono ?_; rintro e w6 ⟨rfl, hb6⟩; have hbel6 := Lib.hid (Below.of hbel5.out hb6); have hbox6 := Lib.hid (hbox5.out.mono hb6); clear q0 q1 q2 q3 q4 q5 q6 q7 hb6; obtain ⟨q0, q1, q2, q3, q4, q5, q6, q7⟩ := hbox6.out) | (refine (hO _ (by exact hbel4.out)).mono ?_; rintro e w5 ⟨rfl, hb5⟩; have hbel5 := Lib.hid (Below.of hbel4.out hb5); have hbox5 := Lib.hid (hbox4.out.mono hb5); clear q0 q1 q2 q3 q4 q5 q6 q7 hb5; obtain ⟨q0, q1, q2, q3, q4, q5, q6, q7⟩ := hbox5.out))
                    go_ret
                    have : PC.chk c = false := PC.chk_false_of fun h => by
                      have := (hC.out.1 h).2.2.2.2.2.2.2.1
                      rw [HB.out] at this
                      cases this
                    exact ⟨by rw [HR.out.1 this]; rfl, hbel6.out⟩
                  | true =>
                    rw [hb] at hB
                    have HB := Lib.hid hb
                    clear hb
                    cases hv : PC.allKnown c c.invars with
                    | false =>
                      rw [hv] at hV
                      have HV := Lib.hid hv
                      clear hv
                      go_wp2_with (go_at_call 94; first | (have _ := hbel6; refine (hV _ (by exact hbel6.out)).mono ?_; rintro e w7 ⟨rfl, hb7⟩; have hbel7 := Lib.hid (Below.of hbel6.out hb7); clear hb7) | (have _ := hbel5; refine (hB _ (by exact hbel5.out)).mono ?_; rintro e w6 ⟨rfl, hb6⟩; have hbel6 := Lib.hid (Below.of hbel5.out hb6); have hbox6 := Lib.hid (hbox5.out.mono hb6); clear q0 q1 q2 q3 q4 q5 q6 q7 hb6; obtain ⟨q0, q1, q2, q3, q4, q5, q6, q7⟩ := hbox6.out) | (refine (hO _ (by exact hbel4.out)).mono ?_; rintro e w5 ⟨rfl, hb5⟩; have hbel5 := Lib.hid (Below.of hbel4.out hb5); have hbox5 := Lib.hid (hbox4.out.mono hb5); clear q0 q1 q2 q3 q4 q5 q6 q7 hb5; obtain ⟨q0, q1, q2, q3, q4, q5, q6, q7⟩ := hbox5.out))
                      go_ret
                      have : PC.chk c = false := PC.chk_false_of fun h => by
                        have := (hC.out.1 h).2.2.2.2.2.2.2.2
                        rw [HV.out] at this
                        cases this
                      exact ⟨by rw [HR.out.1 this]; rfl, hbel7.out⟩
                    | true =>
                      rw [hv] at hV
                      have HV := Lib.hid hv
                      clear hv
                      go_wp2_with (go_at_call 94; first | (have _ := hbel6; refine (hV _ (by exact hbel6.out)).mono ?_; rintro e w7 ⟨rfl, hb7⟩; have hbel7 := Lib.hid (Below.of hbel6.out hb7); clear hb7) | (have _ := hbel5; refine (hB _ (by exact hbel5.out)).mono ?_; rintro e w6 ⟨rfl, hb6⟩; have hbel6 := Lib.hid (Below.of hbel5.out hb6); have hbox6 := Lib.hid (hbox5.out.mono hb6); clear q0 q1 q2 q3 q4 q5 q6 q7 hb6; obtain ⟨q0, q1, q2, q3, q4, q5, q6, q7⟩ := hbox6.out) | (refine (hO _ (by exact hbel4.out)).mono ?_; rintro e w5 ⟨rfl, hb5⟩; have hbel5 := Lib.hid (Below.of hbel4.out hb5); have hbox5 := Lib.hid (hbox4.out.mono hb5); clear q0 q1 q2 q3 q4 q5 q6 q7 hb5; obtain ⟨q0, q1, q2, q3, q4, q5, q6, q7⟩ := hbox5.out))
                      go_ret
                      exact ⟨by rw [HR.out.2 (hALL.out HO.out HB.out HV.out)]; rfl, hbel7.out⟩

theorem rCheck_any (c : PC.Circ) (vc : Value) (w : World) (h : IsCirc w vc c) (hsz : c.ands.length * 8 ≤ 140737488351232) :
    Calls Tryd.prog 55 #[vc] w fun e w' => e = .returned (.int .i64 (if PC.chk c then 0 else 9)) ∧ Below w.heap.size w w' := by
  by_cases hS : Stage1 c
  · exact rCheck_late c vc w h hsz hS
  · exact rCheck_early c vc w h hS

end Go.Proofs.YtjcaejdokillgaaDoor
