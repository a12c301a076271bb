/- Contract: the page's names. -/
import Derived.Test.YtjcaejdokillgaaDoorZL2
namespace Go.Proofs.YtjcaejdokillgaaDoor
open Go.RowKit Go.Shelf

namespace PC
theorem hasVar_hit (l : List Int) (v : Int) (k : Nat) (hk : k < l.length) (h0 : 0 ≤ l[k]) (h1 : l[k] / 2 = v) : hasVar l v = true :=
  (hasVar_iff l v).2 ⟨_, List.getElem_mem hk, h0, h1⟩
theorem hasVar_miss (l : List Int) (v : Int) (h : ∀ j (hj : j < l.length), ¬ (0 ≤ l[j] ∧ l[j] / 2 = v)) : hasVar l v = false := by
  rw [Bool.eq_false_iff]
  intro hh
  obtain ⟨d, hd, h0, h1⟩ := (hasVar_iff l v).1 hh
  obtain ⟨j, hj, e⟩ := List.getElem_of_mem hd
  exact h j hj ⟨e ▸ h0, e ▸ h1⟩
theorem kind_in (c : Circ) (v : Int) (h0 : v ≠ 0) (h : hasVar c.inputs v = true) : kindS c v = [105] := by simp [kindS, h0, h]
theorem kind_lat (c : Circ) (v : Int) (h0 : v ≠ 0) (h1 : hasVar c.inputs v = false) (h : hasVar (c.latches.map (·.lit)) v = true) : kindS c v = [108] := by simp [kindS, h0, h1, h]
theorem kind_gat (c : Circ) (v : Int) (h0 : v ≠ 0) (h1 : hasVar c.inputs v = false) (h2 : hasVar (c.latches.map (·.lit)) v = false) (h : hasVar (c.ands.map (·.lit)) v = true) : kindS c v = [97] := by simp [kindS, h0, h1, h2, h]
theorem kind_none (c : Circ) (v : Int) (h0 : v ≠ 0) (h1 : hasVar c.inputs v = false) (h2 : hasVar (c.latches.map (·.lit)) v = false) (h : hasVar (c.ands.map (·.lit)) v = false) : kindS c v = [] := by simp [kindS, h0, h1, h2, h]
end PC



set_option maxHeartbeats 1000000 in
theorem rHas_any (l : List Int) (v : Value) (n : Int) (w : World) (hv : Ints w v l) :
    Calls Tryd.prog 93 #[v, .int .i64 n] w fun e w' => e = .returned (.bool (PC.hasI l n)) ∧ w = w' := by
  obtain ⟨ao, cap, rfl, hlc, hcm, hc⟩ := hv.open_
  clear hv
  go_enter Tryd.func93, Tryd.ntmps93
  go_wp2
  go_loopg [5] l.length (fun gg s5 wr => ∃ k : Nat, k ≤ l.length ∧ l.length - k ≤ gg ∧ s5 = .int .i64 k ∧ wr = w ∧ Aside (∀ j (hj : j < k) (h : j < l.length), l[j] ≠ n))
  case atStart => exact ⟨0, Nat.zero_le _, by omega, rfl, rfl, fun j hj => absurd hj (Nat.not_lt_zero _)⟩
  case round =>
    obtain ⟨k, hk, hg, rfl, rfl, A⟩ := hrel
    by_cases hlt : k < l.length
    · obtain ⟨b, off, rfl, _, _, hcell⟩ := hc k hlt
      clear hc
      generalize hy : l[k] = y at hcell
      have B : Aside (l[k] = y) := hy
      clear hy
      have hltz : (k : Int) < (l.length : Int) := by omega
      by_cases hq : y = n
      · have hqb : (y == n) = true := by simpa using hq
        clear hq
        go_wp2
        go_ret
        refine ⟨?_, rfl⟩
        have : PC.hasI l n = true := by
          rw [PC.hasI_eq, List.contains_iff_mem, ← eq_of_beq hqb, ← B.out]; exact List.getElem_mem hlt
        rw [this]; rfl
      · have hqb : (y == n) = false := by simpa using hq
        go_wp2
        go_roundg (l.length - (k + 1))
        case measure => omega
        case rel =>
          refine ⟨k + 1, by omega, by omega, by go_num, rfl, (show Aside _ from fun j hj h => ?_)⟩
          by_cases e : j = k
          · subst e; rw [B.out]; exact hq
          · exact A.out j (by omega) h
    · have hltz : ¬ (k : Int) < (l.length : Int) := by omega
      go_wp2
      go_ret
      refine ⟨?_, rfl⟩
      have : PC.hasI l n = false := by
        rw [PC.hasI_eq, Bool.eq_false_iff]
        intro h
        obtain ⟨j, hj, e⟩ := List.getElem_of_mem (List.contains_iff_mem.1 h)
        exact A.out j (by omega) hj e
      rw [this]; rfl

set_option maxHeartbeats 2000000 in
theorem rKind_any (c : PC.Circ) (vc : Value) (v : Int) (w : World) (hv : rng v) (h : IsCirc w vc c) :
    Calls Tryd.prog 119 #[vc, .int .i64 v] w fun e w' => e = .returned (.string ⟨(PC.kindS c v).toArray⟩) ∧ Below w.heap.size w w' := by
  obtain ⟨vi, vl, vo, vb, vv, va, vn, rfl, hp, hmax⟩ := h
  obtain ⟨ai, capi, rfl, hi1, hi2, hi3⟩ := hp.inputs.open_
  obtain ⟨al, capl, rfl, hl1, hl2, hl3⟩ := hp.latches.open_
  obtain ⟨aa, capa, rfl, ha1, ha2, ha3⟩ := hp.ands.open_
  clear hp hmax
  obtain ⟨hv1, hv2⟩ := hv
  by_cases h0 : v = 0
  · subst h0
    go_enter Tryd.func119, Tryd.ntmps119
    go_wp2
    go_ret
    exact ⟨rfl, (Below.refl _ _).alloc (Nat.le_refl _) _⟩
  · have h0b : (v == 0) = false := by simpa using h0
    have h0h := Lib.hid h0
    clear h0
    obtain ⟨R, hR⟩ : ∃ R, R = PC.kindS c v := ⟨_, rfl⟩
    rw [← hR]
    have HR := Lib.hid hR
    clear hR
    go_enter Tryd.func119, Tryd.ntmps119
    go_wp2
    go_loopg [5] c.inputs.length (fun gg s5 wr => ∃ k : Nat, k ≤ c.inputs.length ∧ c.inputs.length - k ≤ gg ∧ s5 = .int .i64 k ∧ wr = w.alloc (.cells #[.int .i64 c.max, .slice ai c.inputs.length capi, .slice al c.latches.length capl, vo, vb, vv, .slice aa c.ands.length capa, vn] 27) ∧ Aside (∀ j (hj : j < k) (h : j < c.inputs.length), ¬ (0 ≤ c.inputs[j] ∧ c.inputs[j] / 2 = v)))
    case atStart => exact ⟨0, Nat.zero_le _, by omega, rfl, rfl, fun j hj => absurd hj (Nat.not_lt_zero _)⟩
    case round =>
      obtain ⟨k, hk, hg, rfl, rfl, A⟩ := hrel
      by_cases hlt : k < c.inputs.length
      · obtain ⟨b, off, rfl, _, hr, hcell⟩ := hi3 k hlt
        have hcell := past1 hcell
        clear hi3
        generalize hy : c.inputs[k] = y at hcell hr
        have B : Aside (c.inputs[k] = y) := hy
        clear hy
        obtain ⟨hr1, hr2⟩ := hr
        have hltz : (k : Int) < (c.inputs.length : Int) := by omega
        have hnext : ¬ (0 ≤ y ∧ y / 2 = v) → Aside (∀ j (hj : j < k + 1) (h : j < c.inputs.length), ¬ (0 ≤ c.inputs[j] ∧ c.inputs[j] / 2 = v)) := by
          intro hn j hj h
          by_cases e : j = k
          · subst e; rw [B.out]; exact hn
          · exact A.out j (by omega) h
        have hnext := Lib.hid hnext
        by_cases hy0 : 0 ≤ y
        · cases hq : (y / 2 == v) with
          | true =>
            go_wp2
            go_ret
            exact ⟨by rw [HR.out, (PC.kind_in c v h0h.out (PC.hasVar_hit c.inputs v k hlt (by rw [B.out]; exact hy0) (by rw [B.out]; exact eq_of_beq hq)))]; rfl, (Below.refl _ _).alloc (Nat.le_refl _) _⟩
          | false =>
            go_wp2
            go_roundg (c.inputs.length - (k + 1))
            case measure => omega
            case rel => exact ⟨k + 1, by omega, by omega, by go_num, rfl, hnext.out (fun h => by rw [h.2] at hq; simp at hq)⟩
        · go_wp2
          go_roundg (c.inputs.length - (k + 1))
          case measure => omega
          case rel => exact ⟨k + 1, by omega, by omega, by go_num, rfl, hnext.out (fun h => by omega)⟩
      · have hltz : ¬ (k : Int) < (c.inputs.length : Int) := by omega
        have V1 := Lib.hid (PC.hasVar_miss c.inputs v fun j hj => A.out j (by omega) hj)
        clear A hi3
        go_wp2
        go_loopg [6] c.latches.length (fun gg s5 wr => ∃ k : Nat, k ≤ c.latches.length ∧ c.latches.length - k ≤ gg ∧ s5 = .int .i64 k ∧ wr = w.alloc (.cells #[.int .i64 c.max, .slice ai c.inputs.length capi, .slice al c.latches.length capl, vo, vb, vv, .slice aa c.ands.length capa, vn] 27) ∧ Aside (∀ j (hj : j < k) (h : j < c.latches.length), ¬ (0 ≤ c.latches[j].lit ∧ c.latches[j].lit / 2 = v)))
        case atStart => exact ⟨0, Nat.zero_le _, by omega, rfl, rfl, fun j hj => absurd hj (Nat.not_lt_zero _)⟩
        case round =>
          obtain ⟨k, hk, hg, rfl, rfl, A⟩ := hrel
          by_cases hlt : k < c.latches.length
          · obtain ⟨b, off, rfl, _, ⟨hr, _, _⟩, hcell, _, _⟩ := hl3 k hlt
            have hcell := past1 hcell
            clear hl3
            generalize hy : c.latches[k].lit = y at hcell hr
            have B : Aside (c.latches[k].lit = y) := hy
            clear hy
            obtain ⟨hr1, hr2⟩ := hr
            have hltz : (k : Int) < (c.latches.length : Int) := by omega
            have hnext : ¬ (0 ≤ y ∧ y / 2 = v) → Aside (∀ j (hj : j < k + 1) (h : j < c.latches.length), ¬ (0 ≤ c.latches[j].lit ∧ c.latches[j].lit / 2 = v)) := by
              intro hn j hj h
              by_cases e : j = k
              · subst e; rw [B.out]; exact hn
              · exact A.out j (by omega) h
            have hnext := Lib.hid hnext
            by_cases hy0 : 0 ≤ y
            · cases hq : (y / 2 == v) with
              | true =>
                go_wp2
                go_ret
                exact ⟨by rw [HR.out, (PC.kind_lat c v h0h.out V1.out (PC.hasVar_hit (c.latches.map (·.lit)) v k (by simpa using hlt) (by rw [List.getElem_map, B.out]; exact hy0) (by rw [List.getElem_map, B.out]; exact eq_of_beq hq)))]; rfl, (Below.refl _ _).alloc (Nat.le_refl _) _⟩
              | false =>
                go_wp2
                go_roundg (c.latches.length - (k + 1))
                case measure => omega
                case rel => exact ⟨k + 1, by omega, by omega, by go_num, rfl, hnext.out (fun h => by rw [h.2] at hq; simp at hq)⟩
            · go_wp2
              go_roundg (c.latches.length - (k + 1))
              case measure => omega
              case rel => exact ⟨k + 1, by omega, by omega, by go_num, rfl, hnext.out (fun h => by omega)⟩
          · have hltz : ¬ (k : Int) < (c.latches.length : Int) := by omega
            have V2 := Lib.hid (PC.hasVar_miss (c.latches.map (·.lit)) v fun j hj => by rw [List.getElem_map]; exact A.out j (by simp at hj; omega) (by simpa using hj))
            clear A hl3
            go_wp2
            go_loopg [7] c.ands.length (fun gg s5 wr => ∃ k : Nat, k ≤ c.ands.length ∧ c.ands.length - k ≤ gg ∧ s5 = .int .i64 k ∧ wr = w.alloc (.cells #[.int .i64 c.max, .slice ai c.inputs.length capi, .slice al c.latches.length capl, vo, vb, vv, .slice aa c.ands.length capa, vn] 27) ∧ Aside (∀ j (hj : j < k) (h : j < c.ands.length), ¬ (0 ≤ c.ands[j].lit ∧ c.ands[j].lit / 2 = v)))
            case atStart => exact ⟨0, Nat.zero_le _, by omega, rfl, rfl, fun j hj => absurd hj (Nat.not_lt_zero _)⟩
            case round =>
              obtain ⟨k, hk, hg, rfl, rfl, A⟩ := hrel
              by_cases hlt : k < c.ands.length
              · obtain ⟨b, off, rfl, _, ⟨hr, _, _⟩, hcell, _, _⟩ := ha3 k hlt
                have hcell := past1 hcell
                clear ha3
                generalize hy : c.ands[k].lit = y at hcell hr
                have B : Aside (c.ands[k].lit = y) := hy
                clear hy
                obtain ⟨hr1, hr2⟩ := hr
                have hltz : (k : Int) < (c.ands.length : Int) := by omega
                have hnext : ¬ (0 ≤ y ∧ y / 2 = v) → Aside (∀ j (hj : j < k + 1) (h : j < c.ands.length), ¬ (0 ≤ c.ands[j].lit ∧ c.ands[j].lit / 2 = v)) := by
                  intro hn j hj h
                  by_cases e : j = k
                  · subst e; rw [B.out]; exact hn
                  · exact A.out j (by omega) h
                have hnext := Lib.hid hnext
                by_cases hy0 : 0 ≤ y
                · cases hq : (y / 2 == v) with
                  | true =>
                    go_wp2
                    go_ret
                    exact ⟨by rw [HR.out, (PC.kind_gat c v h0h.out V1.out V2.out (PC.hasVar_hit (c.ands.map (·.lit)) v k (by simpa using hlt) (by rw [List.getElem_map, B.out]; exact hy0) (by rw [List.getElem_map, B.out]; exact eq_of_beq hq)))]; rfl, (Below.refl _ _).alloc (Nat.le_refl _) _⟩
                  | false =>
                    go_wp2
                    go_roundg (c.ands.length - (k + 1))
                    case measure => omega
                    case rel => exact ⟨k + 1, by omega, by omega, by go_num, rfl, hnext.out (fun h => by rw [h.2] at hq; simp at hq)⟩
                · go_wp2
                  go_roundg (c.ands.length - (k + 1))
                  case measure => omega
                  case rel => exact ⟨k + 1, by omega, by omega, by go_num, rfl, hnext.out (fun h => by omega)⟩
              · have hltz : ¬ (k : Int) < (c.ands.length : Int) := by omega
                have V3 := Lib.hid (PC.hasVar_miss (c.ands.map (·.lit)) v fun j hj => by rw [List.getElem_map]; exact A.out j (by simp at hj; omega) (by simpa using hj))
                clear A ha3
                go_wp2
                go_ret
                exact ⟨by rw [HR.out, PC.kind_none c v h0h.out V1.out V2.out V3.out]; rfl, (Below.refl _ _).alloc (Nat.le_refl _) _⟩

end Go.Proofs.YtjcaejdokillgaaDoor

namespace Go.Proofs.YtjcaejdokillgaaDoor
open Go.RowKit Go.Shelf

set_option maxHeartbeats 400000 in
theorem rknown_any (c : PC.Circ) (vc : Value) (l : Int) (w : World) (hl : rng l) (h : IsCirc w vc c) :
    Calls Tryd.prog 92 #[vc, .int .i64 l] w fun e w' => e = .returned (.bool (PC.known c l)) ∧ Below w.heap.size w w' := by
  obtain ⟨hl1, hl2⟩ := hl
  have hK : ∀ (v : Int) w1, rng v → Below w.heap.size w w1 → _ := fun v w1 hv hb => rKind_any c vc v w1 hv (h.mono hb)
  obtain ⟨vi, vl, vo, vb, vv, va, vn, rfl, hp, hmax⟩ := h
  clear hp hmax
  by_cases h0 : 0 ≤ l
  · have e : PC.known c l = !(PC.kindS c (l / 2)).isEmpty := by simp [PC.known, h0]
    rw [e]
    clear e
    have hK := fun w1 hb => hK (l / 2) w1 ⟨by omega, by omega⟩ hb
    generalize PC.kindS c (l / 2) = K at hK
    go_enter Tryd.func92, Tryd.ntmps92
    go_wp2_with (go_at_call 119; refine (hK _ (by exact (Below.refl _ _).alloc (Nat.le_refl _) _)).mono ?_; rintro e w1 ⟨rfl, hb1⟩)
    go_ret
    exact ⟨rfl, below1 hb1⟩
  · have e : PC.known c l = false := by simp [PC.known, h0]
    rw [e]
    clear hK
    go_enter Tryd.func92, Tryd.ntmps92
    go_wp2
    go_ret
    exact ⟨rfl, (Below.refl _ _).alloc (Nat.le_refl _) _⟩

set_option maxHeartbeats 1000000 in
theorem rall_any (c : PC.Circ) (vc v : Value) (l : List Int) (w : World) (hv : Ints w v l) (h : IsCirc w vc c) :
    Calls Tryd.prog 94 #[vc, v] w fun e w' => e = .returned (.bool (PC.allKnown c l)) ∧ Below w.heap.size w w' := by
  obtain ⟨ao, cap, rfl, hlc, hcm, hc⟩ := hv.open_
  clear hv
  have hK : ∀ (l : Int) w1, rng l → Below w.heap.size w w1 → _ := fun l w1 hl hb => rknown_any c vc l w1 hl (h.mono hb)
  obtain ⟨vi, vl, vo, vb, vv, va, vn, rfl, hp, hmax⟩ := h
  clear hp hmax
  obtain ⟨R, hR⟩ : ∃ R, R = PC.allKnown c l := ⟨_, rfl⟩
  rw [← hR]
  have HR := Lib.hid hR
  clear hR
  go_enter Tryd.func94, Tryd.ntmps94
  go_wp2
  go_loopg [5] l.length (fun gg s5 wr => ∃ k : Nat, k ≤ l.length ∧ l.length - k ≤ gg ∧ s5 = .int .i64 k ∧ Below w.heap.size w wr ∧ Box8 wr w.heap.size (.int .i64 c.max) vi vl vo vb vv va vn ∧ Aside (∀ j (hj : j < k) (h : j < l.length), PC.known c l[j] = true))
  case atStart => exact ⟨0, Nat.zero_le _, by omega, rfl, (Below.refl _ _).alloc (Nat.le_refl _) _, Box8.new _ _ _ _ _ _ _ _ _ _, fun j hj => absurd hj (Nat.not_lt_zero _)⟩
  case round =>
    obtain ⟨k, hk, hg, rfl, hbel, hbox, A⟩ := hrel
    by_cases hlt : k < l.length
    · obtain ⟨b, off, rfl, hbs, hr, hcell⟩ := hc k hlt
      have hcell : ∀ x : Later wr, x.at_.cell? ⟨b, off + k, none⟩ = some (.int .i64 l[k]) := fun x => x.cell ((hbel.cell hbs).trans hcell)
      clear hc
      generalize hy : l[k] = y at hcell hr
      have B : Aside (l[k] = y) := hy
      clear hy
      have hK : ∀ x : Later wr, _ := fun x => hK y x.at_ hr (Below.of hbel x.below)
      obtain ⟨q0, q1, q2, q3, q4, q5, q6, q7⟩ := hbox.later
      have hltz : (k : Int) < (l.length : Int) := by omega
      cases hq : PC.known c y with
      | true =>
        rw [hq] at hK
        go_wp2_with fail
        refine wp_region_later (by kernel_rfl) (by kernel_rfl) ?_; (repeat (go_big_quiet_step ((go_at_call 92; exact Calls.later (hK _))))); refine wpQuiet_nil ?_; rintro w3 ⟨⟨_, hb3⟩, rfl⟩
        go_wp2
        go_roundg (l.length - (k + 1))
        case measure => omega
        case rel =>
          refine ⟨k + 1, by omega, by omega, by go_num, Below.of hbel hb3, hbox.mono hb3, (show Aside _ from fun j hj h => ?_)⟩
          by_cases e : j = k
          · subst e; rw [B.out]; exact hq
          · exact A.out j (by omega) h
      | false =>
        rw [hq] at hK
        go_wp2_with fail
        refine wp_region_later (by kernel_rfl) (by kernel_rfl) ?_; (repeat (go_big_quiet_step ((go_at_call 92; exact Calls.later (hK _))))); refine wpQuiet_nil ?_; rintro w3 ⟨⟨_, hb3⟩, rfl⟩
        go_wp2
        go_ret
        refine ⟨?_, Below.of hbel hb3⟩
        have : PC.allKnown c l = false := by
          unfold PC.allKnown
          rw [Bool.and_eq_false_iff]
          left
          rw [Bool.eq_false_iff]
          intro h
          have := List.all_eq_true.1 h _ (List.getElem_mem hlt)
          rw [B.out, hq] at this
          cases this
        rw [HR.out, this]; rfl
    · have hltz : ¬ (k : Int) < (l.length : Int) := by omega
      go_wp2
      go_ret
      refine ⟨?_, hbel⟩
      have : PC.allKnown c l = decide ((l.length : Int) ≤ 64) := by
        unfold PC.allKnown
        have h1 : l.all (PC.known c) = true := List.all_eq_true.2 fun x hx => by
          obtain ⟨j, hj, e⟩ := List.getElem_of_mem hx
          rw [← e]; exact A.out j (by omega) hj
        rw [h1, Bool.true_and]
        exact decide_eq_decide.2 (by omega)
      rw [HR.out, this]; rfl

set_option maxHeartbeats 1000000 in
theorem rcount_any (c : PC.Circ) (vc : Value) (k : List UInt8) (w : World) (h : IsCirc w vc c) :
    Calls Tryd.prog 117 #[vc, .string ⟨k.toArray⟩] w fun e w' => e = .returned (.int .i64 (PC.count c k)) ∧ Below w.heap.size w w' := by
  obtain ⟨vi, vl, vo, vb, vv, va, vn, rfl, hp, hmax⟩ := h
  obtain ⟨ai, capi, rfl, hi1, hi2, hi3⟩ := hp.inputs.open_
  obtain ⟨al, capl, rfl, hl1, hl2, hl3⟩ := hp.latches.open_
  obtain ⟨ao, capo, rfl, ho1, ho2, ho3⟩ := hp.outputs.open_
  obtain ⟨ab, capb, rfl, hb1, hb2, hb3⟩ := hp.bads.open_
  obtain ⟨av, capv, rfl, hv1, hv2, hv3⟩ := hp.invars.open_
  clear hp hi3 hl3 ho3 hb3 hv3 hmax
  unfold PC.count
  by_cases k1 : k = [105]
  · subst k1
    go_enter Tryd.func117, Tryd.ntmps117
    go_wp2
    go_ret
    exact ⟨rfl, (Below.refl _ _).alloc (Nat.le_refl _) _⟩
  rw [if_neg k1]
  by_cases k2 : k = [108]
  · subst k2
    go_enter Tryd.func117, Tryd.ntmps117
    go_wp2
    go_ret
    exact ⟨rfl, (Below.refl _ _).alloc (Nat.le_refl _) _⟩
  rw [if_neg k2]
  by_cases k3 : k = [111]
  · subst k3
    go_enter Tryd.func117, Tryd.ntmps117
    go_wp2
    go_ret
    exact ⟨rfl, (Below.refl _ _).alloc (Nat.le_refl _) _⟩
  rw [if_neg k3]
  by_cases k4 : k = [98]
  · subst k4
    go_enter Tryd.func117, Tryd.ntmps117
    go_wp2
    go_ret
    exact ⟨rfl, (Below.refl _ _).alloc (Nat.le_refl _) _⟩
  rw [if_neg k4]
  by_cases k5 : k = [99]
  · subst k5
    go_enter Tryd.func117, Tryd.ntmps117
    go_wp2
    go_ret
    exact ⟨rfl, (Below.refl _ _).alloc (Nat.le_refl _) _⟩
  rw [if_neg k5]
  have b1 : (k == [105]) = false := by simpa using k1
  have b2 : (k == [108]) = false := by simpa using k2
  have b3 : (k == [111]) = false := by simpa using k3
  have b4 : (k == [98]) = false := by simpa using k4
  have b5 : (k == [99]) = false := by simpa using k5
  clear k1 k2 k3 k4 k5
  go_enter Tryd.func117, Tryd.ntmps117
  go_wp2
  go_ret
  exact ⟨rfl, (Below.refl _ _).alloc (Nat.le_refl _) _⟩

end Go.Proofs.YtjcaejdokillgaaDoor

namespace Go.Proofs.YtjcaejdokillgaaDoor
open Go.RowKit Go.Shelf

namespace PC
/-- the names from the k-th on -/
def namesAt (c : Circ) (k : Nat) : Bool := namesFrom c (if k = 0 then none else c.names[k - 1]?) (c.names.drop k)

theorem namesAt_zero (c : Circ) : namesAt c 0 = namesFrom c none c.names := rfl
theorem namesAt_end (c : Circ) : namesAt c c.names.length = true := by
  unfold namesAt
  rw [List.drop_length]
  cases (if c.names.length = 0 then none else c.names[c.names.length - 1]?) <;> rfl
/-- the name ahead of the k-th -/
def before (c : Circ) (k : Nat) : Nam := (c.names[k - 1]?).getD default
theorem namesAt_step (c : Circ) (k : Nat) (h : k < c.names.length) : namesAt c k = (nameOk c c.names[k] && (decide (k = 0) || ahead (before c k) c.names[k]) && namesAt c (k + 1)) := by
  unfold namesAt before
  rw [List.drop_eq_getElem_cons h, if_neg (Nat.succ_ne_zero k), Nat.add_sub_cancel, List.getElem?_eq_getElem h]
  by_cases h0 : k = 0
  · subst h0; simp [namesFrom]
  · rw [if_neg h0, List.getElem?_eq_getElem (by omega)]
    simp [namesFrom, h0]
end PC

set_option maxHeartbeats 2000000 in
theorem rrank_any (k : List UInt8) (w : World) : Calls Tryd.prog 118 #[.string ⟨k.toArray⟩] w fun e w' => e = .returned (.int .i64 (PC.rank k)) ∧ Below w.heap.size w w' := by
  obtain ⟨R, hR⟩ : ∃ R, R = PC.rank k := ⟨_, rfl⟩
  rw [← hR]
  have HR := Lib.hid hR
  clear hR
  obtain ⟨k1, h1⟩ : ∃ b, (([105] : List UInt8) == k) = b := ⟨_, rfl⟩
  obtain ⟨k2, h2⟩ : ∃ b, (([108] : List UInt8) == k) = b := ⟨_, rfl⟩
  obtain ⟨k3, h3⟩ : ∃ b, (([111] : List UInt8) == k) = b := ⟨_, rfl⟩
  obtain ⟨k4, h4⟩ : ∃ b, (([98] : List UInt8) == k) = b := ⟨_, rfl⟩
  obtain ⟨k5, h5⟩ : ∃ b, (([99] : List UInt8) == k) = b := ⟨_, rfl⟩
  have hr : R = if k1 then 0 else if k2 then 1 else if k3 then 2 else if k4 then 3 else if k5 then 4 else -1 := by
    rw [HR.out, ← h1, ← h2, ← h3, ← h4, ← h5]
    simp only [PC.rank, beq_iff_eq, @eq_comm _ _ k]
  have HR := Lib.hid hr
  clear hr
  go_enter Tryd.func118, Tryd.ntmps118
  go_wp2
  go_loopg [4] 5 (fun gg s4 wr => ∃ n : Nat, n ≤ 5 ∧ 5 - n ≤ gg ∧ s4 = .int .i64 n ∧ wr = w.alloc (.cells #[.string ⟨#[105]⟩, .string ⟨#[108]⟩, .string ⟨#[111]⟩, .string ⟨#[98]⟩, .string ⟨#[99]⟩] 9) ∧
    Aside ((0 < n → k1 = false) ∧ (1 < n → k2 = false) ∧ (2 < n → k3 = false) ∧ (3 < n → k4 = false) ∧ (4 < n → k5 = false)))
  case atStart => exact ⟨0, by omega, by omega, rfl, rfl, by omega, by omega, by omega, by omega, by omega⟩
  case round =>
    obtain ⟨n, hn, hg, rfl, rfl, A⟩ := hrel
    have hn' : n = 0 ∨ n = 1 ∨ n = 2 ∨ n = 3 ∨ n = 4 ∨ n = 5 := by omega
    rcases hn' with rfl | rfl | rfl | rfl | rfl | rfl
    · cases k1
      · go_wp2
        go_roundg 4
        case measure => omega
        case rel => exact ⟨1, by omega, by omega, rfl, rfl, fun _ => (by first | rfl | trivial), by omega, by omega, by omega, by omega⟩
      · go_wp2
        go_ret
        exact ⟨by rw [HR.out]; rfl, (Below.refl _ _).alloc (Nat.le_refl _) _⟩
    · obtain ⟨a1, _⟩ := A.out
      have a1 := a1 (by omega)
      cases k2
      · go_wp2
        go_roundg 3
        case measure => omega
        case rel => exact ⟨2, by omega, by omega, rfl, rfl, fun _ => a1, fun _ => (by first | rfl | trivial), by omega, by omega, by omega⟩
      · go_wp2
        go_ret
        exact ⟨by rw [HR.out, a1]; rfl, (Below.refl _ _).alloc (Nat.le_refl _) _⟩
    · obtain ⟨a1, a2, _⟩ := A.out
      have a1 := Lib.hid (a1 (by omega))
      have a2 := Lib.hid (a2 (by omega))
      cases k3
      · go_wp2
        go_roundg 2
        case measure => omega
        case rel => exact ⟨3, by omega, by omega, rfl, rfl, fun _ => a1.out, fun _ => a2.out, fun _ => (by first | rfl | trivial), by omega, by omega⟩
      · go_wp2
        go_ret
        exact ⟨by rw [HR.out, a1.out, a2.out]; rfl, (Below.refl _ _).alloc (Nat.le_refl _) _⟩
    · obtain ⟨a1, a2, a3, _⟩ := A.out
      have a1 := Lib.hid (a1 (by omega))
      have a2 := Lib.hid (a2 (by omega))
      have a3 := Lib.hid (a3 (by omega))
      cases k4
      · go_wp2
        go_roundg 1
        case measure => omega
        case rel => exact ⟨4, by omega, by omega, rfl, rfl, fun _ => a1.out, fun _ => a2.out, fun _ => a3.out, fun _ => (by first | rfl | trivial), by omega⟩
      · go_wp2
        go_ret
        exact ⟨by rw [HR.out, a1.out, a2.out, a3.out]; rfl, (Below.refl _ _).alloc (Nat.le_refl _) _⟩
    · obtain ⟨a1, a2, a3, a4, _⟩ := A.out
      have a1 := Lib.hid (a1 (by omega))
      have a2 := Lib.hid (a2 (by omega))
      have a3 := Lib.hid (a3 (by omega))
      have a4 := Lib.hid (a4 (by omega))
      cases k5
      · go_wp2
        go_roundg 0
        case measure => omega
        case rel => exact ⟨5, by omega, by omega, rfl, rfl, fun _ => a1.out, fun _ => a2.out, fun _ => a3.out, fun _ => a4.out, fun _ => (by first | rfl | trivial)⟩
      · go_wp2
        go_ret
        exact ⟨by rw [HR.out, a1.out, a2.out, a3.out, a4.out]; rfl, (Below.refl _ _).alloc (Nat.le_refl _) _⟩
    · obtain ⟨a1, a2, a3, a4, a5⟩ := A.out
      have a1 := Lib.hid (a1 (by omega))
      have a2 := Lib.hid (a2 (by omega))
      have a3 := Lib.hid (a3 (by omega))
      have a4 := Lib.hid (a4 (by omega))
      have a5 := Lib.hid (a5 (by omega))
      go_wp2
      go_ret
      exact ⟨by rw [HR.out, a1.out, a2.out, a3.out, a4.out, a5.out]; rfl, (Below.refl _ _).alloc (Nat.le_refl _) _⟩

end Go.Proofs.YtjcaejdokillgaaDoor

namespace Go.Proofs.YtjcaejdokillgaaDoor
open Go.RowKit Go.Shelf
attribute [local simp] mk_get

namespace PC
theorem nameOk_at (c : Circ) (x : Nam) (h : x.at_ < 0) : nameOk c x = false := by simp [nameOk]; intro h'; omega
theorem nameOk_count (c : Circ) (x : Nam) (h : count c x.kind ≤ x.at_) : nameOk c x = false := by simp [nameOk]; intro h' h''; omega
theorem nameOk_empty (c : Circ) (x : Nam) (h : x.text = []) : nameOk c x = false := by simp [nameOk, textOk, h]
theorem nameOk_long (c : Circ) (x : Nam) (h : 32 < x.text.length) : nameOk c x = false := by simp [nameOk, textOk]; intros; omega
theorem nameOk_byte (c : Circ) (x : Nam) (j : Nat) (hj : j < x.text.length) (h : x.text[j].toNat < 33 ∨ 126 < x.text[j].toNat) : nameOk c x = false := by
  rw [Bool.eq_false_iff]
  intro hh
  simp only [nameOk, textOk, Bool.and_eq_true, List.all_eq_true, decide_eq_true_eq] at hh
  have := hh.2.2 _ (List.getElem_mem hj)
  omega
theorem nameOk_all (c : Circ) (x : Nam) (h0 : 0 ≤ x.at_) (h1 : x.at_ < count c x.kind) (h2 : x.text ≠ []) (h3 : x.text.length ≤ 32)
    (h : ∀ j (hj : j < x.text.length), 33 ≤ x.text[j].toNat ∧ x.text[j].toNat ≤ 126) : nameOk c x = true := by
  simp only [nameOk, textOk, Bool.and_eq_true, List.all_eq_true, decide_eq_true_eq, Bool.not_eq_true', List.isEmpty_eq_false_iff]
  refine ⟨⟨h0, h1⟩, ⟨h2, h3⟩, fun b hb => ?_⟩
  obtain ⟨j, hj, e⟩ := List.getElem_of_mem hb
  rw [← e]; exact h j hj
end PC

set_option maxRecDepth 100000 in
set_option maxHeartbeats 4000000 in
theorem rnames_any (c : PC.Circ) (vc : Value) (w : World) (h : IsCirc w vc c) :
    Calls Tryd.prog 91 #[vc] w fun e w' => e = .returned (.bool (PC.namesFrom c none c.names)) ∧ Below w.heap.size w w' := by
  have hcnt : ∀ (k : List UInt8) w1, Below w.heap.size w w1 → _ := fun k w1 hb => rcount_any c vc k w1 (h.mono hb)
  obtain ⟨vi, vl, vo, vb, vv, va, vn, rfl, hp, hmax⟩ := h
  obtain ⟨an, capn, rfl, hn1, hn2, hn3⟩ := hp.names.open_
  clear hp hmax
  obtain ⟨R, hR⟩ : ∃ R, R = PC.namesFrom c none c.names := ⟨_, rfl⟩
  rw [← hR]
  rw [← PC.namesAt_zero] at hR
  have HR := Lib.hid hR
  clear hR
  go_enter Tryd.func91, Tryd.ntmps91
  go_wp2
  go_loopg [3] c.names.length (fun gg s3 wr => ∃ k : Nat, k ≤ c.names.length ∧ c.names.length - k ≤ gg ∧ s3 = .int .i64 k ∧ Below w.heap.size w wr ∧ Box8 wr w.heap.size (.int .i64 c.max) vi vl vo vb vv va (.slice an c.names.length capn) ∧ Aside (R = PC.namesAt c k))
  case atStart => exact ⟨0, Nat.zero_le _, by omega, rfl, (Below.refl _ _).alloc (Nat.le_refl _) _, Box8.new _ _ _ _ _ _ _ _ _ _, HR⟩
  case round =>
    obtain ⟨k, hk, hg, rfl, hbel, hbox, A⟩ := hrel
    clear HR
    by_cases hlt : k < c.names.length
    · have hstep := PC.namesAt_step c k hlt
      obtain ⟨b, off, han, hbs, ⟨⟨r1, r2⟩, r3, r4⟩, c0, c1, c2⟩ := hn3 k hlt
      have hprev : ¬ k = 0 → b < wr.heap.size ∧ rng (PC.before c k).at_ ∧ wr.cell? ⟨b, off + (k - 1) * 3, none⟩ = some (.string ⟨(PC.before c k).kind.toArray⟩) ∧ wr.cell? ⟨b, off + (k - 1) * 3 + 1, none⟩ = some (.int .i64 (PC.before c k).at_) ∧ wr.cell? ⟨b, off + (k - 1) * 3 + 2, none⟩ = some (.string ⟨(PC.before c k).text.toArray⟩) := by
        intro h0
        obtain ⟨b', off', e, hbs', ⟨hr, _⟩, c0, c1, c2⟩ := hn3 (k - 1) (by omega)
        rw [han] at e
        cases e
        unfold PC.before
        rw [List.getElem?_eq_getElem (by omega)]
        exact ⟨Nat.lt_of_lt_of_le hbs' hbel.size, hr, (hbel.cell hbs').trans c0, (hbel.cell hbs').trans c1, (hbel.cell hbs').trans c2⟩
      subst han
      have c0 := (hbel.cell hbs).trans c0
      have c1 := (hbel.cell hbs).trans c1
      have c2 := (hbel.cell hbs).trans c2
      clear hn3
      rw [PC.namesAt_step c k hlt] at A
      generalize c.names[k] = x at *
      generalize PC.before c k = y at *
      have hprev := Lib.hid hprev
      have hboxA := Lib.hid hbox
      obtain ⟨q0, q1, q2, q3, q4, q5, q6, q7⟩ := hbox
      have hltz : (k : Int) < (c.names.length : Int) := by omega
      go_wp2_with fail
      obtain ⟨W2, hW2⟩ : ∃ W2, W2 = wr.alloc (.cells #[.string ⟨x.kind.toArray⟩, .int .i64 x.at_, .string ⟨x.text.toArray⟩] 68) := ⟨_, rfl⟩
      rw [← hW2]
      have hb2 : Below wr.heap.size wr W2 := by rw [hW2]; exact (Below.refl _ _).alloc (Nat.le_refl _) _
      have hX : Box3 W2 wr.heap.size (.string ⟨x.kind.toArray⟩) (.int .i64 x.at_) (.string ⟨x.text.toArray⟩) := by rw [hW2]; exact Box3.new _ _ _ _ _
      clear hW2 q0 q1 q2 q3 q4 q5 q6 q7 c0 c1 c2
      have hbox2 := hboxA.out.mono hb2
      clear hboxA
      have hbel2 := Below.of hbel hb2
      generalize wr.heap.size = bx at hX ⊢
      have hcnt : ∀ x1 : Later W2, _ := fun x1 => hcnt x.kind x1.at_ (Below.of hbel2 x1.below)
      obtain ⟨l0, l1, l2, l3, l4, l5, l6, l7⟩ := hbox2.later
      obtain ⟨m0, m1, m2⟩ := hX.later
      by_cases hA : x.at_ < 0
      · refine wp_region_later (by kernel_rfl) (by kernel_rfl) ?_; (repeat (go_big_quiet_step ((go_at_call 117; exact Calls.later (hcnt _))))); refine wpQuiet_nil ?_; rintro w3 ⟨⟨_, hb3⟩, rfl⟩
        go_wp2
        go_ret
        refine ⟨?_, Below.of hbel2 hb3⟩
        rw [A.out, PC.nameOk_at c x hA]; rfl
      by_cases hB : PC.count c x.kind ≤ x.at_
      · refine wp_region_later (by kernel_rfl) (by kernel_rfl) ?_; (repeat (go_big_quiet_step ((go_at_call 117; exact Calls.later (hcnt _))))); refine wpQuiet_nil ?_; rintro w3 ⟨⟨_, hb3⟩, rfl⟩
        go_wp2
        go_ret
        refine ⟨?_, Below.of hbel2 hb3⟩
        rw [A.out, PC.nameOk_count c x hB]; rfl
      have hB' : x.at_ < PC.count c x.kind := by omega
      by_cases hC : x.text = []
      · have hCb : (x.text == []) = true := by simpa using hC
        refine wp_region_later (by kernel_rfl) (by kernel_rfl) ?_; (repeat (go_big_quiet_step ((go_at_call 117; exact Calls.later (hcnt _))))); refine wpQuiet_nil ?_; rintro w3 ⟨⟨_, hb3⟩, rfl⟩
        go_wp2
        go_ret
        refine ⟨?_, Below.of hbel2 hb3⟩
        rw [A.out, PC.nameOk_empty c x hC]; rfl
      by_cases hD : 32 < x.text.length
      · have hCb : (x.text == []) = false := by simpa using hC
        refine wp_region_later (by kernel_rfl) (by kernel_rfl) ?_; (repeat (go_big_quiet_step ((go_at_call 117; exact Calls.later (hcnt _))))); refine wpQuiet_nil ?_; rintro w3 ⟨⟨_, hb3⟩, rfl⟩
        go_wp2
        go_ret
        refine ⟨?_, Below.of hbel2 hb3⟩
        rw [A.out, PC.nameOk_long c x hD]; rfl
      have hCb : (x.text == []) = false := by simpa using hC
      refine wp_region_later (by kernel_rfl) (by kernel_rfl) ?_; (repeat (go_big_quiet_step ((go_at_call 117; exact Calls.later (hcnt _))))); refine wpQuiet_nil ?_; rintro w3 ⟨⟨_, hb3⟩, rfl⟩
      clear hcnt l0 l1 l2 l3 l4 l5 l6 l7 m0 m1 m2
      have hbox3 := Lib.hid (hbox2.mono hb3)
      have hX3 := hX.mono hb3
      have hX3' := Lib.hid hX3
      clear hX hbox2
      have hbel3 := Below.of hbel2 hb3
      have hpr3 : Hid (¬ k = 0 → b < w3.heap.size ∧ rng y.at_ ∧ w3.cell? ⟨b, off + (k - 1) * 3, none⟩ = some (.string ⟨y.kind.toArray⟩) ∧ w3.cell? ⟨b, off + (k - 1) * 3 + 1, none⟩ = some (.int .i64 y.at_) ∧ w3.cell? ⟨b, off + (k - 1) * 3 + 2, none⟩ = some (.string ⟨y.text.toArray⟩)) := by
        intro h0
        obtain ⟨g0, g1, g2, g3, g4⟩ := hprev.out h0
        have hb23 := Below.of hb2 hb3
        exact ⟨Nat.lt_of_lt_of_le g0 hb23.size, g1, (hb23.cell g0).trans g2, (hb23.cell g0).trans g3, (hb23.cell g0).trans g4⟩
      clear hprev hb2 hbel2 hb3
      obtain ⟨n0, n1, n2⟩ := hX3
      go_wp2_with fail
      go_loopg [5] x.text.length (fun gg s5 w4 => ∃ j : Nat, j ≤ x.text.length ∧ x.text.length - j ≤ gg ∧ s5 = .int .i64 j ∧ w3 = w4 ∧ Aside (∀ i (hi : i < j) (h : i < x.text.length), 33 ≤ x.text[i].toNat ∧ x.text[i].toNat ≤ 126))
      case atStart => exact ⟨0, Nat.zero_le _, by omega, rfl, rfl, fun j hj => absurd hj (Nat.not_lt_zero _)⟩
      case round =>
        obtain ⟨j, hj, hgj, rfl, rfl, T⟩ := hrel
        by_cases hjt : j < x.text.length
        · have hjz : (j : Int) < (x.text.length : Int) := by omega
          obtain ⟨z, hz⟩ : ∃ z, z = x.text[j].toNat := ⟨_, rfl⟩
          have HZ := Lib.hid hz
          by_cases hlo : z < 33
          · have hlo' : (x.text[j].toNat : Int) < 33 := by omega
            clear hz
            go_wp2
            go_ret
            refine ⟨?_, hbel3⟩
            rw [A.out, PC.nameOk_byte c x j hjt (by have := HZ.out; omega)]; rfl
          · by_cases hhi : 126 < z
            · have hlo' : ¬ (x.text[j].toNat : Int) < 33 := by omega
              have hhi' : 126 < (x.text[j].toNat : Int) := by omega
              clear hz
              go_wp2
              go_ret
              refine ⟨?_, hbel3⟩
              rw [A.out, PC.nameOk_byte c x j hjt (by have := HZ.out; omega)]; rfl
            · have hlo' : ¬ (x.text[j].toNat : Int) < 33 := by omega
              have hhi' : ¬ 126 < (x.text[j].toNat : Int) := by omega
              clear hz
              go_wp2
              go_roundg (x.text.length - (j + 1))
              case measure => omega
              case rel =>
                refine ⟨j + 1, by omega, by omega, by go_num, rfl, (show Aside _ from fun i hi h => ?_)⟩
                by_cases e : i = j
                · subst e; have := HZ.out; omega
                · exact T.out i (by omega) h
        · have hjz : ¬ (j : Int) < (x.text.length : Int) := by omega
          have hok := Lib.hid (PC.nameOk_all c x (by omega) hB' hC (by omega) fun i hi => T.out i (by omega) hi)
          clear T
          by_cases h0 : k = 0
          · subst h0
            go_wp2
            go_roundg (c.names.length - (0 + 1))
            case measure => omega
            case rel => exact ⟨0 + 1, by omega, by omega, by go_num, hbel3, hbox3.out, by have := A.out; rw [hok.out] at this; simpa [Aside] using this⟩
          · have hkp : 0 < (k : Int) := by omega
            obtain ⟨g0, _, g2, g3, g4⟩ := hpr3.out h0
            obtain ⟨q0, q1, q2, q3, q4, q5, q6, q7⟩ := hbox3.out
            go_wp2_with fail
            obtain ⟨W4, hW4⟩ : ∃ W4, W4 = w3.alloc (.cells #[.string ⟨y.kind.toArray⟩, .int .i64 y.at_, .string ⟨y.text.toArray⟩] 68) := ⟨_, rfl⟩
            rw [← hW4]
            have hb4 : Below w3.heap.size w3 W4 := by rw [hW4]; exact (Below.refl _ _).alloc (Nat.le_refl _) _
            have hY : Box3 W4 w3.heap.size (.string ⟨y.kind.toArray⟩) (.int .i64 y.at_) (.string ⟨y.text.toArray⟩) := by rw [hW4]; exact Box3.new _ _ _ _ _
            clear hW4 q0 q1 q2 q3 q4 q5 q6 q7 g0 g2 g3 g4 n0 n1 n2
            have hX4 := hX3'.out.mono hb4
            have hbel4 := Below.of hbel3 hb4
            generalize w3.heap.size = by_ at hY ⊢
            obtain ⟨m0, m1, m2⟩ := hX4.later
            obtain ⟨m3, m4, m5⟩ := hY.later
            have hA' : R = (PC.ahead y x && PC.namesAt c (k + 1)) := by
              have := A.out; rw [hok.out] at this; simpa [h0] using this
            have A' := Lib.hid hA'
            clear hA' A
            clear hX4 hY
            by_cases hgt : PC.rank x.kind < PC.rank y.kind
            · refine wp_region_later (by kernel_rfl) (by kernel_rfl) ?_; (repeat (go_big_quiet_step ((go_at_call 118; exact Calls.later (rrank_any _ _))))); refine wpQuiet_nil ?_; rintro w3 ⟨⟨_, hb3⟩, rfl⟩
              go_wp2
              go_ret
              refine ⟨?_, Below.of hbel4 hb3⟩
              have : PC.ahead y x = false := by unfold PC.ahead; rw [decide_eq_true hgt]; rfl
              rw [A'.out, this]; rfl
            · cases heq : (y.kind == x.kind) with
              | false =>
                refine wp_region_later (by kernel_rfl) (by kernel_rfl) ?_; (repeat (go_big_quiet_step ((go_at_call 118; exact Calls.later (rrank_any _ _))))); refine wpQuiet_nil ?_; rintro w3 ⟨⟨_, hb3⟩, rfl⟩
                go_wp2
                go_roundg (c.names.length - (k + 1))
                case measure => omega
                case rel =>
                  have : PC.ahead y x = true := by
                    unfold PC.ahead
                    have e : ¬ y.kind = x.kind := by simpa using heq
                    rw [decide_eq_false (show ¬ PC.rank x.kind < PC.rank y.kind by omega), decide_eq_false e]; rfl
                  exact ⟨k + 1, by omega, by omega, by go_num, Below.of hbel4 hb3, (hbox3.out.mono hb4).mono hb3, by have t := A'.out; rw [this] at t; simpa [Aside] using t⟩
              | true =>
                have e : y.kind = x.kind := by simpa using heq
                have E := Lib.hid e
                clear e
                by_cases hat : x.at_ ≤ y.at_
                · refine wp_region_later (by kernel_rfl) (by kernel_rfl) ?_; (repeat (go_big_quiet_step ((go_at_call 118; exact Calls.later (rrank_any _ _))))); refine wpQuiet_nil ?_; rintro w3 ⟨⟨_, hb3⟩, rfl⟩
                  go_wp2
                  go_ret
                  refine ⟨?_, Below.of hbel4 hb3⟩
                  have : PC.ahead y x = false := by unfold PC.ahead; rw [decide_eq_false (show ¬ PC.rank x.kind < PC.rank y.kind by omega), decide_eq_true E.out, decide_eq_true (show x.at_ ≤ y.at_ by omega)]; rfl
                  rw [A'.out, this]; rfl
                · refine wp_region_later (by kernel_rfl) (by kernel_rfl) ?_; (repeat (go_big_quiet_step ((go_at_call 118; exact Calls.later (rrank_any _ _))))); refine wpQuiet_nil ?_; rintro w3 ⟨⟨_, hb3⟩, rfl⟩
                  go_wp2
                  go_roundg (c.names.length - (k + 1))
                  case measure => omega
                  case rel =>
                    have : PC.ahead y x = true := by
                      unfold PC.ahead
                      rw [decide_eq_false (show ¬ PC.rank x.kind < PC.rank y.kind by omega), decide_eq_true E.out, decide_eq_false (show ¬ x.at_ ≤ y.at_ by omega)]; rfl
                    exact ⟨k + 1, by omega, by omega, by go_num, Below.of hbel4 hb3, (hbox3.out.mono hb4).mono hb3, by have t := A'.out; rw [this] at t; simpa [Aside] using t⟩
    · have hltz : ¬ (k : Int) < (c.names.length : Int) := by omega
      obtain ⟨q0, q1, q2, q3, q4, q5, q6, q7⟩ := hbox
      go_wp2
      go_ret
      obtain rfl : k = c.names.length := by omega
      refine ⟨?_, hbel⟩
      have := A.out
      rw [PC.namesAt_end] at this
      rw [this]; rfl

end Go.Proofs.YtjcaejdokillgaaDoor
