/- Contracts: the page's known, all, count, rank. -/
import Derived.Test.YtjcaejdokillgaaDoorZL2
namespace Go.Proofs.YtjcaejdokillgaaDoor
open Go.RowKit Go.Shelf

namespace PC
theorem hasVar_hit (l : List Int) (v : Int) (k : Nat) (hk : k < l.length) (h0 : 0 ≤ l[k]) (h1 : l[k] / 2 = v) : hasVar l v = true :=
  (hasVar_iff l v).2 ⟨_, List.getElem_mem hk, h0, h1⟩
theorem hasVar_miss (l : List Int) (v : Int) (h : ∀ j (hj : j < l.length), ¬ (0 ≤ l[j] ∧ l[j] / 2 = v)) : hasVar l v = false := by
  rw [Bool.eq_false_iff]
  intro hh
  obtain ⟨d, hd, h0, h1⟩ := (hasVar_iff l v).1 hh
  obtain ⟨j, hj, e⟩ := List.getElem_of_mem hd
  exact h j hj ⟨e ▸ h0, e ▸ h1⟩
theorem kind_in (c : Circ) (v : Int) (h0 : v ≠ 0) (h : hasVar c.inputs v = true) : kindS c v = [105] := by simp [kindS, h0, h]
theorem kind_lat (c : Circ) (v : Int) (h0 : v ≠ 0) (h1 : hasVar c.inputs v = false) (h : hasVar (c.latches.map (·.lit)) v = true) : kindS c v = [108] := by simp [kindS, h0, h1, h]
theorem kind_gat (c : Circ) (v : Int) (h0 : v ≠ 0) (h1 : hasVar c.inputs v = false) (h2 : hasVar (c.latches.map (·.lit)) v = false) (h : hasVar (c.ands.map (·.lit)) v = true) : kindS c v = [97] := by simp [kindS, h0, h1, h2, h]
theorem kind_none (c : Circ) (v : Int) (h0 : v ≠ 0) (h1 : hasVar c.inputs v = false) (h2 : hasVar (c.latches.map (·.lit)) v = false) (h : hasVar (c.ands.map (·.lit)) v = false) : kindS c v = [] := by simp [kindS, h0, h1, h2, h]
end PC



set_option maxHeartbeats 1000000 in
theorem rHas_any (l : List Int) (v : Value) (n : Int) (w : World) (hv : Ints w v l) :
    Calls Tryd.prog 93 #[v, .int .i64 n] w fun e w' => e = .returned (.bool (PC.hasI l n)) ∧ w = w' := by
  obtain ⟨ao, cap, rfl, hlc, hcm, hc⟩ := hv.open_
  clear hv
  go_enter Tryd.func93, Tryd.ntmps93
  go_wp2
  go_loopg [5] l.length (fun gg s5 wr => ∃ k : Nat, k ≤ l.length ∧ l.length - k ≤ gg ∧ s5 = .int .i64 k ∧ wr = w ∧ Aside (∀ j (hj : j < k) (h : j < l.length), l[j] ≠ n))
  case atStart => exact ⟨0, Nat.zero_le _, by omega, rfl, rfl, fun j hj => absurd hj (Nat.not_lt_zero _)⟩
  case round =>
    obtain ⟨k, hk, hg, rfl, rfl, A⟩ := hrel
    by_cases hlt : k < l.length
    · obtain ⟨b, off, rfl, _, _, hcell⟩ := hc k hlt
      clear hc
      generalize hy : l[k] = y at hcell
      have B : Aside (l[k] = y) := hy
      clear hy
      have hltz : (k : Int) < (l.length : Int) := by omega
      by_cases hq : y = n
      · have hqb : (y == n) = true := by simpa using hq
        clear hq
        go_wp2
        go_ret
        refine ⟨?_, rfl⟩
        have : PC.hasI l n = true := by
          rw [PC.hasI_eq, List.contains_iff_mem, ← eq_of_beq hqb, ← B.out]; exact List.getElem_mem hlt
        rw [this]; rfl
      · have hqb : (y == n) = false := by simpa using hq
        go_wp2
        go_roundg (l.length - (k + 1))
        case measure => omega
        case rel =>
          refine ⟨k + 1, by omega, by omega, by go_num, rfl, (show Aside _ from fun j hj h => ?_)⟩
          by_cases e : j = k
          · subst e; rw [B.out]; exact hq
          · exact A.out j (by omega) h
    · have hltz : ¬ (k : Int) < (l.length : Int) := by omega
      go_wp2
      go_ret
      refine ⟨?_, rfl⟩
      have : PC.hasI l n = false := by
        rw [PC.hasI_eq, Bool.eq_false_iff]
        intro h
        obtain ⟨j, hj, e⟩ := List.getElem_of_mem (List.contains_iff_mem.1 h)
        exact A.out j (by omega) hj e
      rw [this]; rfl

set_option maxHeartbeats 2000000 in
theorem rKind_any (c : PC.Circ) (vc : Value) (v : Int) (w : World) (hv : rng v) (h : IsCirc w vc c) :
    Calls Tryd.prog 119 #[vc, .int .i64 v] w fun e w' => e = .returned (.string ⟨(PC.kindS c v).toArray⟩) ∧ Below w.heap.size w w' := by
  obtain ⟨vi, vl, vo, vb, vv, va, vn, rfl, hp, hmax⟩ := h
  obtain ⟨ai, capi, rfl, hi1, hi2, hi3⟩ := hp.inputs.open_
  obtain ⟨al, capl, rfl, hl1, hl2, hl3⟩ := hp.latches.open_
  obtain ⟨aa, capa, rfl, ha1, ha2, ha3⟩ := hp.ands.open_
  clear hp hmax
  obtain ⟨hv1, hv2⟩ := hv
  by_cases h0 : v = 0
  · subst h0
    go_enter Tryd.func119, Tryd.ntmps119
    go_wp2
    go_ret
    exact ⟨rfl, (Below.refl _ _).alloc (Nat.le_refl _) _⟩
  · have h0b : (v == 0) = false := by simpa using h0
    have h0h := Lib.hid h0
    clear h0
    obtain ⟨R, hR⟩ : ∃ R, R = PC.kindS c v := ⟨_, rfl⟩
    rw [← hR]
    have HR := Lib.hid hR
    clear hR
    go_enter Tryd.func119, Tryd.ntmps119
    go_wp2
    go_loopg [5] c.inputs.length (fun gg s5 wr => ∃ k : Nat, k ≤ c.inputs.length ∧ c.inputs.length - k ≤ gg ∧ s5 = .int .i64 k ∧ wr = w.alloc (.cells #[.int .i64 c.max, .slice ai c.inputs.length capi, .slice al c.latches.length capl, vo, vb, vv, .slice aa c.ands.length capa, vn] 27) ∧ Aside (∀ j (hj : j < k) (h : j < c.inputs.length), ¬ (0 ≤ c.inputs[j] ∧ c.inputs[j] / 2 = v)))
    case atStart => exact ⟨0, Nat.zero_le _, by omega, rfl, rfl, fun j hj => absurd hj (Nat.not_lt_zero _)⟩
    case round =>
      obtain ⟨k, hk, hg, rfl, rfl, A⟩ := hrel
      by_cases hlt : k < c.inputs.length
      · obtain ⟨b, off, rfl, _, hr, hcell⟩ := hi3 k hlt
        have hcell := past1 hcell
        clear hi3
        generalize hy : c.inputs[k] = y at hcell hr
        have B : Aside (c.inputs[k] = y) := hy
        clear hy
        obtain ⟨hr1, hr2⟩ := hr
        have hltz : (k : Int) < (c.inputs.length : Int) := by omega
        have hnext : ¬ (0 ≤ y ∧ y / 2 = v) → Aside (∀ j (hj : j < k + 1) (h : j < c.inputs.length), ¬ (0 ≤ c.inputs[j] ∧ c.inputs[j] / 2 = v)) := by
          intro hn j hj h
          by_cases e : j = k
          · subst e; rw [B.out]; exact hn
          · exact A.out j (by omega) h
        have hnext := Lib.hid hnext
        by_cases hy0 : 0 ≤ y
        · cases hq : (y / 2 == v) with
          | true =>
            go_wp2
            go_ret
            exact ⟨by rw [HR.out, (PC.kind_in c v h0h.out (PC.hasVar_hit c.inputs v k hlt (by rw [B.out]; exact hy0) (by rw [B.out]; exact eq_of_beq hq)))]; rfl, (Below.refl _ _).alloc (Nat.le_refl _) _⟩
          | false =>
            go_wp2
            go_roundg (c.inputs.length - (k + 1))
            case measure => omega
            case rel => exact ⟨k + 1, by omega, by omega, by go_num, rfl, hnext.out (fun h => by rw [h.2] at hq; simp at hq)⟩
        · go_wp2
          go_roundg (c.inputs.length - (k + 1))
          case measure => omega
          case rel => exact ⟨k + 1, by omega, by omega, by go_num, rfl, hnext.out (fun h => by omega)⟩
      · have hltz : ¬ (k : Int) < (c.inputs.length : Int) := by omega
        have V1 := Lib.hid (PC.hasVar_miss c.inputs v fun j hj => A.out j (by omega) hj)
        clear A hi3
        go_wp2
        go_loopg [6] c.latches.length (fun gg s5 wr => ∃ k : Nat, k ≤ c.latches.length ∧ c.latches.length - k ≤ gg ∧ s5 = .int .i64 k ∧ wr = w.alloc (.cells #[.int .i64 c.max, .slice ai c.inputs.length capi, .slice al c.latches.length capl, vo, vb, vv, .slice aa c.ands.length capa, vn] 27) ∧ Aside (∀ j (hj : j < k) (h : j < c.latches.length), ¬ (0 ≤ c.latches[j].lit ∧ c.latches[j].lit / 2 = v)))
        case atStart => exact ⟨0, Nat.zero_le _, by omega, rfl, rfl, fun j hj => absurd hj (Nat.not_lt_zero _)⟩
        case round =>
          obtain ⟨k, hk, hg, rfl, rfl, A⟩ := hrel
          by_cases hlt : k < c.latches.length
          · obtain ⟨b, off, rfl, _, ⟨hr, _, _⟩, hcell, _, _⟩ := hl3 k hlt
            have hcell := past1 hcell
            clear hl3
            generalize hy : c.latches[k].lit = y at hcell hr
            have B : Aside (c.latches[k].lit = y) := hy
            clear hy
            obtain ⟨hr1, hr2⟩ := hr
            have hltz : (k : Int) < (c.latches.length : Int) := by omega
            have hnext : ¬ (0 ≤ y ∧ y / 2 = v) → Aside (∀ j (hj : j < k + 1) (h : j < c.latches.length), ¬ (0 ≤ c.latches[j].lit ∧ c.latches[j].lit / 2 = v)) := by
              intro hn j hj h
              by_cases e : j = k
              · subst e; rw [B.out]; exact hn
              · exact A.out j (by omega) h
            have hnext := Lib.hid hnext
            by_cases hy0 : 0 ≤ y
            · cases hq : (y / 2 == v) with
              | true =>
                go_wp2
                go_ret
                exact ⟨by rw [HR.out, (PC.kind_lat c v h0h.out V1.out (PC.hasVar_hit (c.latches.map (·.lit)) v k (by simpa using hlt) (by rw [List.getElem_map, B.out]; exact hy0) (by rw [List.getElem_map, B.out]; exact eq_of_beq hq)))]; rfl, (Below.refl _ _).alloc (Nat.le_refl _) _⟩
              | false =>
                go_wp2
                go_roundg (c.latches.length - (k + 1))
                case measure => omega
                case rel => exact ⟨k + 1, by omega, by omega, by go_num, rfl, hnext.out (fun h => by rw [h.2] at hq; simp at hq)⟩
            · go_wp2
              go_roundg (c.latches.length - (k + 1))
              case measure => omega
              case rel => exact ⟨k + 1, by omega, by omega, by go_num, rfl, hnext.out (fun h => by omega)⟩
          · have hltz : ¬ (k : Int) < (c.latches.length : Int) := by omega
            have V2 := Lib.hid (PC.hasVar_miss (c.latches.map (·.lit)) v fun j hj => by rw [List.getElem_map]; exact A.out j (by simp at hj; omega) (by simpa using hj))
            clear A hl3
            go_wp2
            go_loopg [7] c.ands.length (fun gg s5 wr => ∃ k : Nat, k ≤ c.ands.length ∧ c.ands.length - k ≤ gg ∧ s5 = .int .i64 k ∧ wr = w.alloc (.cells #[.int .i64 c.max, .slice ai c.inputs.length capi, .slice al c.latches.length capl, vo, vb, vv, .slice aa c.ands.length capa, vn] 27) ∧ Aside (∀ j (hj : j < k) (h : j < c.ands.length), ¬ (0 ≤ c.ands[j].lit ∧ c.ands[j].lit / 2 = v)))
            case atStart => exact ⟨0, Nat.zero_le _, by omega, rfl, rfl, fun j hj => absurd hj (Nat.not_lt_zero _)⟩
            case round =>
              obtain ⟨k, hk, hg, rfl, rfl, A⟩ := hrel
              by_cases hlt : k < c.ands.length
              · obtain ⟨b, off, rfl, _, ⟨hr, _, _⟩, hcell, _, _⟩ := ha3 k hlt
                have hcell := past1 hcell
                clear ha3
                generalize hy : c.ands[k].lit = y at hcell hr
                have B : Aside (c.ands[k].lit = y) := hy
                clear hy
                obtain ⟨hr1, hr2⟩ := hr
                have hltz : (k : Int) < (c.ands.length : Int) := by omega
                have hnext : ¬ (0 ≤ y ∧ y / 2 = v) → Aside (∀ j (hj : j < k + 1) (h : j < c.ands.length), ¬ (0 ≤ c.ands[j].lit ∧ c.ands[j].lit / 2 = v)) := by
                  intro hn j hj h
                  by_cases e : j = k
                  · subst e; rw [B.out]; exact hn
                  · exact A.out j (by omega) h
                have hnext := Lib.hid hnext
                by_cases hy0 : 0 ≤ y
                · cases hq : (y / 2 == v) with
                  | true =>
                    go_wp2
                    go_ret
                    exact ⟨by rw [HR.out, (PC.kind_gat c v h0h.out V1.out V2.out (PC.hasVar_hit (c.ands.map (·.lit)) v k (by simpa using hlt) (by rw [List.getElem_map, B.out]; exact hy0) (by rw [List.getElem_map, B.out]; exact eq_of_beq hq)))]; rfl, (Below.refl _ _).alloc (Nat.le_refl _) _⟩
                  | false =>
                    go_wp2
                    go_roundg (c.ands.length - (k + 1))
                    case measure => omega
                    case rel => exact ⟨k + 1, by omega, by omega, by go_num, rfl, hnext.out (fun h => by rw [h.2] at hq; simp at hq)⟩
                · go_wp2
                  go_roundg (c.ands.length - (k + 1))
                  case measure => omega
                  case rel => exact ⟨k + 1, by omega, by omega, by go_num, rfl, hnext.out (fun h => by omega)⟩
              · have hltz : ¬ (k : Int) < (c.ands.length : Int) := by omega
                have V3 := Lib.hid (PC.hasVar_miss (c.ands.map (·.lit)) v fun j hj => by rw [List.getElem_map]; exact A.out j (by simp at hj; omega) (by simpa using hj))
                clear A ha3
                go_wp2
                go_ret
                exact ⟨by rw [HR.out, PC.kind_none c v h0h.out V1.out V2.out V3.out]; rfl, (Below.refl _ _).alloc (Nat.le_refl _) _⟩

end Go.Proofs.YtjcaejdokillgaaDoor

namespace Go.Proofs.YtjcaejdokillgaaDoor
open Go.RowKit Go.Shelf

set_option maxHeartbeats 400000 in
theorem rknown_any (c : PC.Circ) (vc : Value) (l : Int) (w : World) (hl : rng l) (h : IsCirc w vc c) :
    Calls Tryd.prog 92 #[vc, .int .i64 l] w fun e w' => e = .returned (.bool (PC.known c l)) ∧ Below w.heap.size w w' := by
  obtain ⟨hl1, hl2⟩ := hl
  have hK : ∀ (v : Int) w1, rng v → Below w.heap.size w w1 → _ := fun v w1 hv hb => rKind_any c vc v w1 hv (h.mono hb)
  obtain ⟨vi, vl, vo, vb, vv, va, vn, rfl, hp, hmax⟩ := h
  clear hp hmax
  by_cases h0 : 0 ≤ l
  · have e : PC.known c l = !(PC.kindS c (l / 2)).isEmpty := by simp [PC.known, h0]
    rw [e]
    clear e
    have hK := fun w1 hb => hK (l / 2) w1 ⟨by omega, by omega⟩ hb
    generalize PC.kindS c (l / 2) = K at hK
    go_enter Tryd.func92, Tryd.ntmps92
    go_wp2_with (go_at_call 119; refine (hK _ (by exact (Below.refl _ _).alloc (Nat.le_refl _) _)).mono ?_; rintro e w1 ⟨rfl, hb1⟩)
    go_ret
    exact ⟨rfl, below1 hb1⟩
  · have e : PC.known c l = false := by simp [PC.known, h0]
    rw [e]
    clear hK
    go_enter Tryd.func92, Tryd.ntmps92
    go_wp2
    go_ret
    exact ⟨rfl, (Below.refl _ _).alloc (Nat.le_refl _) _⟩

set_option maxHeartbeats 1000000 in
theorem rall_any (c : PC.Circ) (vc v : Value) (l : List Int) (w : World) (hv : Ints w v l) (h : IsCirc w vc c) :
    Calls Tryd.prog 94 #[vc, v] w fun e w' => e = .returned (.bool (PC.allKnown c l)) ∧ Below w.heap.size w w' := by
  obtain ⟨ao, cap, rfl, hlc, hcm, hc⟩ := hv.open_
  clear hv
  have hK : ∀ (l : Int) w1, rng l → Below w.heap.size w w1 → _ := fun l w1 hl hb => rknown_any c vc l w1 hl (h.mono hb)
  obtain ⟨vi, vl, vo, vb, vv, va, vn, rfl, hp, hmax⟩ := h
  clear hp hmax
  obtain ⟨R, hR⟩ : ∃ R, R = PC.allKnown c l := ⟨_, rfl⟩
  rw [← hR]
  have HR := Lib.hid hR
  clear hR
  go_enter Tryd.func94, Tryd.ntmps94
  go_wp2
  go_loopg [5] l.length (fun gg s5 wr => ∃ k : Nat, k ≤ l.length ∧ l.length - k ≤ gg ∧ s5 = .int .i64 k ∧ Below w.heap.size w wr ∧ Box8 wr w.heap.size (.int .i64 c.max) vi vl vo vb vv va vn ∧ Aside (∀ j (hj : j < k) (h : j < l.length), PC.known c l[j] = true))
  case atStart => exact ⟨0, Nat.zero_le _, by omega, rfl, (Below.refl _ _).alloc (Nat.le_refl _) _, Box8.new _ _ _ _ _ _ _ _ _ _, fun j hj => absurd hj (Nat.not_lt_zero _)⟩
  case round =>
    obtain ⟨k, hk, hg, rfl, hbel, hbox, A⟩ := hrel
    by_cases hlt : k < l.length
    · obtain ⟨b, off, rfl, hbs, hr, hcell⟩ := hc k hlt
      have hcell : ∀ x : Later wr, x.at_.cell? ⟨b, off + k, none⟩ = some (.int .i64 l[k]) := fun x => x.cell ((hbel.cell hbs).trans hcell)
      clear hc
      generalize hy : l[k] = y at hcell hr
      have B : Aside (l[k] = y) := hy
      clear hy
      have hK : ∀ x : Later wr, _ := fun x => hK y x.at_ hr (Below.of hbel x.below)
      obtain ⟨q0, q1, q2, q3, q4, q5, q6, q7⟩ := hbox.later
      have hltz : (k : Int) < (l.length : Int) := by omega
      cases hq : PC.known c y with
      | true =>
        rw [hq] at hK
        go_wp2_with fail
        refine wp_region_later (by kernel_rfl) (by kernel_rfl) ?_; (repeat (go_big_quiet_step ((go_at_call 92; exact Calls.later (hK _))))); refine wpQuiet_nil ?_; rintro w3 ⟨⟨_, hb3⟩, rfl⟩
        go_wp2
        go_roundg (l.length - (k + 1))
        case measure => omega
        case rel =>
          refine ⟨k + 1, by omega, by omega, by go_num, Below.of hbel hb3, hbox.mono hb3, (show Aside _ from fun j hj h => ?_)⟩
          by_cases e : j = k
          · subst e; rw [B.out]; exact hq
          · exact A.out j (by omega) h
      | false =>
        rw [hq] at hK
        go_wp2_with fail
        refine wp_region_later (by kernel_rfl) (by kernel_rfl) ?_; (repeat (go_big_quiet_step ((go_at_call 92; exact Calls.later (hK _))))); refine wpQuiet_nil ?_; rintro w3 ⟨⟨_, hb3⟩, rfl⟩
        go_wp2
        go_ret
        refine ⟨?_, Below.of hbel hb3⟩
        have : PC.allKnown c l = false := by
          unfold PC.allKnown
          rw [Bool.and_eq_false_iff]
          left
          rw [Bool.eq_false_iff]
          intro h
          have := List.all_eq_true.1 h _ (List.getElem_mem hlt)
          rw [B.out, hq] at this
          cases this
        rw [HR.out, this]; rfl
    · have hltz : ¬ (k : Int) < (l.length : Int) := by omega
      go_wp2
      go_ret
      refine ⟨?_, hbel⟩
      have : PC.allKnown c l = decide ((l.length : Int) ≤ 64) := by
        unfold PC.allKnown
        have h1 : l.all (PC.known c) = true := List.all_eq_true.2 fun x hx => by
          obtain ⟨j, hj, e⟩ := List.getElem_of_mem hx
          rw [← e]; exact A.out j (by omega) hj
        rw [h1, Bool.true_and]
        exact decide_eq_decide.2 (by omega)
      rw [HR.out, this]; rfl

set_option maxHeartbeats 1000000 in
theorem rcount_any (c : PC.Circ) (vc : Value) (k : List UInt8) (w : World) (h : IsCirc w vc c) :
    Calls Tryd.prog 117 #[vc, .string ⟨k.toArray⟩] w fun e w' => e = .returned (.int .i64 (PC.count c k)) ∧ Below w.heap.size w w' := by
  obtain ⟨vi, vl, vo, vb, vv, va, vn, rfl, hp, hmax⟩ := h
  obtain ⟨ai, capi, rfl, hi1, hi2, hi3⟩ := hp.inputs.open_
  obtain ⟨al, capl, rfl, hl1, hl2, hl3⟩ := hp.latches.open_
  obtain ⟨ao, capo, rfl, ho1, ho2, ho3⟩ := hp.outputs.open_
  obtain ⟨ab, capb, rfl, hb1, hb2, hb3⟩ := hp.bads.open_
  obtain ⟨av, capv, rfl, hv1, hv2, hv3⟩ := hp.invars.open_
  clear hp hi3 hl3 ho3 hb3 hv3 hmax
  unfold PC.count
  by_cases k1 : k = [105]
  · subst k1
    go_enter Tryd.func117, Tryd.ntmps117
    go_wp2
    go_ret
    exact ⟨rfl, (Below.refl _ _).alloc (Nat.le_refl _) _⟩
  rw [if_neg k1]
  by_cases k2 : k = [108]
  · subst k2
    go_enter Tryd.func117, Tryd.ntmps117
    go_wp2
    go_ret
    exact ⟨rfl, (Below.refl _ _).alloc (Nat.le_refl _) _⟩
  rw [if_neg k2]
  by_cases k3 : k = [111]
  · subst k3
    go_enter Tryd.func117, Tryd.ntmps117
    go_wp2
    go_ret
    exact ⟨rfl, (Below.refl _ _).alloc (Nat.le_refl _) _⟩
  rw [if_neg k3]
  by_cases k4 : k = [98]
  · subst k4
    go_enter Tryd.func117, Tryd.ntmps117
    go_wp2
    go_ret
    exact ⟨rfl, (Below.refl _ _).alloc (Nat.le_refl _) _⟩
  rw [if_neg k4]
  by_cases k5 : k = [99]
  · subst k5
    go_enter Tryd.func117, Tryd.ntmps117
    go_wp2
    go_ret
    exact ⟨rfl, (Below.refl _ _).alloc (Nat.le_refl _) _⟩
  rw [if_neg k5]
  have b1 : (k == [105]) = false := by simpa using k1
  have b2 : (k == [108]) = false := by simpa using k2
  have b3 : (k == [111]) = false := by simpa using k3
  have b4 : (k == [98]) = false := by simpa using k4
  have b5 : (k == [99]) = false := by simpa using k5
  clear k1 k2 k3 k4 k5
  go_enter Tryd.func117, Tryd.ntmps117
  go_wp2
  go_ret
  exact ⟨rfl, (Below.refl _ _).alloc (Nat.le_refl _) _⟩

end Go.Proofs.YtjcaejdokillgaaDoor
