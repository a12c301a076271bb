/- Contracts: the page's small functions of circuits (interlockref01, interlockref03). -/
import Derived.Test.YtjcaejdokillgaaLibC
namespace Go.Proofs.Ytjcaejdokillgaa
open Go.RowKit Go.Shelf

namespace PC
theorem hasVar_hit (l : List Int) (v : Int) (k : Nat) (hk : k < l.length) (h0 : 0 ≤ l[k]) (h1 : l[k] / 2 = v) : hasVar l v = true :=
  (hasVar_iff l v).2 ⟨_, List.getElem_mem hk, h0, h1⟩
theorem hasVar_miss (l : List Int) (v : Int) (h : ∀ j (hj : j < l.length), ¬ (0 ≤ l[j] ∧ l[j] / 2 = v)) : hasVar l v = false := by
  rw [Bool.eq_false_iff]
  intro hh
  obtain ⟨d, hd, h0, h1⟩ := (hasVar_iff l v).1 hh
  obtain ⟨j, hj, e⟩ := List.getElem_of_mem hd
  exact h j hj ⟨e ▸ h0, e ▸ h1⟩
theorem kind_in (c : Circ) (v : Int) (h0 : v ≠ 0) (h : hasVar c.inputs v = true) : kindS c v = [105] := by simp [kindS, h0, h]
theorem kind_lat (c : Circ) (v : Int) (h0 : v ≠ 0) (h1 : hasVar c.inputs v = false) (h : hasVar (c.latches.map (·.lit)) v = true) : kindS c v = [108] := by simp [kindS, h0, h1, h]
theorem kind_gat (c : Circ) (v : Int) (h0 : v ≠ 0) (h1 : hasVar c.inputs v = false) (h2 : hasVar (c.latches.map (·.lit)) v = false) (h : hasVar (c.ands.map (·.lit)) v = true) : kindS c v = [97] := by simp [kindS, h0, h1, h2, h]
theorem kind_none (c : Circ) (v : Int) (h0 : v ≠ 0) (h1 : hasVar c.inputs v = false) (h2 : hasVar (c.latches.map (·.lit)) v = false) (h : hasVar (c.ands.map (·.lit)) v = false) : kindS c v = [] := by simp [kindS, h0, h1, h2, h]
end PC



set_option maxHeartbeats 1000000 in
theorem rHas_any (l : List Int) (v : Value) (n : Int) (w : World) (hv : Ints w v l) :
    Calls Try.prog 30 #[v, .int .i64 n] w fun e w' => e = .returned (.bool (PC.hasI l n)) ∧ w = w' := by
  obtain ⟨ao, cap, rfl, hlc, hcm, hc⟩ := hv.open_
  clear hv
  go_enter Try.func30, Try.ntmps30
  go_wp2
  go_loopg [5] l.length (fun gg s5 wr => ∃ k : Nat, k ≤ l.length ∧ l.length - k ≤ gg ∧ s5 = .int .i64 k ∧ wr = w ∧ Aside (∀ j (hj : j < k) (h : j < l.length), l[j] ≠ n))
  case atStart => exact ⟨0, Nat.zero_le _, by omega, rfl, rfl, fun j hj => absurd hj (Nat.not_lt_zero _)⟩
  case round =>
    obtain ⟨k, hk, hg, rfl, rfl, A⟩ := hrel
    by_cases hlt : k < l.length
    · obtain ⟨b, off, rfl, _, _, hcell⟩ := hc k hlt
      clear hc
      generalize hy : l[k] = y at hcell
      have B : Aside (l[k] = y) := hy
      clear hy
      have hltz : (k : Int) < (l.length : Int) := by omega
      by_cases hq : y = n
      · have hqb : (y == n) = true := by simpa using hq
        clear hq
        go_wp2
        go_ret
        refine ⟨?_, rfl⟩
        have : PC.hasI l n = true := by
          rw [PC.hasI_eq, List.contains_iff_mem, ← eq_of_beq hqb, ← B.out]; exact List.getElem_mem hlt
        rw [this]; rfl
      · have hqb : (y == n) = false := by simpa using hq
        go_wp2
        go_roundg (l.length - (k + 1))
        case measure => omega
        case rel =>
          refine ⟨k + 1, by omega, by omega, by go_num, rfl, (show Aside _ from fun j hj h => ?_)⟩
          by_cases e : j = k
          · subst e; rw [B.out]; exact hq
          · exact A.out j (by omega) h
    · have hltz : ¬ (k : Int) < (l.length : Int) := by omega
      go_wp2
      go_ret
      refine ⟨?_, rfl⟩
      have : PC.hasI l n = false := by
        rw [PC.hasI_eq, Bool.eq_false_iff]
        intro h
        obtain ⟨j, hj, e⟩ := List.getElem_of_mem (List.contains_iff_mem.1 h)
        exact A.out j (by omega) hj e
      rw [this]; rfl

set_option maxHeartbeats 2000000 in
theorem rKind_any (c : PC.Circ) (vc : Value) (v : Int) (w : World) (hv : rng v) (h : IsCirc w vc c) :
    Calls Try.prog 51 #[vc, .int .i64 v] w fun e w' => e = .returned (.string ⟨(PC.kindS c v).toArray⟩) ∧ Below w.heap.size w w' := by
  obtain ⟨vi, vl, vo, vb, vv, va, vn, rfl, hp, hmax⟩ := h
  obtain ⟨ai, capi, rfl, hi1, hi2, hi3⟩ := hp.inputs.open_
  obtain ⟨al, capl, rfl, hl1, hl2, hl3⟩ := hp.latches.open_
  obtain ⟨aa, capa, rfl, ha1, ha2, ha3⟩ := hp.ands.open_
  clear hp hmax
  obtain ⟨hv1, hv2⟩ := hv
  by_cases h0 : v = 0
  · subst h0
    go_enter Try.func51, Try.ntmps51
    go_wp2
    go_ret
    exact ⟨rfl, (Below.refl _ _).alloc (Nat.le_refl _) _⟩
  · have h0b : (v == 0) = false := by simpa using h0
    have h0h := Lib.hid h0
    clear h0
    obtain ⟨R, hR⟩ : ∃ R, R = PC.kindS c v := ⟨_, rfl⟩
    rw [← hR]
    have HR := Lib.hid hR
    clear hR
    go_enter Try.func51, Try.ntmps51
    go_wp2
    go_loopg [5] c.inputs.length (fun gg s5 wr => ∃ k : Nat, k ≤ c.inputs.length ∧ c.inputs.length - k ≤ gg ∧ s5 = .int .i64 k ∧ wr = w.alloc (.cells #[.int .i64 c.max, .slice ai c.inputs.length capi, .slice al c.latches.length capl, vo, vb, vv, .slice aa c.ands.length capa, vn] 27) ∧ Aside (∀ j (hj : j < k) (h : j < c.inputs.length), ¬ (0 ≤ c.inputs[j] ∧ c.inputs[j] / 2 = v)))
    case atStart => exact ⟨0, Nat.zero_le _, by omega, rfl, rfl, fun j hj => absurd hj (Nat.not_lt_zero _)⟩
    case round =>
      obtain ⟨k, hk, hg, rfl, rfl, A⟩ := hrel
      by_cases hlt : k < c.inputs.length
      · obtain ⟨b, off, rfl, _, hr, hcell⟩ := hi3 k hlt
        have hcell := past1 hcell
        clear hi3
        generalize hy : c.inputs[k] = y at hcell hr
        have B : Aside (c.inputs[k] = y) := hy
        clear hy
        obtain ⟨hr1, hr2⟩ := hr
        have hltz : (k : Int) < (c.inputs.length : Int) := by omega
        have hnext : ¬ (0 ≤ y ∧ y / 2 = v) → Aside (∀ j (hj : j < k + 1) (h : j < c.inputs.length), ¬ (0 ≤ c.inputs[j] ∧ c.inputs[j] / 2 = v)) := by
          intro hn j hj h
          by_cases e : j = k
          · subst e; rw [B.out]; exact hn
          · exact A.out j (by omega) h
        have hnext := Lib.hid hnext
        by_cases hy0 : 0 ≤ y
        · cases hq : (y / 2 == v) with
          | true =>
            go_wp2
            go_ret
            exact ⟨by rw [HR.out, (PC.kind_in c v h0h.out (PC.hasVar_hit c.inputs v k hlt (by rw [B.out]; exact hy0) (by rw [B.out]; exact eq_of_beq hq)))]; rfl, (Below.refl _ _).alloc (Nat.le_refl _) _⟩
          | false =>
            go_wp2
            go_roundg (c.inputs.length - (k + 1))
            case measure => omega
            case rel => exact ⟨k + 1, by omega, by omega, by go_num, rfl, hnext.out (fun h => by rw [h.2] at hq; simp at hq)⟩
        · go_wp2
          go_roundg (c.inputs.length - (k + 1))
          case measure => omega
          case rel => exact ⟨k + 1, by omega, by omega, by go_num, rfl, hnext.out (fun h => by omega)⟩
      · have hltz : ¬ (k : Int) < (c.inputs.length : Int) := by omega
        have V1 := Lib.hid (PC.hasVar_miss c.inputs v fun j hj => A.out j (by omega) hj)
        clear A hi3
        go_wp2
        go_loopg [6] c.latches.length (fun gg s5 wr => ∃ k : Nat, k ≤ c.latches.length ∧ c.latches.length - k ≤ gg ∧ s5 = .int .i64 k ∧ wr = w.alloc (.cells #[.int .i64 c.max, .slice ai c.inputs.length capi, .slice al c.latches.length capl, vo, vb, vv, .slice aa c.ands.length capa, vn] 27) ∧ Aside (∀ j (hj : j < k) (h : j < c.latches.length), ¬ (0 ≤ c.latches[j].lit ∧ c.latches[j].lit / 2 = v)))
        case atStart => exact ⟨0, Nat.zero_le _, by omega, rfl, rfl, fun j hj => absurd hj (Nat.not_lt_zero _)⟩
        case round =>
          obtain ⟨k, hk, hg, rfl, rfl, A⟩ := hrel
          by_cases hlt : k < c.latches.length
          · obtain ⟨b, off, rfl, _, ⟨hr, _, _⟩, hcell, _, _⟩ := hl3 k hlt
            have hcell := past1 hcell
            clear hl3
            generalize hy : c.latches[k].lit = y at hcell hr
            have B : Aside (c.latches[k].lit = y) := hy
            clear hy
            obtain ⟨hr1, hr2⟩ := hr
            have hltz : (k : Int) < (c.latches.length : Int) := by omega
            have hnext : ¬ (0 ≤ y ∧ y / 2 = v) → Aside (∀ j (hj : j < k + 1) (h : j < c.latches.length), ¬ (0 ≤ c.latches[j].lit ∧ c.latches[j].lit / 2 = v)) := by
              intro hn j hj h
              by_cases e : j = k
              · subst e; rw [B.out]; exact hn
              · exact A.out j (by omega) h
            have hnext := Lib.hid hnext
            by_cases hy0 : 0 ≤ y
            · cases hq : (y / 2 == v) with
              | true =>
                go_wp2
                go_ret
                exact ⟨by rw [HR.out, (PC.kind_lat c v h0h.out V1.out (PC.hasVar_hit (c.latches.map (·.lit)) v k (by simpa using hlt) (by rw [List.getElem_map, B.out]; exact hy0) (by rw [List.getElem_map, B.out]; exact eq_of_beq hq)))]; rfl, (Below.refl _ _).alloc (Nat.le_refl _) _⟩
              | false =>
                go_wp2
                go_roundg (c.latches.length - (k + 1))
                case measure => omega
                case rel => exact ⟨k + 1, by omega, by omega, by go_num, rfl, hnext.out (fun h => by rw [h.2] at hq; simp at hq)⟩
            · go_wp2
              go_roundg (c.latches.length - (k + 1))
              case measure => omega
              case rel => exact ⟨k + 1, by omega, by omega, by go_num, rfl, hnext.out (fun h => by omega)⟩
          · have hltz : ¬ (k : Int) < (c.latches.length : Int) := by omega
            have V2 := Lib.hid (PC.hasVar_miss (c.latches.map (·.lit)) v fun j hj => by rw [List.getElem_map]; exact A.out j (by simp at hj; omega) (by simpa using hj))
            clear A hl3
            go_wp2
            go_loopg [7] c.ands.length (fun gg s5 wr => ∃ k : Nat, k ≤ c.ands.length ∧ c.ands.length - k ≤ gg ∧ s5 = .int .i64 k ∧ wr = w.alloc (.cells #[.int .i64 c.max, .slice ai c.inputs.length capi, .slice al c.latches.length capl, vo, vb, vv, .slice aa c.ands.length capa, vn] 27) ∧ Aside (∀ j (hj : j < k) (h : j < c.ands.length), ¬ (0 ≤ c.ands[j].lit ∧ c.ands[j].lit / 2 = v)))
            case atStart => exact ⟨0, Nat.zero_le _, by omega, rfl, rfl, fun j hj => absurd hj (Nat.not_lt_zero _)⟩
            case round =>
              obtain ⟨k, hk, hg, rfl, rfl, A⟩ := hrel
              by_cases hlt : k < c.ands.length
              · obtain ⟨b, off, rfl, _, ⟨hr, _, _⟩, hcell, _, _⟩ := ha3 k hlt
                have hcell := past1 hcell
                clear ha3
                generalize hy : c.ands[k].lit = y at hcell hr
                have B : Aside (c.ands[k].lit = y) := hy
                clear hy
                obtain ⟨hr1, hr2⟩ := hr
                have hltz : (k : Int) < (c.ands.length : Int) := by omega
                have hnext : ¬ (0 ≤ y ∧ y / 2 = v) → Aside (∀ j (hj : j < k + 1) (h : j < c.ands.length), ¬ (0 ≤ c.ands[j].lit ∧ c.ands[j].lit / 2 = v)) := by
                  intro hn j hj h
                  by_cases e : j = k
                  · subst e; rw [B.out]; exact hn
                  · exact A.out j (by omega) h
                have hnext := Lib.hid hnext
                by_cases hy0 : 0 ≤ y
                · cases hq : (y / 2 == v) with
                  | true =>
                    go_wp2
                    go_ret
                    exact ⟨by rw [HR.out, (PC.kind_gat c v h0h.out V1.out V2.out (PC.hasVar_hit (c.ands.map (·.lit)) v k (by simpa using hlt) (by rw [List.getElem_map, B.out]; exact hy0) (by rw [List.getElem_map, B.out]; exact eq_of_beq hq)))]; rfl, (Below.refl _ _).alloc (Nat.le_refl _) _⟩
                  | false =>
                    go_wp2
                    go_roundg (c.ands.length - (k + 1))
                    case measure => omega
                    case rel => exact ⟨k + 1, by omega, by omega, by go_num, rfl, hnext.out (fun h => by rw [h.2] at hq; simp at hq)⟩
                · go_wp2
                  go_roundg (c.ands.length - (k + 1))
                  case measure => omega
                  case rel => exact ⟨k + 1, by omega, by omega, by go_num, rfl, hnext.out (fun h => by omega)⟩
              · have hltz : ¬ (k : Int) < (c.ands.length : Int) := by omega
                have V3 := Lib.hid (PC.hasVar_miss (c.ands.map (·.lit)) v fun j hj => by rw [List.getElem_map]; exact A.out j (by simp at hj; omega) (by simpa using hj))
                clear A ha3
                go_wp2
                go_ret
                exact ⟨by rw [HR.out, PC.kind_none c v h0h.out V1.out V2.out V3.out]; rfl, (Below.refl _ _).alloc (Nat.le_refl _) _⟩

end Go.Proofs.Ytjcaejdokillgaa
