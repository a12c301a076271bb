/- Contracts: the law's right; is a state in clauses over latches. -/
import Derived.Test.YtbjioniefalgpaaWalkH4
import Derived.Test.YtbjioniefalgpaaWalkV3
namespace Go.Proofs.Ytbjioniefalgpaa
open Go.RowKit Go.Shelf
attribute [local simp] mk_get

set_option maxRecDepth 100000 in
set_option maxHeartbeats 1000000 in
theorem right13_any (c : PC.Circ) (vc : Value) (fr : Int) (w : World) (h : IsCirc w vc c) (hf : Fits c) :
    Calls Try.prog 25 #[vc, .int .i64 fr] w fun e w' => e = .returned (.bool (decide (0 ≤ fr) && decide (fr ≤ 80) && PC.chk c)) ∧ Below w.heap.size w w' := by
  have hC := fun w1 (hb : Below w.heap.size w w1) => rCheck_any c vc w1 (h.mono hb) hf
  obtain ⟨vi, vl, vo, vb, vv, va, vn, rfl, hp, hm⟩ := h
  clear hp
  have hb0 : Below w.heap.size w (w.alloc (.cells #[.int .i64 c.max, vi, vl, vo, vb, vv, va, vn] 27)) := (Below.refl _ _).alloc (Nat.le_refl _) _
  have hbx0 := Lib.hid (Box8.new w (.int .i64 c.max) vi vl vo vb vv va vn 27)
  by_cases h0 : 0 ≤ fr
  · by_cases h1 : fr ≤ 80
    · rw [decide_eq_true h0, decide_eq_true h1]
      cases hck : PC.chk c with
      | false =>
        rw [hck] at hC
        clear hck
        go_enter Try.func25, Try.ntmps25
        go_wp2_with (go_at_call 16; refine (hC _ (by exact hb0)).mono ?_; rintro e w1 ⟨rfl, hb1⟩)
        go_ret
        exact ⟨rfl, Below.of hb0 hb1⟩
      | true =>
        rw [hck] at hC
        clear hck
        go_enter Try.func25, Try.ntmps25
        go_wp2_with (go_at_call 16; refine (hC _ (by exact hb0)).mono ?_; rintro e w1 ⟨rfl, hb1⟩)
        go_ret
        exact ⟨rfl, Below.of hb0 hb1⟩
    · rw [decide_eq_true h0, decide_eq_false h1]
      go_enter Try.func25, Try.ntmps25
      go_wp2
      go_ret
      exact ⟨rfl, hb0⟩
  · rw [decide_eq_false h0]
    go_enter Try.func25, Try.ntmps25
    go_wp2
    go_ret
    exact ⟨rfl, hb0⟩

theorem inT_eq (known : List (List Int)) (st : List UInt8) : PC.inT known st = known.all (fun cl => cl.any (PC.isM st)) := rfl

set_option maxRecDepth 100000 in
set_option maxHeartbeats 200000 in
theorem rIn_any (known : List (List Int)) (vk : Value) (st : List UInt8) (w : World) (hk : Lists w vk known) (hs : st.length ≤ 9223372036854775807) (hn : ∀ a ∈ known, ∀ n ∈ a, 1 ≤ max n (-n) ∧ max n (-n) ≤ (st.length : Int)) :
    Calls Try.prog 27 #[vk, .string ⟨st.toArray⟩] w fun e w' => e = .returned (.bool (PC.inT known st)) ∧ w = w' := by
  obtain ⟨aK, kK, rfl, hK1, hK2, hK3⟩ := hk.open_
  have HK := Lib.hid hK3
  have HN := Lib.hid hn
  clear hK3 hn hk
  obtain ⟨R, hR⟩ : ∃ R, R = PC.inT known st := ⟨_, rfl⟩
  rw [← hR]
  rw [inT_eq] at hR
  have HR := Lib.hid hR
  clear hR
  go_enter Try.func27, Try.ntmps27
  go_wp2
  go_loopg [5] known.length (fun gg s5 wr => ∃ k : Nat, k ≤ known.length ∧ known.length - k ≤ gg ∧ s5 = .int .i64 k ∧ w = wr ∧ Aside (∀ j (hj : j < k) (h : j < known.length), known[j].any (PC.isM st) = true))
  case atStart => exact ⟨0, Nat.zero_le _, by omega, rfl, rfl, fun j hj => absurd hj (Nat.not_lt_zero _)⟩
  case round =>
    obtain ⟨k, hk, hg, rfl, rfl, A⟩ := hrel
    by_cases hlt : k < known.length
    · obtain ⟨b', off, u, rfl, hbs, hc, hiu⟩ := HK.out k hlt
      have hmea : ∀ g : Nat, known.length - k ≤ g → known.length - (k + 1) < g := fun g h => by omega
      have hny := Lib.hid (HN.out _ (List.getElem_mem hlt))
      generalize hy : known[k] = y at *
      have Y := Lib.hid hy
      clear hy
      have hltz : (k : Int) < (known.length : Int) := by omega
      obtain ⟨ao, cap, rfl, hi1, hi2, hi3⟩ := hiu.open_
      have HI := Lib.hid hi3
      have hyl : y.length ≤ 9223372036854775807 := by omega
      clear hi3 hiu hi1 hi2
      go_wp2_with fail
      go_loopg [6, 7] y.length (fun gg s6 s7 wr => ∃ i : Nat, i ≤ y.length ∧ y.length - i ≤ gg ∧ s6 = .bool ((y.take i).any (PC.isM st)) ∧ s7 = .int .i64 i ∧ w = wr ∧ True)
      case atStart => exact ⟨0, Nat.zero_le _, by omega, rfl, rfl, rfl, trivial⟩
      case round =>
        obtain ⟨i, hi, hgi, rfl, rfl, rfl, _⟩ := hrel
        by_cases hlti : i < y.length
        · obtain ⟨bi, offi, rfl, hbsi, hry, hci⟩ := HI.out i hlti
          have hmeai : ∀ g : Nat, y.length - i ≤ g → y.length - (i + 1) < g := fun g h => by omega
          have hstepi := Lib.hid (show (y.take (i + 1)).any (PC.isM st) = ((y.take i).any (PC.isM st) || PC.isM st y[i]) by rw [List.take_succ_eq_append_getElem hlti, List.any_append]; simp)
          obtain ⟨hm1, hm2⟩ := hny.out _ (List.getElem_mem hlti)
          generalize hz : y[i] = z at *
          clear hz
          have hltzi : (i : Int) < (y.length : Int) := by omega
          obtain ⟨hr1, hr2⟩ := hry
          generalize (y.take i).any (PC.isM st) = s at *
          by_cases hz0 : 0 < z
          · obtain ⟨j, rfl⟩ : ∃ j : Nat, z = (j : Int) + 1 := ⟨(z - 1).toNat, by omega⟩
            have hj : j < st.length := by clear hgi hg; omega
            have hjm : (j : Int) + 1 ≤ 9223372036854775807 := by clear hgi hg hm1 hm2; omega
            clear hm1 hm2 hr1 hr2 hz0
            have GI := Lib.hid hgi
            have GO := Lib.hid hg
            clear hgi hg
            have hwj : IntKind.i64.wrap (j : Int) = (j : Int) := IntWalk.i64_in _ (by omega)
            have hj0 : 1 ≤ (j : Int) + 1 := by omega
            have hjz : (j : Int) + 1 ≤ (st.length : Int) := by omega
            have hjz2 : (j : Int) < (st.length : Int) := by omega
            have hmx : max ((j : Int) + 1) (-((j : Int) + 1)) = (j : Int) + 1 := by omega
            have hmi : Hid ((max ((j : Int) + 1) (-((j : Int) + 1))).toNat - 1 = j) := by show _ = _; omega
            have hng : Hid (decide (0 < (j : Int) + 1) = true) := decide_eq_true (by omega)
            have n1 : ¬ (j : Int) + 1 < -((j : Int) + 1) := by omega
            have n2 : 0 < (j : Int) + 1 := by omega
            have hdec : decide (0 < (j : Int) + 1) = true := decide_eq_true (by omega)
            rw [isM_at st _ j hj hmx, eq49, hdec] at hstepi
            obtain ⟨o, ho⟩ : ∃ o, st[j] = o := ⟨_, rfl⟩
            rw [ho] at hstepi
            have hneg : IntKind.i64.wrap (-((j : Int) + 1)) = -((j : Int) + 1) := IntWalk.i64_in _ (by clear hwj; omega)
            clear hmx n2 hlti hjm hneg
            have hgi := GI.out
            have hg := GO.out
            cases s with
            | true =>
              go_wp2
              go_roundg (y.length - (i + 1))
              case measure => exact hmeai _ hgi
              case rel =>
                exact ⟨i + 1, by omega, by omega, by rw [hstepi.out]; first | rfl | (simp only [hmi.out, ho, hng.out]; done) | (simp only [hmi.out, ho, hng.out]; simp), by go_num, rfl, trivial⟩
            | false =>
              go_wp2
              go_roundg (y.length - (i + 1))
              case measure => exact hmeai _ hgi
              case rel =>
                exact ⟨i + 1, by omega, by omega, by rw [hstepi.out]; first | rfl | (simp only [hmi.out, ho, hng.out]; done) | (simp only [hmi.out, ho, hng.out]; simp), by go_num, rfl, trivial⟩
          · obtain ⟨j, rfl⟩ : ∃ j : Nat, z = -((j : Int) + 1) := ⟨(-z - 1).toNat, by omega⟩
            have hj : j < st.length := by clear hgi hg; omega
            have hjm : (j : Int) + 1 ≤ 9223372036854775807 := by clear hgi hg hm1 hm2; omega
            clear hm1 hm2 hr1 hr2 hz0
            have GI := Lib.hid hgi
            have GO := Lib.hid hg
            clear hgi hg
            have hwj : IntKind.i64.wrap (j : Int) = (j : Int) := IntWalk.i64_in _ (by omega)
            have hj0 : 1 ≤ (j : Int) + 1 := by omega
            have hjz : (j : Int) + 1 ≤ (st.length : Int) := by omega
            have hjz2 : (j : Int) < (st.length : Int) := by omega
            have hmx : max (-((j : Int) + 1)) (-(-((j : Int) + 1))) = (j : Int) + 1 := by omega
            have hmi : Hid ((max (-((j : Int) + 1)) ((j : Int) + 1)).toNat - 1 = j) := by show _ = _; omega
            have hng : Hid (decide ((j : Int) + 1 < 0) = false) := decide_eq_false (by omega)
            have n1 : -((j : Int) + 1) < (j : Int) + 1 := by omega
            have n2 : ¬ 0 < -((j : Int) + 1) := by omega
            have n4 : -(-((j : Int) + 1)) = (j : Int) + 1 := by omega
            have hdec : decide (0 < -((j : Int) + 1)) = false := decide_eq_false (by omega)
            rw [isM_at st _ j hj hmx, eq49, hdec] at hstepi
            obtain ⟨o, ho⟩ : ∃ o, st[j] = o := ⟨_, rfl⟩
            rw [ho] at hstepi
            have hneg : IntKind.i64.wrap ((j : Int) + 1) = (j : Int) + 1 := IntWalk.i64_in _ (by clear hwj; omega)
            clear hmx n2 hlti hjm hneg
            have hgi := GI.out
            have hg := GO.out
            cases s with
            | true =>
              go_wp2
              go_roundg (y.length - (i + 1))
              case measure => exact hmeai _ hgi
              case rel =>
                exact ⟨i + 1, by omega, by omega, by rw [hstepi.out]; first | rfl | (simp only [hmi.out, ho, hng.out]; done) | (simp only [hmi.out, ho, hng.out]; simp), by go_num, rfl, trivial⟩
            | false =>
              go_wp2
              go_roundg (y.length - (i + 1))
              case measure => exact hmeai _ hgi
              case rel =>
                exact ⟨i + 1, by omega, by omega, by rw [hstepi.out]; first | rfl | (simp only [hmi.out, ho, hng.out]; done) | (simp only [hmi.out, ho, hng.out]; simp), by go_num, rfl, trivial⟩
        · have hltzi : ¬ (i : Int) < (y.length : Int) := by omega
          obtain rfl : i = y.length := by omega
          rw [List.take_length]
          clear HI
          cases hq : y.any (PC.isM st) with
          | true =>
            have Q := Lib.hid hq
            clear hq
            go_wp2_with fail
            go_roundg (known.length - (k + 1))
            case measure => exact hmea _ hg
            case rel =>
              refine ⟨k + 1, by omega, by omega, by go_num, rfl, (show Aside _ from fun j hj h => ?_)⟩
              by_cases e : j = k
              · subst e; rw [Y.out]; exact Q.out
              · exact A.out j (by omega) h
          | false =>
            have Q := Lib.hid hq
            clear hq
            go_wp2_with fail
            go_ret
            have : R = false := by
              rw [HR.out, List.all_eq_false]
              exact ⟨known[k], List.getElem_mem hlt, by rw [Y.out, Q.out]; decide⟩
            exact ⟨by rw [this]; rfl, rfl⟩
    · have hltz : ¬ (k : Int) < (known.length : Int) := by omega
      obtain rfl : k = known.length := by omega
      go_wp2
      go_ret
      have : R = true := by
        rw [HR.out, List.all_eq_true]
        intro x hx
        obtain ⟨j, hj, rfl⟩ := List.getElem_of_mem hx
        exact A.out j hj hj
      exact ⟨by rw [this]; rfl, rfl⟩

end Go.Proofs.Ytbjioniefalgpaa
