/- The walk of CommandBlanks. -/
import Derived.Test.YtjcaejdokillgaaDoorZK8
namespace Go.Proofs.YtjcaejdokillgaaDoor
open Go.RowKit Go.Shelf
attribute [local simp] mk_get

set_option maxRecDepth 100000 in
set_option maxHeartbeats 16000000 in
theorem commandBlanks_walk (s : List UInt8) (m : Int) (w : World) (hs : s.length ≤ 1048576) (hm : w.cell? ⟨0, 0, none⟩ = some (.int .i64 m)) :
    Calls Tryd.prog 6 #[.string ⟨s.toArray⟩] w fun e w' => e = .returned (.bool true) ∧ Below w.heap.size w w' := by
  have HM := Lib.hid hm
  have HMw := Lib.hid fun (y : World) (hy : Below w.heap.size w y) => (hy.cell (World.block_lt_of_cell? w _ HM.out)).trans HM.out
  obtain ⟨ER, K, T, N, hany⟩ := PkTo.any (PS.words s)
  have HANY := Lib.hid hany
  clear hany hm
  by_cases hlen : 1000 < s.length
  · have hlz : (1000 : Int) < (s.length : Int) := by omega
    clear hlen
    go_enter Tryd.func6, Tryd.ntmps6
    go_wp2_with fail
    refine (alive32_any m w HM.out).mono ?_
    rintro e w1 ⟨rfl, hb1⟩
    have HB1 := Lib.hid hb1
    clear hb1
    have hWd := Lib.hid (r01Words_any s w1 hs)
    go_wp2_with fail
    refine hWd.out.mono ?_
    rintro e w2 ⟨v, rfl, hS, hb2⟩
    have HB2 := Lib.hid (Below.of HB1.out hb2)
    have HS := Lib.hid hS
    clear hb2 hWd hS
    go_wp2_with fail
    go_ret
    exact ⟨by first | rfl | simp, HB2.out⟩
  · have hlz : ¬ (1000 : Int) < (s.length : Int) := by omega
    have hs1 : s.length ≤ 1000 := by omega
    cases hL : PS.words s with
    | nil =>
      have HX : Hid (∀ x R, PS.words s = x :: R → x ≠ textS) := fun x R h => by rw [hL] at h; cases h
      go_enter Tryd.func6, Tryd.ntmps6
      go_wp2_with fail
      refine (alive32_any m w HM.out).mono ?_
      rintro e w1 ⟨rfl, hb1⟩
      have HB1 := Lib.hid hb1
      clear hb1
      have hWd := Lib.hid (r01Words_any s w1 hs)
      go_wp2_with fail
      refine hWd.out.mono ?_
      rintro e w2 ⟨v, rfl, hS, hb2⟩
      have HB2 := Lib.hid (Below.of HB1.out hb2)
      have HS := Lib.hid hS
      clear hb2 hWd hS
      have hS2 := HS.out
      rw [hL] at hS2
      obtain ⟨ao, cap, rfl, _, _, _⟩ := hS2.open_
      clear hS2 hL hlen
      go_wp2_with fail
      go_loopg [4] s.length (fun gg s4 wr => ∃ i : Nat, i ≤ s.length ∧ s.length - i ≤ gg ∧ s4 = .int .i64 i ∧ w2 = wr ∧ Hid (∀ j (_ : j < i) (h : j < s.length), odd s[j] = false))
      case atStart => exact ⟨0, Nat.zero_le _, by omega, rfl, rfl, fun j hj => absurd hj (Nat.not_lt_zero _)⟩
      case round =>
        obtain ⟨i, hi, hg, rfl, rfl, hA⟩ := hrel
        by_cases hlt : i < s.length
        · have hltz : (i : Int) < (s.length : Int) := by omega
          have hmea : ∀ g : Nat, s.length - i ≤ g → s.length - (i + 1) < g := fun g h => by omega
          have hA2 : odd s[i] = false → Hid (∀ j (_ : j < i + 1) (h : j < s.length), odd s[j] = false) := fun ho j hj h => by
            by_cases e : j = i
            · subst e; exact ho
            · exact hA.out j (by omega) h
          obtain ⟨y, hy⟩ : ∃ y, s[i] = y := ⟨_, rfl⟩
          rw [hy] at hA2
          by_cases h1 : y.toNat < 32
          · clear hA2
            go_wp2_with fail
            go_ret
            exact ⟨by first | rfl | simp, HB2.out⟩
          · by_cases h2 : 126 < y.toNat
            · clear hA2
              go_wp2_with fail
              go_ret
              exact ⟨by first | rfl | simp, HB2.out⟩
            · have hA3 := hA2 (by unfold odd; rw [decide_eq_false (by omega), decide_eq_false (by omega)]; rfl)
              clear hA2 hA
              go_wp2_with fail
              go_roundg (s.length - (i + 1))
              case measure => exact hmea _ hg
              case rel => exact ⟨i + 1, by omega, by omega, by go_num, rfl, hA3⟩
        · have hltz : ¬ (i : Int) < (s.length : Int) := by omega
          obtain rfl : i = s.length := by omega
          have hod : s.any odd = false := by
            rw [List.any_eq_false]
            intro x hx
            obtain ⟨j, hj, rfl⟩ := List.getElem_of_mem hx
            rw [hA.out j hj hj]
            simp
          have hP1 := Lib.hid ((kParse_any s m w2 (by omega) hod HX.out (HMw.out w2 HB2.out)).mono fun e w' hh => HANY.out _ _ _ hh)
          have hwl := PS.wide_len s
          have hP2 : Hid (∀ y : World, Below w.heap.size w y → Calls Tryd.prog 16 #[.string ⟨(PS.wide s).toArray⟩] y fun e w' => ∃ v, e = .returned (.tuple #[v, .int .i64 ER]) ∧ IsCmd w' v K T N ∧ Below y.heap.size y w') := fun y hy => by
            have := kParse_any (PS.wide s) m y (by omega) (PS.wide_any odd (by decide) hod) (by rw [PS.words_wide]; exact HX.out) (HMw.out y hy)
            rw [PS.words_wide] at this
            exact this.mono fun e w' hh => HANY.out _ _ _ hh
          have hfl := PS.flat_words s
          clear hA hod hg hi hlt
          go_wp2_with fail
          refine hP1.out.mono ?_
          rintro e w3 ⟨v3, rfl, hc3, hb3⟩
          have HC3 := Lib.hid hc3
          have HB3 := Lib.hid (Below.of HB2.out hb3)
          have HS3 := Lib.hid (HS.out.mono hb3)
          obtain ⟨n3, rfl, hn3, _⟩ := hc3
          obtain ⟨a3, c3, rfl, _⟩ := hn3.open_
          obtain ⟨X, hX⟩ : ∃ X, X = w3.alloc (.cells #[.int .i64 K, .slice a3 N.length c3, .string ⟨T.toArray⟩] 41) := ⟨_, rfl⟩
          have bX : Below w3.heap.size w3 X := by rw [hX]; exact (Below.refl _ _).alloc (Nat.le_refl _) _
          have rX : RowL 41 X w3.heap.size [.int .i64 K, .slice a3 N.length c3, .string ⟨T.toArray⟩] := by
            have := RowL.new (T := 41) w3 [.int .i64 K, .slice a3 N.length c3, .string ⟨T.toArray⟩]; rw [← hX] at this; exact this
          have HX1 := Lib.hid hX
          have RX := Lib.hid rX
          have HBX := Lib.hid (Below.of HB3.out bX)
          have hJ := Lib.hid (r01Join_any (PS.words s) _ X (HS3.out.mono bX) (by omega))
          have HCX := Lib.hid (HC3.out.mono bX)
          clear bX rX hX hn3 hb3 HS HS3 hP1
          have k1 : (⟨#[32, 32]⟩ : ByteArray) ++ ⟨(PS.jn [32, 32, 32] (PS.words s)).toArray⟩ = ⟨([32, 32] ++ PS.jn [32, 32, 32] (PS.words s)).toArray⟩ := cat_eqK [32, 32] _
          have k2 : (⟨([32, 32] ++ PS.jn [32, 32, 32] (PS.words s)).toArray⟩ : ByteArray) ++ ⟨#[32]⟩ = ⟨(PS.wide s).toArray⟩ := cat_eqK ([32, 32] ++ PS.jn [32, 32, 32] (PS.words s)) [32]
          have jl := PS.jn_len [32, 32, 32] rfl (PS.words s)
          obtain ⟨J, hJe⟩ : ∃ J, J = PS.jn [32, 32, 32] (PS.words s) := ⟨_, rfl⟩
          obtain ⟨J2, hJ2⟩ : ∃ J2, J2 = [32, 32] ++ J := ⟨_, rfl⟩
          obtain ⟨J3, hJ3⟩ : ∃ J3, J3 = PS.wide s := ⟨_, rfl⟩
          rw [← hJe, ← hJ2] at k1
          rw [← hJe, ← hJ2, ← hJ3] at k2
          rw [← hJe] at hJ jl
          rw [← hJ3] at hP2
          have l2 : J2.length = 2 + J.length := by rw [hJ2]; simp; omega
          have m1 : ¬ 9223372036854775807 < 2 + J.length := by omega
          have m2 : ¬ 9223372036854775807 < J2.length + 1 := by omega
          clear hJe hJ2 hJ3 jl l2 hfl hwl
          go_wp2_with fail
          rw [← HX1.out]
          refine hJ.out.mono ?_
          rintro e w4 ⟨rfl, hw4⟩
          subst hw4
          go_wp2_with fail
          refine (hP2.out X HBX.out).mono ?_
          rintro e w5 ⟨v5, rfl, hc5, hb5⟩
          have HC5 := Lib.hid hc5
          obtain ⟨n5, rfl, hn5, _⟩ := hc5
          obtain ⟨a5, c5, rfl, _⟩ := hn5.open_
          have R5 := Lib.hid (RX.out.mono hb5)
          obtain ⟨X2, hX2⟩ : ∃ X2, X2 = w5.alloc (.cells #[.int .i64 K, .slice a5 N.length c5, .string ⟨T.toArray⟩] 41) := ⟨_, rfl⟩
          have bX2 : Below w5.heap.size w5 X2 := by rw [hX2]; exact (Below.refl _ _).alloc (Nat.le_refl _) _
          have rX2 : RowL 41 X2 w5.heap.size [.int .i64 K, .slice a5 N.length c5, .string ⟨T.toArray⟩] := by
            have := RowL.new (T := 41) w5 [.int .i64 K, .slice a5 N.length c5, .string ⟨T.toArray⟩]; rw [← hX2] at this; exact this
          have HX2 := Lib.hid hX2
          have r1 := R5.out.mono bX2
          have hSm := Lib.hid (same32_any K T N _ _ X2 (HCX.out.mono (Below.of hb5 bX2)) (HC5.out.mono bX2))
          have HB5 := Lib.hid (Below.of HBX.out (Below.of hb5 bX2))
          have q0 := r1.cell 0 _ rfl
          have q1 := r1.cell 1 _ rfl
          have q2 := r1.cell 2 _ rfl
          have z0 := rX2.cell 0 _ rfl
          have z1 := rX2.cell 1 _ rfl
          have z2 := rX2.cell 2 _ rfl
          rw [hX2] at q0 q1 q2 z0 z1 z2
          have eER : (ER == ER) = true := by simp
          clear hn5 hb5 bX2 rX2 hX2 r1 R5 k1 k2 m1 m2
          go_wp2_with fail
          rw [← HX2.out]
          refine hSm.out.mono ?_
          rintro e w7 ⟨rfl, hb7⟩
          clear q0 q1 q2 z0 z1 z2
          go_wp2_with fail
          go_ret
          exact ⟨by first | rfl | simp, Below.of HB5.out hb7⟩
    | cons x R =>
      by_cases hx : x = textS
      · subst hx
        go_enter Tryd.func6, Tryd.ntmps6
        go_wp2_with fail
        refine (alive32_any m w HM.out).mono ?_
        rintro e w1 ⟨rfl, hb1⟩
        have HB1 := Lib.hid hb1
        clear hb1
        have hWd := Lib.hid (r01Words_any s w1 hs)
        go_wp2_with fail
        refine hWd.out.mono ?_
        rintro e w2 ⟨v, rfl, hS, hb2⟩
        have HB2 := Lib.hid (Below.of HB1.out hb2)
        have HS := Lib.hid hS
        clear hb2 hWd hS
        have hS2 := HS.out
        rw [hL] at hS2
        obtain ⟨ao, cap, rfl, _, _, hi3⟩ := hS2.open_
        obtain ⟨b, off, rfl, hbs, _, hc⟩ := hi3 0 (by simp)
        simp only [List.getElem_cons_zero, Nat.add_zero] at hc
        have hxl : (0 : Int) < ((textS :: R).length : Int) := by simp
        clear hS2 hL hlen hi3
        go_wp2_with fail
        go_ret
        exact ⟨by first | rfl | simp, HB2.out⟩
      · have HX : Hid (∀ x R, PS.words s = x :: R → x ≠ textS) := fun y R' h => by rw [hL] at h; obtain ⟨rfl, _⟩ := List.cons.inj h; exact hx
        have hxb : (x == textS) = false := by simpa using hx
        go_enter Tryd.func6, Tryd.ntmps6
        go_wp2_with fail
        refine (alive32_any m w HM.out).mono ?_
        rintro e w1 ⟨rfl, hb1⟩
        have HB1 := Lib.hid hb1
        clear hb1
        have hWd := Lib.hid (r01Words_any s w1 hs)
        go_wp2_with fail
        refine hWd.out.mono ?_
        rintro e w2 ⟨v, rfl, hS, hb2⟩
        have HB2 := Lib.hid (Below.of HB1.out hb2)
        have HS := Lib.hid hS
        clear hb2 hWd hS
        have hS2 := HS.out
        rw [hL] at hS2
        obtain ⟨ao, cap, rfl, _, _, hi3⟩ := hS2.open_
        obtain ⟨b, off, rfl, hbs, _, hc⟩ := hi3 0 (by simp)
        simp only [List.getElem_cons_zero, Nat.add_zero] at hc
        clear hS2 hL hlen hi3 hx
        go_wp2_with fail
        go_loopg [4] s.length (fun gg s4 wr => ∃ i : Nat, i ≤ s.length ∧ s.length - i ≤ gg ∧ s4 = .int .i64 i ∧ w2 = wr ∧ Hid (∀ j (_ : j < i) (h : j < s.length), odd s[j] = false))
        case atStart => exact ⟨0, Nat.zero_le _, by omega, rfl, rfl, fun j hj => absurd hj (Nat.not_lt_zero _)⟩
        case round =>
          obtain ⟨i, hi, hg, rfl, rfl, hA⟩ := hrel
          by_cases hlt : i < s.length
          · have hltz : (i : Int) < (s.length : Int) := by omega
            have hmea : ∀ g : Nat, s.length - i ≤ g → s.length - (i + 1) < g := fun g h => by omega
            have hA2 : odd s[i] = false → Hid (∀ j (_ : j < i + 1) (h : j < s.length), odd s[j] = false) := fun ho j hj h => by
              by_cases e : j = i
              · subst e; exact ho
              · exact hA.out j (by omega) h
            obtain ⟨y, hy⟩ : ∃ y, s[i] = y := ⟨_, rfl⟩
            rw [hy] at hA2
            by_cases h1 : y.toNat < 32
            · clear hA2
              go_wp2_with fail
              go_ret
              exact ⟨by first | rfl | simp, HB2.out⟩
            · by_cases h2 : 126 < y.toNat
              · clear hA2
                go_wp2_with fail
                go_ret
                exact ⟨by first | rfl | simp, HB2.out⟩
              · have hA3 := hA2 (by unfold odd; rw [decide_eq_false (by omega), decide_eq_false (by omega)]; rfl)
                clear hA2 hA
                go_wp2_with fail
                go_roundg (s.length - (i + 1))
                case measure => exact hmea _ hg
                case rel => exact ⟨i + 1, by omega, by omega, by go_num, rfl, hA3⟩
          · have hltz : ¬ (i : Int) < (s.length : Int) := by omega
            obtain rfl : i = s.length := by omega
            have hod : s.any odd = false := by
              rw [List.any_eq_false]
              intro x hx
              obtain ⟨j, hj, rfl⟩ := List.getElem_of_mem hx
              rw [hA.out j hj hj]
              simp
            have hP1 := Lib.hid ((kParse_any s m w2 (by omega) hod HX.out (HMw.out w2 HB2.out)).mono fun e w' hh => HANY.out _ _ _ hh)
            have hwl := PS.wide_len s
            have hP2 : Hid (∀ y : World, Below w.heap.size w y → Calls Tryd.prog 16 #[.string ⟨(PS.wide s).toArray⟩] y fun e w' => ∃ v, e = .returned (.tuple #[v, .int .i64 ER]) ∧ IsCmd w' v K T N ∧ Below y.heap.size y w') := fun y hy => by
              have := kParse_any (PS.wide s) m y (by omega) (PS.wide_any odd (by decide) hod) (by rw [PS.words_wide]; exact HX.out) (HMw.out y hy)
              rw [PS.words_wide] at this
              exact this.mono fun e w' hh => HANY.out _ _ _ hh
            have hfl := PS.flat_words s
            clear hA hod hg hi hlt
            go_wp2_with fail
            refine hP1.out.mono ?_
            rintro e w3 ⟨v3, rfl, hc3, hb3⟩
            have HC3 := Lib.hid hc3
            have HB3 := Lib.hid (Below.of HB2.out hb3)
            have HS3 := Lib.hid (HS.out.mono hb3)
            obtain ⟨n3, rfl, hn3, _⟩ := hc3
            obtain ⟨a3, c3, rfl, _⟩ := hn3.open_
            obtain ⟨X, hX⟩ : ∃ X, X = w3.alloc (.cells #[.int .i64 K, .slice a3 N.length c3, .string ⟨T.toArray⟩] 41) := ⟨_, rfl⟩
            have bX : Below w3.heap.size w3 X := by rw [hX]; exact (Below.refl _ _).alloc (Nat.le_refl _) _
            have rX : RowL 41 X w3.heap.size [.int .i64 K, .slice a3 N.length c3, .string ⟨T.toArray⟩] := by
              have := RowL.new (T := 41) w3 [.int .i64 K, .slice a3 N.length c3, .string ⟨T.toArray⟩]; rw [← hX] at this; exact this
            have HX1 := Lib.hid hX
            have RX := Lib.hid rX
            have HBX := Lib.hid (Below.of HB3.out bX)
            have hJ := Lib.hid (r01Join_any (PS.words s) _ X (HS3.out.mono bX) (by omega))
            have HCX := Lib.hid (HC3.out.mono bX)
            clear bX rX hX hn3 hb3 HS HS3 hP1
            have k1 : (⟨#[32, 32]⟩ : ByteArray) ++ ⟨(PS.jn [32, 32, 32] (PS.words s)).toArray⟩ = ⟨([32, 32] ++ PS.jn [32, 32, 32] (PS.words s)).toArray⟩ := cat_eqK [32, 32] _
            have k2 : (⟨([32, 32] ++ PS.jn [32, 32, 32] (PS.words s)).toArray⟩ : ByteArray) ++ ⟨#[32]⟩ = ⟨(PS.wide s).toArray⟩ := cat_eqK ([32, 32] ++ PS.jn [32, 32, 32] (PS.words s)) [32]
            have jl := PS.jn_len [32, 32, 32] rfl (PS.words s)
            obtain ⟨J, hJe⟩ : ∃ J, J = PS.jn [32, 32, 32] (PS.words s) := ⟨_, rfl⟩
            obtain ⟨J2, hJ2⟩ : ∃ J2, J2 = [32, 32] ++ J := ⟨_, rfl⟩
            obtain ⟨J3, hJ3⟩ : ∃ J3, J3 = PS.wide s := ⟨_, rfl⟩
            rw [← hJe, ← hJ2] at k1
            rw [← hJe, ← hJ2, ← hJ3] at k2
            rw [← hJe] at hJ jl
            rw [← hJ3] at hP2
            have l2 : J2.length = 2 + J.length := by rw [hJ2]; simp; omega
            have m1 : ¬ 9223372036854775807 < 2 + J.length := by omega
            have m2 : ¬ 9223372036854775807 < J2.length + 1 := by omega
            clear hJe hJ2 hJ3 jl l2 hfl hwl
            go_wp2_with fail
            rw [← HX1.out]
            refine hJ.out.mono ?_
            rintro e w4 ⟨rfl, hw4⟩
            subst hw4
            go_wp2_with fail
            refine (hP2.out X HBX.out).mono ?_
            rintro e w5 ⟨v5, rfl, hc5, hb5⟩
            have HC5 := Lib.hid hc5
            obtain ⟨n5, rfl, hn5, _⟩ := hc5
            obtain ⟨a5, c5, rfl, _⟩ := hn5.open_
            have R5 := Lib.hid (RX.out.mono hb5)
            obtain ⟨X2, hX2⟩ : ∃ X2, X2 = w5.alloc (.cells #[.int .i64 K, .slice a5 N.length c5, .string ⟨T.toArray⟩] 41) := ⟨_, rfl⟩
            have bX2 : Below w5.heap.size w5 X2 := by rw [hX2]; exact (Below.refl _ _).alloc (Nat.le_refl _) _
            have rX2 : RowL 41 X2 w5.heap.size [.int .i64 K, .slice a5 N.length c5, .string ⟨T.toArray⟩] := by
              have := RowL.new (T := 41) w5 [.int .i64 K, .slice a5 N.length c5, .string ⟨T.toArray⟩]; rw [← hX2] at this; exact this
            have HX2 := Lib.hid hX2
            have r1 := R5.out.mono bX2
            have hSm := Lib.hid (same32_any K T N _ _ X2 (HCX.out.mono (Below.of hb5 bX2)) (HC5.out.mono bX2))
            have HB5 := Lib.hid (Below.of HBX.out (Below.of hb5 bX2))
            have q0 := r1.cell 0 _ rfl
            have q1 := r1.cell 1 _ rfl
            have q2 := r1.cell 2 _ rfl
            have z0 := rX2.cell 0 _ rfl
            have z1 := rX2.cell 1 _ rfl
            have z2 := rX2.cell 2 _ rfl
            rw [hX2] at q0 q1 q2 z0 z1 z2
            have eER : (ER == ER) = true := by simp
            clear hn5 hb5 bX2 rX2 hX2 r1 R5 k1 k2 m1 m2
            go_wp2_with fail
            rw [← HX2.out]
            refine hSm.out.mono ?_
            rintro e w7 ⟨rfl, hb7⟩
            clear q0 q1 q2 z0 z1 z2
            go_wp2_with fail
            go_ret
            exact ⟨by first | rfl | simp, Below.of HB5.out hb7⟩

end Go.Proofs.YtjcaejdokillgaaDoor
