/- Contract: a text's circuit. -/
import Derived.Test.YtjcaejdokillgaaDoorZJ9
import Derived.Test.YtjcaejdokillgaaDoorZC6
namespace Go.Proofs.YtjcaejdokillgaaDoor
open Go.RowKit Go.Shelf
attribute [local simp] mk_get

set_option maxRecDepth 100000 in
set_option maxHeartbeats 16000000 in
theorem jParse_short (s : List UInt8) (m : Int) (w : World) (hs : s.length ≤ 65536) (hm : w.cell? ⟨0, 0, none⟩ = some (.int .i64 m)) : Calls Tryd.prog 12 #[.string ⟨s.toArray⟩] w (PTo s w) := by
  have hmf : ∀ (fn : Fn) (first cap : Array Value) (w : World), (Instr.makeFunc fn first cap).run Tryd.prog w = .ok (.func fn first cap) w := fun _ _ _ _ => rfl
  have hz : (s.length : Int) ≤ 65536 := by omega
  have hz2 : ¬ (65536 : Int) < (s.length : Int) := by omega
  have HS := Lib.hid hs
  have HM := Lib.hid hm
  clear hs hm
  go_enter_defers Tryd.func12, Tryd.ntmps12
  go_wp2_with fail
  obtain ⟨b, hb⟩ : ∃ b, b = w.heap.size := ⟨_, rfl⟩
  obtain ⟨V1, hV1⟩ : ∃ V, V = w.alloc (.cells #[.int .i64 0, .slice none 0 0, .slice none 0 0, .slice none 0 0, .slice none 0 0, .slice none 0 0, .slice none 0 0, .slice none 0 0] 27) := ⟨_, rfl⟩
  obtain ⟨V2, hV2⟩ : ∃ V, V = V1.alloc (.cells #[.int .i64 0] 3) := ⟨_, rfl⟩
  obtain ⟨V3, hV3⟩ : ∃ V, V = V2.alloc (.cells #[.int .i64 0] 29) := ⟨_, rfl⟩
  obtain ⟨V4, hV4⟩ : ∃ V, V = V3.alloc (.cells #[.string ⟨s.toArray⟩, .int .i64 0] 81) := ⟨_, rfl⟩
  have e1 : V1.heap.size = b + 1 := by rw [hV1, hb]; simp
  have e2 : V2.heap.size = b + 2 := by rw [hV2]; simp [e1]
  have e3 : V3.heap.size = b + 3 := by rw [hV3]; simp [e2]
  have e4 : V4.heap.size = b + 4 := by rw [hV4]; simp [e3]
  have b1 : Below w.heap.size w V1 := by rw [hV1]; exact (Below.refl _ _).alloc (Nat.le_refl _) _
  have b2 : Below V1.heap.size V1 V2 := by rw [hV2]; exact (Below.refl _ _).alloc (Nat.le_refl _) _
  have b3 : Below V2.heap.size V2 V3 := by rw [hV3]; exact (Below.refl _ _).alloc (Nat.le_refl _) _
  have b4 : Below V3.heap.size V3 V4 := by rw [hV4]; exact (Below.refl _ _).alloc (Nat.le_refl _) _
  have hst : StJ w V4 b zero8 := by
    refine ⟨?_, ?_, ?_, Below.of (Below.of (Below.of b1 b2) b3) b4⟩
    · have := RowL.new (T := 27) w zero8; rw [← hV1, ← hb] at this; exact ((this.mono b2).mono b3).mono b4
    · have := RowL.new (T := 3) V1 [.int .i64 0]; rw [← hV2, e1] at this; exact (this.mono b3).mono b4
    · have := RowL.new (T := 29) V2 [.int .i64 0]; rw [← hV3, e2] at this; exact this.mono b4
  have hrd : Rd V4 (b + 3) s 0 := by have := RowL.new (T := 81) V3 [.string ⟨s.toArray⟩, .int .i64 0]; rw [← hV4, e3] at this; exact this
  have hm4 : V4.cell? ⟨0, 0, none⟩ = some (.int .i64 m) := (hst.2.2.2.cell (World.block_lt_of_cell? w _ HM.out)).trans HM.out
  have hV : ((((w.alloc (.cells #[.int .i64 0, .slice none 0 0, .slice none 0 0, .slice none 0 0, .slice none 0 0, .slice none 0 0, .slice none 0 0, .slice none 0 0] 27)).alloc (.cells #[.int .i64 0] 3)).alloc (.cells #[.int .i64 0] 29)).alloc (.cells #[.string ⟨s.toArray⟩, .int .i64 0] 81)) = V4 := by rw [hV4, hV3, hV2, hV1]
  have hwb : w.heap.size ≤ b := by omega
  obtain ⟨r, hr⟩ : ∃ r, r = b + 3 := ⟨_, rfl⟩
  rw [hV, show w.heap.size + 1 + 1 + 1 = r from by omega, show w.heap.size + 1 + 1 = b + 2 from by omega, show w.heap.size + 1 = b + 1 from by omega, ← hb]
  rw [← hr] at hrd
  have hr0 : r ≠ 0 := by omega
  have hbr : b + 2 < r := by omega
  clear e1 e2 e3 b1 b2 b3 b4 hV hV1 hV2 hV3 hV4
  have HWB := Lib.hid hwb
  have HST := Lib.hid hst
  have HRD := Lib.hid hrd
  have HM4 := Lib.hid hm4
  have HB := Lib.hid hb
  have HBR := Lib.hid hbr
  have HR := Lib.hid hr
  have E4 := Lib.hid e4
  have hdoor : Hid (∀ (y : World) (tmps : Array Value) (v : Value) (cs : List Value), tmps[2]? = some (.pointer (some ⟨b, 0, none⟩)) → tmps[3]? = some (.pointer (some ⟨b + 1, 0, none⟩)) → tmps[4]? = some (.pointer (some ⟨b + 2, 0, none⟩)) → fltV v → cs.length = 8 → StJ w y b cs → PJ.parse s = none →
      bodyPostD Tryd.prog Tryd.f12 (PTo s w) (.panic [{ v := v, recovered := false }])
        { tmps := tmps, defers := [{ target := .fn (.func 31) #[.pointer (some ⟨b, 0, none⟩), .pointer (some ⟨b + 1, 0, none⟩), .pointer (some ⟨b + 2, 0, none⟩)], args := #[] }] } y) :=
    fun y tmps v cs t2 t3 t4 hv hcs hst hno => jDoor_no s b w y tmps v cs _ _ t2 t3 t4 hv hcs hst.1 hst.2.1 hst.2.2.1 hst.2.2.2 HWB.out (.inr hno)
  clear hst hrd hm4 hb hr e4 hwb hbr
  cases hl : PR.lineN PJ.hW 7 7 s with
  | none =>
    refine (jHead_any r s 0 m V4 HRD.out HS.out HM4.out hr0 (by omega)).mono ?_
    intro e w1 hN
    obtain ⟨v, rfl, hv, hg1⟩ := hN.none hl
    exact hdoor.out _ _ _ zero8 rfl rfl rfl hv rfl (HST.out.grown hg1 HBR.out HWB.out) (PJ.parse_no0 hl)
  | some x =>
    obtain ⟨n, q0⟩ := x
    refine (jHead_any r s 0 m V4 HRD.out HS.out HM4.out hr0 (by omega)).mono ?_
    intro e w1 hN
    obtain ⟨v, rfl, hv, hR1, hg1⟩ := hN.some hl
    obtain ⟨hn7, hnj, hM0, hM1⟩ := PJ.head_nums hl
    have hq0 : q0.length ≤ 65536 := by have := PR.lineN_lt hl; have := HS.out; omega
    have hv1 := hv.1
    rw [hn7] at hv1
    obtain ⟨g6, c6, rfl, hgB, hgs, _⟩ := owns_some hv1 (by omega)
    have hgr : g6 ≠ r := by have := E4.out; have := HR.out; omega
    have hgb : g6 ≠ b := by have := E4.out; have := HR.out; omega
    have hcell : ∀ j (hj : j < 7), w1.cell? ⟨g6, j, none⟩ = some (.int .i64 (n[j]'(by omega))) := fun j hj => by
      have := hv1.cellAt j (by omega)
      rw [this]
      simp [hn7, hj]
    have hcn : ∀ j (hj : j < 7), w1.cell? ⟨g6, j, none⟩ = some (.int .i64 (PJ.nth n j : Int)) := fun j hj => by rw [hcell j hj, (hnj j (by omega)).1]
    have hc0 : w1.cell? ⟨g6, 0, none⟩ = some (.int .i64 (n.getD 0 0)) := by
      rw [hcell 0 (by omega), List.getD_eq_getElem?_getD, List.getElem?_eq_getElem (by omega : 0 < n.length)]
      rfl
    have hle : ∀ j, j < 7 → PJ.nth n j ≤ 1099511627776 := fun j hj => (hnj j (by omega)).2
    have HL := Lib.hid hl
    have HG1 := Lib.hid hg1
    have HST1 := Lib.hid (HST.out.grown hg1 HBR.out HWB.out)
    have HRD1 : Hid (Rd w1 r q0 1) := by show Rd _ _ _ _; simpa using hR1
    have HM1 := Lib.hid (grownBy_cell hg1 HM4.out (Ne.symm hr0))
    have HQ0 := Lib.hid hq0
    have HMx := Lib.hid (And.intro hM0 hM1)
    have HN0 : Hid (∀ y, w1.grownBy y (some r) → y.cell? ⟨g6, 0, none⟩ = some (.int .i64 (n.getD 0 0))) := fun y hy => grownBy_cell hy hc0 hgr
    have HNj : Hid (∀ j, j < 7 → ∀ y, w1.grownBy y (some r) → y.cell? ⟨g6, j, none⟩ = some (.int .i64 (PJ.nth n j : Int))) := fun j hj y hy => grownBy_cell hy (hcn j hj) hgr
    have HLE := Lib.hid hle
    have HGB := Lib.hid (And.intro hgr hgb)
    have HGS := Lib.hid hgs
    have HBs : Hid (b < w1.heap.size) := HST1.out.1.lt
    clear hl hN hv hR1 hg1 hn7 hnj hM0 hM1 hq0 hv1 hgB hgs hgr hgb hcell hcn hc0 hle HST HRD HM4
    obtain ⟨n1, hn1⟩ : ∃ k, k = PJ.nth n 1 := ⟨_, rfl⟩
    obtain ⟨n2, hn2⟩ : ∃ k, k = PJ.nth n 2 := ⟨_, rfl⟩
    obtain ⟨n3, hn3⟩ : ∃ k, k = PJ.nth n 3 := ⟨_, rfl⟩
    obtain ⟨M, hM⟩ : ∃ k, k = n.getD 0 0 := ⟨_, rfl⟩
    have HE1 := Lib.hid hn1
    have HE2 := Lib.hid hn2
    have HE3 := Lib.hid hn3
    have HEM := Lib.hid hM
    rw [← hM] at HN0
    have HN1 := Lib.hid (HNj.out 1 (by decide))
    have HN2 := Lib.hid (HNj.out 2 (by decide))
    have HN3 := Lib.hid (HNj.out 3 (by decide))
    rw [← hn1] at HN1
    rw [← hn2] at HN2
    rw [← hn3] at HN3
    clear hn1 hn2 hn3 hM
    go_wp2_with fail
    obtain ⟨W1, hW1⟩ : ∃ W, W = w1 := ⟨_, rfl⟩
    subst hW1
    refine wp_region_fails 18 (fun ch y => PJ.parse s = none ∧ (∃ v, fltV v ∧ ch = [{ v := v, recovered := false }]) ∧ W1.grownBy y (some r)) [7, 12, 17] ([some (.slice (some ⟨g6, 0, none⟩) 7 c6), some (.pointer (some ⟨g6, 0, none⟩)), some (.int .i64 M), some (.pointer (some ⟨r, 0, none⟩)), some (.slice (some ⟨g6, 0, none⟩) 7 c6), some (.pointer (some ⟨g6, 1, none⟩)), some (.int .i64 (n1 : Int)), none, some (.pointer (some ⟨r, 0, none⟩)), some (.slice (some ⟨g6, 0, none⟩) 7 c6), some (.pointer (some ⟨g6, 2, none⟩)), some (.int .i64 (n2 : Int)), none, some (.pointer (some ⟨r, 0, none⟩)), some (.slice (some ⟨g6, 0, none⟩) 7 c6), some (.pointer (some ⟨g6, 3, none⟩)), some (.int .i64 (n3 : Int)), none].map isO)
      (D6 r W1.heap.size W1 n1 n2 n3 q0 1) [some 17, some 18, some 19, some 20, some 21, some 22, some 23, some 24, some 25, some 26, some 27, some 28, some 29, some 30, some 31, some 32, some 33, some 34] (by kernel_rfl) (by kernel_rfl) rfl (keeps_isO _)
      ⟨grownBy_drew (World.grownBy.refl _ _), .inl ⟨rfl, HRD1.out.drew⟩⟩ (fun bs vs vs' y y' hv hb h => D6.mono hv hb h) (by decide)
      (fun ch a' y' hd ht hf => by
        obtain ⟨hno, ⟨v, hv, rfl⟩, hg⟩ := hf
        obtain ⟨tm, df⟩ := a'
        subst hd
        exact hdoor.out y' tm v zero8 (ht 2 (of_decide_eq_true (by kernel_rfl))) (ht 3 (of_decide_eq_true (by kernel_rfl))) (ht 4 (of_decide_eq_true (by kernel_rfl))) hv rfl (HST1.out.grown hg HBR.out HWB.out) hno) ?_ ?_
    · refine ⟨fun s' vs Y h1 h2 h3 hy hd => ?_, fun s' vs Y h1 h2 h3 hy hd => ?_, fun s' vs Y h1 h2 h3 hy hd => ?_, fun s' vs Y h1 h2 h3 hy hd => ?_, fun s' vs Y h1 h2 h3 hy hd => ?_, fun s' vs Y h1 h2 h3 hy hd => ?_, fun s' vs Y h1 h2 h3 hy hd => ?_, fun s' vs Y h1 h2 h3 hy hd => ?_, fun s' vs Y h1 h2 h3 hy hd => ?_, fun s' vs Y h1 h2 h3 hy hd => ?_, fun s' vs Y h1 h2 h3 hy hd => ?_, fun s' vs Y h1 h2 h3 hy hd => ?_, fun s' vs Y h1 h2 h3 hy hd => ?_, fun s' vs Y h1 h2 h3 hy hd => ?_, fun s' vs Y h1 h2 h3 hy hd => ?_, fun s' vs Y h1 h2 h3 hy hd => ?_, fun s' vs Y h1 h2 h3 hy hd => ?_, fun s' vs Y h1 h2 h3 hy hd => ?_, trivial⟩
      · (simp only [opens]; try simp only [Nat.reduceAdd])
        go_wp2_with fail
        exact ⟨_, rfl, rfl, Below.refl _ _⟩
      · have g0 : vs 0 = .slice (some ⟨g6, 0, none⟩) 7 c6 := hd 0 (by decide) (by kernel_rfl)
        (simp only [opens]; try simp only [Nat.reduceAdd])
        rw [g0]
        go_wp2_with fail
        exact ⟨_, rfl, rfl, Below.refl _ _⟩
      · have g0 : vs 1 = .pointer (some ⟨g6, 0, none⟩) := hd 1 (by decide) (by kernel_rfl)
        have hc := HN0.out Y hy.1
        (simp only [opens]; try simp only [Nat.reduceAdd])
        rw [g0]
        go_wp2_with fail
        exact ⟨_, rfl, rfl, Below.refl _ _⟩
      · (simp only [opens]; try simp only [Nat.reduceAdd])
        go_wp2_with fail
        exact ⟨_, rfl, rfl, Below.refl _ _⟩
      · (simp only [opens]; try simp only [Nat.reduceAdd])
        go_wp2_with fail
        exact ⟨_, rfl, rfl, Below.refl _ _⟩
      · have g0 : vs 4 = .slice (some ⟨g6, 0, none⟩) 7 c6 := hd 4 (by decide) (by kernel_rfl)
        (simp only [opens]; try simp only [Nat.reduceAdd])
        rw [g0]
        go_wp2_with fail
        exact ⟨_, rfl, rfl, Below.refl _ _⟩
      · have g0 : vs 5 = .pointer (some ⟨g6, 1, none⟩) := hd 5 (by decide) (by kernel_rfl)
        have hc := HN1.out Y hy.1
        (simp only [opens]; try simp only [Nat.reduceAdd])
        rw [g0]
        go_wp2_with fail
        exact ⟨_, rfl, rfl, Below.refl _ _⟩
      · have g0 : vs 3 = .pointer (some ⟨r, 0, none⟩) := hd 3 (by decide) (by kernel_rfl)
        have g1 : vs 6 = .int .i64 (n1 : Int) := hd 6 (by decide) (by kernel_rfl)
        obtain ⟨hR, x12, x17⟩ := hy.at0 h1
        have hC := Lib.hid (jList_any n1 r q0 1 m Y hR HQ0.out (grownBy_cell hy.1 HM1.out (Ne.symm hr0)) hr0 (by have := HQ0.out; omega) (by rw [HE1.out]; exact HLE.out 1 (by decide)))
        have hgy := Lib.hid hy.1
        have hX := Lib.hid (And.intro h1 (And.intro x12 x17))
        have hBY : Hid (W1.heap.size ≤ Y.heap.size) := hy.1.size
        clear hy hR h1 h2 h3 x12 x17 hd
        (simp only [opens]; try simp only [Nat.reduceAdd])
        rw [g0, g1]
        go_wp2_with (go_at_call 33; refine hC.out.mono ?_; rintro e w4 ⟨hg4, ⟨l, q, v, hm1, rfl, hown, hR4, hql⟩ | ⟨hno, fv, hfv, rfl⟩⟩)
        · exact ⟨_, rfl, trivial, ⟨grownBy_two hgy.out hg4 (fun j e => .inr (Option.some.inj e).symm), .inr (.inl ⟨by rw [hX.out.2.1, hX.out.2.2], l, q, hm1, hown.base hBY.out, hR4, hql⟩)⟩, fun j _ _ h => facts_isO [some (.slice (some ⟨g6, 0, none⟩) 7 c6), some (.pointer (some ⟨g6, 0, none⟩)), some (.int .i64 M), some (.pointer (some ⟨r, 0, none⟩)), some (.slice (some ⟨g6, 0, none⟩) 7 c6), some (.pointer (some ⟨g6, 1, none⟩)), some (.int .i64 (n1 : Int)), none, some (.pointer (some ⟨r, 0, none⟩)), some (.slice (some ⟨g6, 0, none⟩) 7 c6), some (.pointer (some ⟨g6, 2, none⟩)), some (.int .i64 (n2 : Int)), none, some (.pointer (some ⟨r, 0, none⟩)), some (.slice (some ⟨g6, 0, none⟩) 7 c6), some (.pointer (some ⟨g6, 3, none⟩)), some (.int .i64 (n3 : Int)), none] _ _ _ _ h⟩
        · exact ⟨PJ.parse_no1 HL.out (by rw [← HE1.out]; exact hno), ⟨fv, hfv, rfl⟩, grownBy_two hgy.out hg4 (fun j e => .inr (Option.some.inj e).symm)⟩
      · (simp only [opens]; try simp only [Nat.reduceAdd])
        go_wp2_with fail
        exact ⟨_, rfl, rfl, Below.refl _ _⟩
      · (simp only [opens]; try simp only [Nat.reduceAdd])
        go_wp2_with fail
        exact ⟨_, rfl, rfl, Below.refl _ _⟩
      · have g0 : vs 9 = .slice (some ⟨g6, 0, none⟩) 7 c6 := hd 9 (by decide) (by kernel_rfl)
        (simp only [opens]; try simp only [Nat.reduceAdd])
        rw [g0]
        go_wp2_with fail
        exact ⟨_, rfl, rfl, Below.refl _ _⟩
      · have g0 : vs 10 = .pointer (some ⟨g6, 2, none⟩) := hd 10 (by decide) (by kernel_rfl)
        have hc := HN2.out Y hy.1
        (simp only [opens]; try simp only [Nat.reduceAdd])
        rw [g0]
        go_wp2_with fail
        exact ⟨_, rfl, rfl, Below.refl _ _⟩
      · have g0 : vs 8 = .pointer (some ⟨r, 0, none⟩) := hd 8 (by decide) (by kernel_rfl)
        have g1 : vs 11 = .int .i64 (n2 : Int) := hd 11 (by decide) (by kernel_rfl)
        have e7 : s' 7 = true := h2 7 (by kernel_rfl)
        obtain ⟨x17, l1, q1, hm0, ho1, hR, hql1⟩ := hy.at1 e7 h1
        have hC := Lib.hid (jLatches_any n2 r q1 (1 + n1) m Y hR (by have := HQ0.out; omega) (grownBy_cell hy.1 HM1.out (Ne.symm hr0)) hr0 (by have := HQ0.out; omega) (by rw [HE2.out]; exact HLE.out 2 (by decide)))
        have hgy := Lib.hid hy.1
        have hX := Lib.hid (And.intro e7 x17)
        have hO := Lib.hid (And.intro hm0 (And.intro ho1 (And.intro hR hql1)))
        have hBY : Hid (W1.heap.size ≤ Y.heap.size) := hy.1.size
        clear hy hR h1 h2 h3 x17 e7 hm0 ho1 hql1 hd
        (simp only [opens]; try simp only [Nat.reduceAdd])
        rw [g0, g1]
        go_wp2_with (go_at_call 34; refine hC.out.mono ?_; rintro e w4 ⟨hg4, ⟨l, q, v, hm1, rfl, hown, hR4, hql⟩ | ⟨hno, fv, hfv, rfl⟩⟩)
        · exact ⟨_, rfl, trivial, ⟨grownBy_two hgy.out hg4 (fun j e => .inr (Option.some.inj e).symm), .inr (.inr (.inl ⟨by rw [hX.out.1, hX.out.2], l1, q1, l, q, hO.out.1, hm1, hO.out.2.1.kept hg4 hO.out.2.2.1 (by decide), hown.base hBY.out, hR4, by have := hO.out.2.2.2; omega⟩))⟩, fun j _ _ h => facts_isO [some (.slice (some ⟨g6, 0, none⟩) 7 c6), some (.pointer (some ⟨g6, 0, none⟩)), some (.int .i64 M), some (.pointer (some ⟨r, 0, none⟩)), some (.slice (some ⟨g6, 0, none⟩) 7 c6), some (.pointer (some ⟨g6, 1, none⟩)), some (.int .i64 (n1 : Int)), none, some (.pointer (some ⟨r, 0, none⟩)), some (.slice (some ⟨g6, 0, none⟩) 7 c6), some (.pointer (some ⟨g6, 2, none⟩)), some (.int .i64 (n2 : Int)), none, some (.pointer (some ⟨r, 0, none⟩)), some (.slice (some ⟨g6, 0, none⟩) 7 c6), some (.pointer (some ⟨g6, 3, none⟩)), some (.int .i64 (n3 : Int)), none] _ _ _ _ h⟩
        · exact ⟨PJ.parse_no2 HL.out (by rw [← HE1.out]; exact hO.out.1) (by rw [← HE2.out]; exact hno), ⟨fv, hfv, rfl⟩, grownBy_two hgy.out hg4 (fun j e => .inr (Option.some.inj e).symm)⟩
      · (simp only [opens]; try simp only [Nat.reduceAdd])
        go_wp2_with fail
        exact ⟨_, rfl, rfl, Below.refl _ _⟩
      · (simp only [opens]; try simp only [Nat.reduceAdd])
        go_wp2_with fail
        exact ⟨_, rfl, rfl, Below.refl _ _⟩
      · have g0 : vs 14 = .slice (some ⟨g6, 0, none⟩) 7 c6 := hd 14 (by decide) (by kernel_rfl)
        (simp only [opens]; try simp only [Nat.reduceAdd])
        rw [g0]
        go_wp2_with fail
        exact ⟨_, rfl, rfl, Below.refl _ _⟩
      · have g0 : vs 15 = .pointer (some ⟨g6, 3, none⟩) := hd 15 (by decide) (by kernel_rfl)
        have hc := HN3.out Y hy.1
        (simp only [opens]; try simp only [Nat.reduceAdd])
        rw [g0]
        go_wp2_with fail
        exact ⟨_, rfl, rfl, Below.refl _ _⟩
      · have g0 : vs 13 = .pointer (some ⟨r, 0, none⟩) := hd 13 (by decide) (by kernel_rfl)
        have g1 : vs 16 = .int .i64 (n3 : Int) := hd 16 (by decide) (by kernel_rfl)
        have e12 : s' 12 = true := h2 12 (by kernel_rfl)
        obtain ⟨e7, l1, q1, l2, q2, hm0, hm2, ho1, ho2, hR, hql1⟩ := hy.at2 e12 h1
        have hC := Lib.hid (jList_any n3 r q2 (1 + n1 + n2) m Y hR (by have := HQ0.out; omega) (grownBy_cell hy.1 HM1.out (Ne.symm hr0)) hr0 (by have := HQ0.out; omega) (by rw [HE3.out]; exact HLE.out 3 (by decide)))
        have hgy := Lib.hid hy.1
        have hX := Lib.hid (And.intro e7 e12)
        have hO := Lib.hid (And.intro hm0 (And.intro hm2 (And.intro ho1 (And.intro ho2 (And.intro hR hql1)))))
        have hBY : Hid (W1.heap.size ≤ Y.heap.size) := hy.1.size
        clear hy hR h1 h2 h3 e12 e7 hm0 hm2 ho1 ho2 hql1 hd
        (simp only [opens]; try simp only [Nat.reduceAdd])
        rw [g0, g1]
        go_wp2_with (go_at_call 33; refine hC.out.mono ?_; rintro e w4 ⟨hg4, ⟨l, q, v, hm1, rfl, hown, hR4, hql⟩ | ⟨hno, fv, hfv, rfl⟩⟩)
        · exact ⟨_, rfl, trivial, ⟨grownBy_two hgy.out hg4 (fun j e => .inr (Option.some.inj e).symm), .inr (.inr (.inr ⟨by rw [hX.out.1, hX.out.2], l1, q1, l2, q2, l, q, hO.out.1, hO.out.2.1, hm1, hO.out.2.2.1.kept hg4 hO.out.2.2.2.2.1 (by decide), hO.out.2.2.2.1.kept hg4 hO.out.2.2.2.2.1 (by decide), hown.base hBY.out, hR4, by have := hO.out.2.2.2.2.2; omega⟩))⟩, fun j _ _ h => facts_isO [some (.slice (some ⟨g6, 0, none⟩) 7 c6), some (.pointer (some ⟨g6, 0, none⟩)), some (.int .i64 M), some (.pointer (some ⟨r, 0, none⟩)), some (.slice (some ⟨g6, 0, none⟩) 7 c6), some (.pointer (some ⟨g6, 1, none⟩)), some (.int .i64 (n1 : Int)), none, some (.pointer (some ⟨r, 0, none⟩)), some (.slice (some ⟨g6, 0, none⟩) 7 c6), some (.pointer (some ⟨g6, 2, none⟩)), some (.int .i64 (n2 : Int)), none, some (.pointer (some ⟨r, 0, none⟩)), some (.slice (some ⟨g6, 0, none⟩) 7 c6), some (.pointer (some ⟨g6, 3, none⟩)), some (.int .i64 (n3 : Int)), none] _ _ _ _ h⟩
        · exact ⟨PJ.parse_no3 HL.out (by rw [← HE1.out]; exact hO.out.1) (by rw [← HE2.out]; exact hO.out.2.1) (by rw [← HE3.out]; exact hno), ⟨fv, hfv, rfl⟩, grownBy_two hgy.out hg4 (fun j e => .inr (Option.some.inj e).symm)⟩
    intro vs Y hy hf
    have e2 : vs 2 = .int .i64 M := hf 2 (by decide)
    obtain ⟨hgY, l1, q1, l2, q2, l3, q3, m1, m2, m3, o1, o2, o3, hRY, hlY⟩ := hy.at3
    simp only [opens, List.drop_succ_cons, List.drop_zero]
    try simp only [Nat.reduceAdd]
    rw [e2]
    clear hf e2 hy
    generalize vs 7 = v1 at *
    generalize vs 12 = v2 at *
    generalize vs 17 = v3 at *
    obtain ⟨a1, k1, rfl⟩ := owned_slice' o1.1
    obtain ⟨a2, k2, rfl⟩ := owned_slice' o2.1
    obtain ⟨a3, k3, rfl⟩ := owned_slice' o3.1
    have hsY := HST1.out.grown hgY HBR.out HWB.out
    refine wpList_build rfl 27 _ rfl (by kernel_rfl) ?_
    refine wpList_row rfl 27 _ _ rfl b [.int .i64 M, .slice a1 l1.length k1, .slice a2 l2.length k2, .slice a3 l3.length k3, .slice none 0 0, .slice none 0 0, .slice none 0 0, .slice none 0 0] rfl (by kernel_rfl) hsY.1 (by kernel_rfl) rfl (by kernel_rfl) ?_
    intro Z hZ hgZ
    have hb0 : Hid (b ≠ 0) := by show b ≠ 0; have := World.block_lt_of_cell? w _ HM.out; have := HB.out; simp only at *; omega
    have ST2 := Lib.hid (hsY.put hgZ hZ HWB.out)
    have O1 := Lib.hid (o1.kept hgZ hsY.1 (by decide))
    have O2 := Lib.hid (o2.kept hgZ hsY.1 (by decide))
    have O3 := Lib.hid (o3.kept hgZ hsY.1 (by decide))
    have R2 := Lib.hid (hRY.grown hgZ (fun e => by have := Option.some.inj e; have := HBR.out; omega))
    have HNZ : Hid (∀ j, j < 7 → ∀ y, Z.grownBy y (some r) → y.cell? ⟨g6, j, none⟩ = some (.int .i64 (PJ.nth n j : Int))) := fun j hj y hy => grownBy_cell hy (grownBy_cell hgZ (HNj.out j hj Y hgY) HGB.out.2) HGB.out.1
    have HMZ := Lib.hid (grownBy_cell hgZ (grownBy_cell hgY HM1.out (Ne.symm hr0)) (Ne.symm hb0.out))
    have PG := Lib.hid (PJ.parse_go3 HL.out (by rw [← HE1.out]; exact m1) (by rw [← HE2.out]; exact m2) (by rw [← HE3.out]; exact m3))
    have L1 := Lib.hid (PJ.many_len _ _ _ _ _ m1)
    have L2 := Lib.hid (PJ.many_len _ _ _ _ _ m2)
    have L3 := Lib.hid (PJ.many_len _ _ _ _ _ m3)
    obtain ⟨A, hA⟩ : ∃ A : Int, A = 1 + n1 + n2 + n3 := ⟨_, rfl⟩
    have HA := Lib.hid hA
    have hA2 : Hid (0 ≤ A ∧ A + q3.length ≤ 70000 ∧ q3.length ≤ 65536) := by show _ ∧ _; have := HQ0.out; omega
    rw [← hA] at R2
    have HZs : Hid (b < Z.heap.size ∧ W1.heap.size ≤ Z.heap.size) := ⟨hZ.lt, Nat.le_trans hgY.size hgZ.size⟩
    have HGZ := Lib.hid (And.intro hgY hgZ)
    obtain ⟨n5, hn5⟩ : ∃ k, k = PJ.nth n 5 := ⟨_, rfl⟩
    obtain ⟨n6, hn6⟩ : ∃ k, k = PJ.nth n 6 := ⟨_, rfl⟩
    obtain ⟨n4, hn4⟩ : ∃ k, k = PJ.nth n 4 := ⟨_, rfl⟩
    have HE5 := Lib.hid hn5
    have HE6 := Lib.hid hn6
    have HE4 := Lib.hid hn4
    have HN5 := Lib.hid (HNZ.out 5 (by decide))
    have HN6 := Lib.hid (HNZ.out 6 (by decide))
    rw [← hn5] at HN5
    rw [← hn6] at HN6
    clear hZ hgZ hsY o1 o2 o3 hRY m1 m2 m3 hA hn5 hn6 hn4 hlY hgY HN0 HN1 HN2 HN3 HNj
    go_wp2_with fail
    obtain ⟨W2, hW2⟩ : ∃ W, W = Z := ⟨_, rfl⟩
    subst hW2
    refine wp_region_fails 13 (fun ch y => PJ.parse s = none ∧ (∃ v, fltV v ∧ ch = [{ v := v, recovered := false }]) ∧ W2.grownBy y (some r)) [4, 9, 11] ([some (.pointer (some ⟨r, 0, none⟩)), some (.slice (some ⟨g6, 0, none⟩) 7 c6), some (.pointer (some ⟨g6, 5, none⟩)), some (.int .i64 (n5 : Int)), none, some (.pointer (some ⟨r, 0, none⟩)), some (.slice (some ⟨g6, 0, none⟩) 7 c6), some (.pointer (some ⟨g6, 6, none⟩)), some (.int .i64 (n6 : Int)), none, some (.pointer (some ⟨b, 4, none⟩)), none, some (.pointer (some ⟨b, 5, none⟩))].map isO)
      (D7 r W2.heap.size b W2 n5 n6 q3 A [.int .i64 M, .slice a1 l1.length k1, .slice a2 l2.length k2, .slice a3 l3.length k3, .slice none 0 0, .slice none 0 0, .slice none 0 0, .slice none 0 0]) [some 36, some 37, some 38, some 39, some 40, some 41, some 42, some 43, some 44, some 45, some 46, none, some 47] (by kernel_rfl) (by kernel_rfl) rfl (keeps_isO _)
      (.inl ⟨rfl, grownBy_drew (World.grownBy.refl _ _), R2.out.drew⟩) (fun bs vs vs' y y' hv hb h => D7.mono hv hb h) (by decide)
      (fun ch a' y' hd ht hf => by
        obtain ⟨hno, ⟨v, hv, rfl⟩, hg⟩ := hf
        obtain ⟨tm, df⟩ := a'
        subst hd
        exact hdoor.out y' tm v [.int .i64 M, .slice a1 l1.length k1, .slice a2 l2.length k2, .slice a3 l3.length k3, .slice none 0 0, .slice none 0 0, .slice none 0 0, .slice none 0 0] (ht 2 (of_decide_eq_true (by kernel_rfl))) (ht 3 (of_decide_eq_true (by kernel_rfl))) (ht 4 (of_decide_eq_true (by kernel_rfl))) hv rfl (ST2.out.grown hg HBR.out HWB.out) hno) ?_ ?_
    · refine ⟨fun s' vs Y h1 h2 h3 hy hd => ?_, fun s' vs Y h1 h2 h3 hy hd => ?_, fun s' vs Y h1 h2 h3 hy hd => ?_, fun s' vs Y h1 h2 h3 hy hd => ?_, fun s' vs Y h1 h2 h3 hy hd => ?_, fun s' vs Y h1 h2 h3 hy hd => ?_, fun s' vs Y h1 h2 h3 hy hd => ?_, fun s' vs Y h1 h2 h3 hy hd => ?_, fun s' vs Y h1 h2 h3 hy hd => ?_, fun s' vs Y h1 h2 h3 hy hd => ?_, fun s' vs Y h1 h2 h3 hy hd => ?_, fun s' vs Y h1 h2 h3 hy hd => ?_, fun s' vs Y h1 h2 h3 hy hd => ?_, trivial⟩
      · (simp only [opens]; try simp only [Nat.reduceAdd])
        go_wp2_with fail
        exact ⟨_, rfl, rfl, Below.refl _ _⟩
      · (simp only [opens]; try simp only [Nat.reduceAdd])
        go_wp2_with fail
        exact ⟨_, rfl, rfl, Below.refl _ _⟩
      · have g0 : vs 1 = .slice (some ⟨g6, 0, none⟩) 7 c6 := hd 1 (by decide) (by kernel_rfl)
        (simp only [opens]; try simp only [Nat.reduceAdd])
        rw [g0]
        go_wp2_with fail
        exact ⟨_, rfl, rfl, Below.refl _ _⟩
      · have g0 : vs 2 = .pointer (some ⟨g6, 5, none⟩) := hd 2 (by decide) (by kernel_rfl)
        have hc := HN5.out Y (hy.at0 (h3 4 (by decide) (by kernel_rfl))).1
        (simp only [opens]; try simp only [Nat.reduceAdd])
        rw [g0]
        go_wp2_with fail
        exact ⟨_, rfl, rfl, Below.refl _ _⟩
      · have g0 : vs 0 = .pointer (some ⟨r, 0, none⟩) := hd 0 (by decide) (by kernel_rfl)
        have g1 : vs 3 = .int .i64 (n5 : Int) := hd 3 (by decide) (by kernel_rfl)
        obtain ⟨hgy, hR, x9, x11⟩ := hy.at0 h1
        have hC := Lib.hid (jList_any n5 r q3 A m Y hR (by have := hA2.out; omega) (grownBy_cell hgy HMZ.out (Ne.symm hr0)) hr0 (by have := hA2.out; omega) (by rw [HE5.out]; exact HLE.out 5 (by decide)))
        have hgy := Lib.hid hgy
        have hX := Lib.hid (And.intro x9 x11)
        have hBY : Hid (W2.heap.size ≤ Y.heap.size) := hgy.out.size
        clear hy hR h1 h2 h3 x9 x11 hd
        (simp only [opens]; try simp only [Nat.reduceAdd])
        rw [g0, g1]
        go_wp2_with (go_at_call 33; refine hC.out.mono ?_; rintro e w4 ⟨hg4, ⟨l, q, v, hm1, rfl, hown, hR4, hql⟩ | ⟨hno, fv, hfv, rfl⟩⟩)
        · exact ⟨_, rfl, trivial, .inr (.inl ⟨by rw [hX.out.1, hX.out.2], grownBy_two hgy.out hg4 (fun j e => .inr (Option.some.inj e).symm), l, q, hm1, hown.base hBY.out, hR4, hql⟩), fun j _ _ h => facts_isO [some (.pointer (some ⟨r, 0, none⟩)), some (.slice (some ⟨g6, 0, none⟩) 7 c6), some (.pointer (some ⟨g6, 5, none⟩)), some (.int .i64 (n5 : Int)), none, some (.pointer (some ⟨r, 0, none⟩)), some (.slice (some ⟨g6, 0, none⟩) 7 c6), some (.pointer (some ⟨g6, 6, none⟩)), some (.int .i64 (n6 : Int)), none, some (.pointer (some ⟨b, 4, none⟩)), none, some (.pointer (some ⟨b, 5, none⟩))] _ _ _ _ h⟩
        · exact ⟨by rw [PG.out, ← HE5.out, hno]; rfl, ⟨fv, hfv, rfl⟩, grownBy_two hgy.out hg4 (fun j e => .inr (Option.some.inj e).symm)⟩
      · (simp only [opens]; try simp only [Nat.reduceAdd])
        go_wp2_with fail
        exact ⟨_, rfl, rfl, Below.refl _ _⟩
      · (simp only [opens]; try simp only [Nat.reduceAdd])
        go_wp2_with fail
        exact ⟨_, rfl, rfl, Below.refl _ _⟩
      · have g0 : vs 6 = .slice (some ⟨g6, 0, none⟩) 7 c6 := hd 6 (by decide) (by kernel_rfl)
        (simp only [opens]; try simp only [Nat.reduceAdd])
        rw [g0]
        go_wp2_with fail
        exact ⟨_, rfl, rfl, Below.refl _ _⟩
      · have g0 : vs 7 = .pointer (some ⟨g6, 6, none⟩) := hd 7 (by decide) (by kernel_rfl)
        have hc := HN6.out Y (hy.at01 (h3 9 (by decide) (by kernel_rfl)))
        (simp only [opens]; try simp only [Nat.reduceAdd])
        rw [g0]
        go_wp2_with fail
        exact ⟨_, rfl, rfl, Below.refl _ _⟩
      · have g0 : vs 5 = .pointer (some ⟨r, 0, none⟩) := hd 5 (by decide) (by kernel_rfl)
        have g1 : vs 8 = .int .i64 (n6 : Int) := hd 8 (by decide) (by kernel_rfl)
        have e4 : s' 4 = true := h2 4 (by kernel_rfl)
        obtain ⟨hgy, x11, l4, q4, hm4, ho4, hR, hql4⟩ := hy.at1 e4 h1
        have hC := Lib.hid (jList_any n6 r q4 (A + n5) m Y hR (by have := hA2.out; omega) (grownBy_cell hgy HMZ.out (Ne.symm hr0)) hr0 (by have := hA2.out; omega) (by rw [HE6.out]; exact HLE.out 6 (by decide)))
        have hgy := Lib.hid hgy
        have hX := Lib.hid (And.intro e4 x11)
        have hO := Lib.hid (And.intro hm4 (And.intro ho4 (And.intro hR hql4)))
        have hBY : Hid (W2.heap.size ≤ Y.heap.size) := hgy.out.size
        clear hy hR h1 h2 h3 e4 x11 hm4 ho4 hql4 hd
        (simp only [opens]; try simp only [Nat.reduceAdd])
        rw [g0, g1]
        go_wp2_with (go_at_call 33; refine hC.out.mono ?_; rintro e w4 ⟨hg4, ⟨l, q, v, hm1, rfl, hown, hR4, hql⟩ | ⟨hno, fv, hfv, rfl⟩⟩)
        · exact ⟨_, rfl, trivial, .inr (.inr (.inl ⟨by rw [hX.out.1, hX.out.2], grownBy_two hgy.out hg4 (fun j e => .inr (Option.some.inj e).symm), l4, q4, l, q, hO.out.1, hm1, hO.out.2.1.kept hg4 hO.out.2.2.1 (by decide), hown.base hBY.out, hR4, by have := hO.out.2.2.2; omega⟩)), fun j _ _ h => facts_isO [some (.pointer (some ⟨r, 0, none⟩)), some (.slice (some ⟨g6, 0, none⟩) 7 c6), some (.pointer (some ⟨g6, 5, none⟩)), some (.int .i64 (n5 : Int)), none, some (.pointer (some ⟨r, 0, none⟩)), some (.slice (some ⟨g6, 0, none⟩) 7 c6), some (.pointer (some ⟨g6, 6, none⟩)), some (.int .i64 (n6 : Int)), none, some (.pointer (some ⟨b, 4, none⟩)), none, some (.pointer (some ⟨b, 5, none⟩))] _ _ _ _ h⟩
        · exact ⟨by rw [PG.out, ← HE5.out, hO.out.1]; simp only [Option.bind_some]; rw [← HE6.out, hno]; rfl, ⟨fv, hfv, rfl⟩, grownBy_two hgy.out hg4 (fun j e => .inr (Option.some.inj e).symm)⟩
      · (simp only [opens]; try simp only [Nat.reduceAdd])
        go_wp2_with fail
        exact ⟨_, rfl, rfl, Below.refl _ _⟩
      · have g0 : vs 10 = .pointer (some ⟨b, 4, none⟩) := hd 10 (by decide) (by kernel_rfl)
        have e9 : s' 9 = true := h2 9 (by kernel_rfl)
        obtain ⟨hgy, e4, hrest⟩ := hy.at2 e9 h1
        have hsY := ST2.out.grown hgy HBR.out HWB.out
        have c4 := hsY.1.cell 4 _ rfl
        have f4 := hsY.1.frozen 4
        have hO := Lib.hid hrest
        have hgy := Lib.hid hgy
        have hRow := Lib.hid hsY.1
        have hX := Lib.hid (And.intro e4 e9)
        obtain ⟨l4, q4, l5, q5, _, _, ho4, _⟩ := hrest
        obtain ⟨a4, k4, ev4⟩ := owned_slice' ho4.1
        have EV4 := Lib.hid ev4
        clear hy h1 h2 h3 hd hsY ho4 e4 e9
        (simp only [opens]; try simp only [Nat.reduceAdd])
        rw [g0, ev4]
        clear ev4
        go_wp2_with fail
        refine ⟨rfl, undef, trivial, .inr (.inr (.inr ⟨by rw [hX.out.1, hX.out.2], Y, hgy.out, ?_, set_grown' Y b 4 _, hO.out⟩)), fun j _ _ h => facts_isO [some (.pointer (some ⟨r, 0, none⟩)), some (.slice (some ⟨g6, 0, none⟩) 7 c6), some (.pointer (some ⟨g6, 5, none⟩)), some (.int .i64 (n5 : Int)), none, some (.pointer (some ⟨r, 0, none⟩)), some (.slice (some ⟨g6, 0, none⟩) 7 c6), some (.pointer (some ⟨g6, 6, none⟩)), some (.int .i64 (n6 : Int)), none, some (.pointer (some ⟨b, 4, none⟩)), none, some (.pointer (some ⟨b, 5, none⟩))] _ _ _ _ h⟩
        show RowL _ _ _ (List.set _ 4 (vs 4))
        rw [EV4.out]
        exact hRow.out.set 4 _
      · (simp only [opens]; try simp only [Nat.reduceAdd])
        go_wp2_with fail
        exact ⟨_, rfl, rfl, Below.refl _ _⟩
    intro vs Y hy hf
    have e12 : vs 12 = .pointer (some ⟨b, 5, none⟩) := hf 12 (by decide)
    obtain ⟨z, hgz, hRowY, hgzY, l4, q4, l5, q5, m4, m5, o4, o5, hRz, hlz⟩ := hy.at3
    simp only [opens, List.drop_succ_cons, List.drop_zero]
    try simp only [Nat.reduceAdd]
    rw [e12]
    clear hf e12 hy
    generalize vs 4 = v4 at *
    generalize vs 9 = v5 at *
    obtain ⟨a4, k4, rfl⟩ := owned_slice' o4.1
    obtain ⟨a5, k5, rfl⟩ := owned_slice' o5.1
    have hsz := ST2.out.grown hgz HBR.out HWB.out
    have hsY := hsz.put hgzY hRowY HWB.out
    have c5 := hRowY.cell 5 _ rfl
    have f5 := hRowY.frozen 5
    have hg5 := set_grown' Y b 5 (.slice a5 l5.length k5)
    have hRow5 : RowL 27 (Y.setCell ⟨b, 5, none⟩ (.slice a5 l5.length k5)) b [.int .i64 M, .slice a1 l1.length k1, .slice a2 l2.length k2, .slice a3 l3.length k3, .slice a4 l4.length k4, .slice a5 l5.length k5, .slice none 0 0, .slice none 0 0] := hRowY.set 5 (.slice a5 l5.length k5)
    have ST5 := Lib.hid (hsY.put hg5 hRow5 HWB.out)
    have P1 := Lib.hid (((O1.out.kept hgz R2.out (by decide)).kept hgzY hsz.1 (by decide)).kept hg5 hRowY (by decide))
    have P2 := Lib.hid (((O2.out.kept hgz R2.out (by decide)).kept hgzY hsz.1 (by decide)).kept hg5 hRowY (by decide))
    have P3 := Lib.hid (((O3.out.kept hgz R2.out (by decide)).kept hgzY hsz.1 (by decide)).kept hg5 hRowY (by decide))
    have P4 := Lib.hid ((o4.kept hgzY hsz.1 (by decide)).kept hg5 hRowY (by decide))
    have P5 := Lib.hid ((o5.kept hgzY hsz.1 (by decide)).kept hg5 hRowY (by decide))
    have R5 := Lib.hid ((hRz.grown hgzY (fun e => by have := Option.some.inj e; have := HBR.out; omega)).grown hg5 (fun e => by have := Option.some.inj e; have := HBR.out; omega))
    have N4 := grownBy_cell hg5 (grownBy_cell hgzY (HNZ.out 4 (by decide) z hgz) HGB.out.2) HGB.out.2
    have M5 := Lib.hid (grownBy_cell hg5 (grownBy_cell hgzY (grownBy_cell hgz HMZ.out (Ne.symm hr0)) (Ne.symm hb0.out)) (Ne.symm hb0.out))
    rw [← HE4.out] at N4
    have L4 := Lib.hid (PJ.many_len _ _ _ _ _ m4)
    have L5 := Lib.hid (PJ.many_len _ _ _ _ _ m5)
    have PG2 : Hid (PJ.parse s = (PR.many PJ.gatF 3 3 0 n4 q5).bind fun g => (PR.names true PJ.namF g.2).bind fun l => PJ.fin ⟨M, l1, l2, l3, l4, l5, g.1, l⟩) := by
      show _ = _
      rw [PG.out, ← HE5.out, m4]
      simp only [Option.bind_some]
      rw [← HE6.out, m5]
      simp only [Option.bind_some]
      rw [← HE4.out, ← HEM.out]
    obtain ⟨A2, hA2d⟩ : ∃ A' : Int, A' = A + n5 + n6 := ⟨_, rfl⟩
    have HA2d := Lib.hid hA2d
    rw [← hA2d] at R5
    have hA3 : Hid (0 ≤ A2 ∧ A2 + q5.length ≤ 70000 ∧ q5.length ≤ 65536) := by show _ ∧ _; have := hA2.out; omega
    have BS : Hid (w.heap.size ≤ W1.heap.size ∧ W1.heap.size ≤ W2.heap.size ∧ W2.heap.size ≤ (Y.setCell ⟨b, 5, none⟩ (.slice a5 l5.length k5)).heap.size) := ⟨HST1.out.2.2.2.size, HZs.out.2, Nat.le_trans hgz.size (Nat.le_trans hgzY.size hg5.size)⟩
    have hAn := Lib.hid (jAnds_any n4 r q5 A2 m (Y.setCell ⟨b, 5, none⟩ (.slice a5 l5.length k5)) R5.out (by have := hA3.out; omega) M5.out hr0 (by have := hA3.out; omega) (by rw [HE4.out]; exact HLE.out 4 (by decide)))
    clear hsz hsY hg5 hRow5 hRowY hgzY hgz m4 m5 o4 o5 hRz hlz hA2d O1 O2 O3 R2
    cases hgt : PR.many PJ.gatF 3 3 0 n4 q5 with
    | none =>
      have hAn2 := Lib.hid (hAn.out.mono fun e w' hh => ListTo.none hh hgt)
      have hno : Hid (PJ.parse s = none) := by show _ = _; rw [PG2.out, hgt]; rfl
      clear hAn hgt
      go_wp2_with (go_at_call 35; refine hAn2.out.mono ?_; rintro e w6 ⟨fv, rfl, hv, hg6⟩)
      exact hdoor.out _ _ fv [.int .i64 M, .slice a1 l1.length k1, .slice a2 l2.length k2, .slice a3 l3.length k3, .slice a4 l4.length k4, .slice a5 l5.length k5, .slice none 0 0, .slice none 0 0] rfl rfl rfl hv rfl (ST5.out.grown hg6 HBR.out HWB.out) hno.out
    | some x =>
      obtain ⟨l6, q6⟩ := x
      have hAn2 := Lib.hid (hAn.out.mono fun e w' hh => ListTo.some hh hgt)
      have L6 := Lib.hid (PJ.many_len _ _ _ _ _ hgt)
      have PG3 : Hid (PJ.parse s = (PR.names true PJ.namF q6).bind fun l => PJ.fin ⟨M, l1, l2, l3, l4, l5, l6, l⟩) := by show _ = _; rw [PG2.out, hgt]; rfl
      have hNm : Hid (∀ y, Rd y r q6 (A2 + n4) → q6.length + n4 ≤ q5.length → (Y.setCell ⟨b, 5, none⟩ (.slice a5 l5.length k5)).grownBy y (some r) → Calls Tryd.prog 36 #[.pointer (some ⟨r, 0, none⟩)] y fun e w' => NamesTo true PJ.namF r q6 (A2 + n4) y e w') :=
        fun y hy hql hg => jNames_any r q6 (A2 + n4) m y hy (by have := hA3.out; omega) (grownBy_cell hg M5.out (Ne.symm hr0)) hr0 (by have := hA3.out; omega)
      clear hAn hgt
      cases hnm : PR.names true PJ.namF q6 with
      | none =>
        have hno : Hid (PJ.parse s = none) := by show _ = _; rw [PG3.out, hnm]; rfl
        have hNm2 : Hid (∀ y, Rd y r q6 (A2 + n4) → q6.length + n4 ≤ q5.length → (Y.setCell ⟨b, 5, none⟩ (.slice a5 l5.length k5)).grownBy y (some r) → _) := fun y a b c => (hNm.out y a b c).mono fun e w' hh => NamesTo.none hh hnm
        clear hNm hnm
        go_wp2_with (first | (go_at_call 35; refine hAn2.out.mono ?_; rintro e w6 ⟨v6, rfl, ho6, hR6, hl6, hg6⟩; have HG6 := Lib.hid hg6; have hNm3 := Lib.hid (hNm2.out w6 hR6 hl6 hg6); clear hg6 hR6 ho6) | (go_at_call 36; refine hNm3.out.mono ?_; rintro e w7 ⟨fv, rfl, hv, hg7⟩))
        exact hdoor.out _ _ fv [.int .i64 M, .slice a1 l1.length k1, .slice a2 l2.length k2, .slice a3 l3.length k3, .slice a4 l4.length k4, .slice a5 l5.length k5, .slice none 0 0, .slice none 0 0] rfl rfl rfl hv rfl ((ST5.out.grown HG6.out HBR.out HWB.out).grown hg7 HBR.out HWB.out) hno.out
      | some l7 =>
        have PG4 : Hid (PJ.parse s = PJ.fin ⟨M, l1, l2, l3, l4, l5, l6, l7⟩) := by show _ = _; rw [PG3.out, hnm]; rfl
        have hNm2 : Hid (∀ y, Rd y r q6 (A2 + n4) → q6.length + n4 ≤ q5.length → (Y.setCell ⟨b, 5, none⟩ (.slice a5 l5.length k5)).grownBy y (some r) → _) := fun y a b c => (hNm.out y a b c).mono fun e w' hh => NamesTo.some hh hnm
        clear hNm hnm
        go_wp2_with (first | (go_at_call 35; refine hAn2.out.mono ?_; rintro e w6 ⟨v6, rfl, ho6, hR6, hl6, hg6⟩; have HG6 := Lib.hid hg6; have hNm3 := Lib.hid (hNm2.out w6 hR6 hl6 hg6); have HR6 := Lib.hid hR6; have HO6 := Lib.hid ho6; clear hg6 hR6 ho6))
        refine hNm3.out.mono ?_
        rintro e w7 ⟨v7, q7, rfl, ho7, hR7, hl7, hg7⟩
        obtain ⟨a6, k6, rfl⟩ := owned_slice' HO6.out.1
        obtain ⟨a7, k7, rfl⟩ := owned_slice' ho7.1
        have st7 := (ST5.out.grown HG6.out HBR.out HWB.out).grown hg7 HBR.out HWB.out
        have bs := BS.out
        have hs6 := HG6.out.size
        have oc : OwnC w7 W1.heap.size ⟨M, l1, l2, l3, l4, l5, l6, l7⟩ (.slice a1 l1.length k1) (.slice a2 l2.length k2) (.slice a3 l3.length k3) (.slice a4 l4.length k4) (.slice a5 l5.length k5) (.slice a6 l6.length k6) (.slice a7 l7.length k7) :=
          ⟨(P1.out.kept HG6.out R5.out (by decide)).kept hg7 HR6.out (by decide), (P2.out.kept HG6.out R5.out (by decide)).kept hg7 HR6.out (by decide), (P3.out.kept HG6.out R5.out (by decide)).kept hg7 HR6.out (by decide),
            ((P4.out.kept HG6.out R5.out (by decide)).kept hg7 HR6.out (by decide)).base bs.2.1, ((P5.out.kept HG6.out R5.out (by decide)).kept hg7 HR6.out (by decide)).base bs.2.1,
            ⟨World.ownsRow.mono (HO6.out.kept hg7 HR6.out (by decide)).1 (Nat.le_trans bs.2.1 bs.2.2), HO6.out.2⟩, ⟨World.ownsRow.mono ho7.1 (Nat.le_trans (Nat.le_trans bs.2.1 bs.2.2) hs6), ho7.2⟩, by have := HMx.out; rw [← HEM.out] at this; unfold rng; simp only; omega⟩
        have c6 := st7.1.cell 6 _ rfl
        have f6 := st7.1.frozen 6
        have g6' := set_grown' w7 b 6 (.slice a6 l6.length k6)
        have row8 := st7.1.set 6 (.slice a6 l6.length k6)
        have c7 := row8.cell 7 _ rfl
        have f7 := row8.frozen 7
        have g7' := set_grown' (w7.setCell ⟨b, 6, none⟩ (.slice a6 l6.length k6)) b 7 (.slice a7 l7.length k7)
        have row9 : RowL 27 ((w7.setCell ⟨b, 6, none⟩ (.slice a6 l6.length k6)).setCell ⟨b, 7, none⟩ (.slice a7 l7.length k7)) b [.int .i64 M, .slice a1 l1.length k1, .slice a2 l2.length k2, .slice a3 l3.length k3, .slice a4 l4.length k4, .slice a5 l5.length k5, .slice a6 l6.length k6, .slice a7 l7.length k7] := row8.set 7 (.slice a7 l7.length k7)
        have ST9 := Lib.hid ((st7.put g6' row8 HWB.out).put g7' row9 HWB.out)
        have OC9 := Lib.hid ((oc.kept g6' st7.1 (by decide) (by decide) (by decide) (by decide)).kept g7' row8 (by decide) (by decide) (by decide) (by decide))
        have R9 := Lib.hid ((hR7.grown g6' (fun e => by have := Option.some.inj e; have := HBR.out; omega)).grown g7' (fun e => by have := Option.some.inj e; have := HBR.out; omega))
        obtain ⟨k0, k1', k2', k3', k4', k5', k6', k7'⟩ := read8 row9
        obtain ⟨C, hC⟩ : ∃ C : PC.Circ, C = ⟨M, l1, l2, l3, l4, l5, l6, l7⟩ := ⟨_, rfl⟩
        have HCM : Hid (C.max = M) := by show _ = _; rw [hC]
        have HLN : Hid (((PJ.linesOf C : Nat) : Int) = A2 + n4 + l7.length) := by
          show _ = _
          rw [hC, HA2d.out, HA.out, ← L1.out, ← L2.out, ← L3.out, ← L4.out, ← L5.out, ← L6.out]
          simp only [PJ.linesOf]
          omega
        rw [← hC] at OC9
        rw [← hC] at PG4
        have hCk := Lib.hid (cCheck_any C (.agg #[.int .i64 M, .slice a1 l1.length k1, .slice a2 l2.length k2, .slice a3 l3.length k3, .slice a4 l4.length k4, .slice a5 l5.length k5, .slice a6 l6.length k6, .slice a7 l7.length k7]) ((w7.setCell ⟨b, 6, none⟩ (.slice a6 l6.length k6)).setCell ⟨b, 7, none⟩ (.slice a7 l7.length k7)) (by have := OC9.out.circ; rw [HCM.out] at this; exact this))
        rw [PC.pchk_eq] at hCk
        clear st7 bs hs6 oc g6' g7' row8 row9 hg7 ho7 hR7 hC hl7
        cases hchk : PC.chk C with
        | false =>
          rw [hchk] at hCk
          have hno : Hid (PJ.parse s = none) := by show _ = _; rw [PG4.out]; unfold PJ.fin; rw [hchk]; rfl
          clear hchk
          go_wp2_with (first | (go_at_call 24; refine hCk.out.mono ?_; rintro e w10 ⟨rfl, hb10⟩; have ST10 := Lib.hid (ST9.out.mono hb10); have R10 := Lib.hid (R9.out.mono hb10)) | (go_at_call 37; refine (jNeed_no r _ _ _ _ R10.out (by decide)).mono ?_; rintro e w11 ⟨⟨fv, hfv, rfl⟩, rfl⟩))
          exact hdoor.out _ _ fv [.int .i64 M, .slice a1 l1.length k1, .slice a2 l2.length k2, .slice a3 l3.length k3, .slice a4 l4.length k4, .slice a5 l5.length k5, .slice a6 l6.length k6, .slice a7 l7.length k7] rfl rfl rfl hfv rfl ST10.out hno.out
        | true =>
          rw [hchk] at hCk
          have hyes : Hid (PJ.parse s = some C) := by show _ = _; rw [PG4.out]; unfold PJ.fin; rw [hchk]; rfl
          clear hchk
          go_wp2_with (first | (go_at_call 24; refine hCk.out.mono ?_; rintro e w10 ⟨rfl, hb10⟩; have ST10 := Lib.hid (ST9.out.mono hb10); have R10 := Lib.hid (R9.out.mono hb10); have OC10 := Lib.hid (OC9.out.mono hb10); clear c6 c7 f6 f7 k0 k1' k2' k3' k4' k5' k6' k7') | (go_at_call 37; refine (jNeed_ok _ _ _).mono ?_; rintro e w11 ⟨rfl, hw11⟩; rw [hw11] at ST10 R10 OC10))
          rw [← HLN.out] at R10
          obtain ⟨LN, hLN⟩ : ∃ z : Int, z = (PJ.linesOf C : Int) := ⟨_, rfl⟩
          rw [← hLN] at R10
          have HLN2 := Lib.hid hLN
          have HB1 : Hid (b + 2 < W1.heap.size) := HST1.out.2.2.1.lt
          clear hLN hw11
          obtain ⟨W3, hW3⟩ : ∃ W, W = w11 := ⟨_, rfl⟩
          subst hW3
          refine wp_region_writes 6 [5] ([.agg #[.int .i64 M, .slice a1 l1.length k1, .slice a2 l2.length k2, .slice a3 l3.length k3, .slice a4 l4.length k4, .slice a5 l5.length k5, .slice a6 l6.length k6, .slice a7 l7.length k7], .pointer (some ⟨r, 0, none⟩), .pointer (some ⟨r, 0, none⟩), .pointer (some ⟨r, 1, none⟩), .int .i64 LN, undef].map isV)
            (fun bs y => StJ w y b [.int .i64 M, .slice a1 l1.length k1, .slice a2 l2.length k2, .slice a3 l3.length k3, .slice a4 l4.length k4, .slice a5 l5.length k5, .slice a6 l6.length k6, .slice a7 l7.length k7] ∧ Rd y r q7 LN ∧ OwnC y W1.heap.size C (.slice a1 l1.length k1) (.slice a2 l2.length k2) (.slice a3 l3.length k3) (.slice a4 l4.length k4) (.slice a5 l5.length k5) (.slice a6 l6.length k6) (.slice a7 l7.length k7))
            [some 62, some 63, some 64, some 65, some 66, none] (by kernel_rfl) (by kernel_rfl) rfl (keeps_isV _) ⟨ST10.out.mono (Below.refl _ _).drew, R10.out.drew, OC10.out.mono (Below.refl _ _).drew⟩
            (fun bs z z' hb ⟨a0, a1, a2⟩ => ⟨a0.mono hb, a1.mono hb, a2.mono hb⟩) (by decide) ?_ ?_
          · refine ⟨fun s' vs Y h1 h2 h3 hy hd => ?_, fun s' vs Y h1 h2 h3 hy hd => ?_, fun s' vs Y h1 h2 h3 hy hd => ?_, fun s' vs Y h1 h2 h3 hy hd => ?_, fun s' vs Y h1 h2 h3 hy hd => ?_, fun s' vs Y h1 h2 h3 hy hd => ?_, trivial⟩
            · obtain ⟨k0, k1', k2', k3', k4', k5', k6', k7'⟩ := read8 hy.1.1
              (simp only [opens]; try simp only [Nat.reduceAdd])
              go_wp2_with fail
              exact ⟨_, rfl, rfl, Below.refl _ _⟩
            · (simp only [opens]; try simp only [Nat.reduceAdd])
              go_wp2_with fail
              exact ⟨_, rfl, rfl, Below.refl _ _⟩
            · have g0 : vs 1 = .pointer (some ⟨r, 0, none⟩) := hd 1 (by decide) (by kernel_rfl)
              (simp only [opens]; try simp only [Nat.reduceAdd])
              rw [g0]
              go_wp2_with fail
              exact ⟨_, rfl, rfl, Below.refl _ _⟩
            · have g0 : vs 2 = .pointer (some ⟨r, 0, none⟩) := hd 2 (by decide) (by kernel_rfl)
              (simp only [opens]; try simp only [Nat.reduceAdd])
              rw [g0]
              go_wp2_with fail
              exact ⟨_, rfl, rfl, Below.refl _ _⟩
            · have g0 : vs 3 = .pointer (some ⟨r, 1, none⟩) := hd 3 (by decide) (by kernel_rfl)
              have hc := hy.2.1.cell 1 _ rfl
              (simp only [opens]; try simp only [Nat.reduceAdd])
              rw [g0]
              go_wp2_with fail
              exact ⟨_, rfl, rfl, Below.refl _ _⟩
            · have g0 : vs 0 = .agg #[.int .i64 M, .slice a1 l1.length k1, .slice a2 l2.length k2, .slice a3 l3.length k3, .slice a4 l4.length k4, .slice a5 l5.length k5, .slice a6 l6.length k6, .slice a7 l7.length k7] := hd 0 (by decide) (by kernel_rfl)
              obtain ⟨a0, a1', a2'⟩ := hy
              (simp only [opens]; try simp only [Nat.reduceAdd])
              rw [g0]
              refine wpList_row rfl 27 _ _ rfl b [.int .i64 M, .slice a1 l1.length k1, .slice a2 l2.length k2, .slice a3 l3.length k3, .slice a4 l4.length k4, .slice a5 l5.length k5, .slice a6 l6.length k6, .slice a7 l7.length k7] rfl rfl a0.1 (by kernel_rfl) rfl (by kernel_rfl) ?_
              intro z q0' q1'
              refine ⟨undef, rfl, rfl, ?_⟩
              exact ⟨⟨a0.put q1' q0' HWB.out, a1'.grown q1' (fun e => by have := Option.some.inj e; have := HBR.out; omega), a2'.past q1' (by have := HB1.out; omega)⟩, fun j _ _ h => facts_isV [.agg #[.int .i64 M, .slice a1 l1.length k1, .slice a2 l2.length k2, .slice a3 l3.length k3, .slice a4 l4.length k4, .slice a5 l5.length k5, .slice a6 l6.length k6, .slice a7 l7.length k7], .pointer (some ⟨r, 0, none⟩), .pointer (some ⟨r, 0, none⟩), .pointer (some ⟨r, 1, none⟩), .int .i64 LN, undef] _ _ _ _ h⟩
          intro vs Y hy hf
          have g4 : vs 4 = .int .i64 LN := hf 4 (by decide)
          obtain ⟨sY, rY, oY⟩ := hy
          have d1 := sY.2.1.cell 0 _ rfl
          have d2 := sY.2.1.frozen 0
          have gA := set_grown' Y (b + 1) 0 (.int .i64 LN)
          have rA := sY.2.1.set 0 (.int .i64 LN)
          have cA := sY.1.grown gA (fun e => by have := Option.some.inj e; omega)
          have eA := sY.2.2.1.grown gA (fun e => by have := Option.some.inj e; omega)
          have oA := oY.past gA (by have := HB1.out; omega)
          have bA := sY.2.2.2.grown gA sY.2.2.2.size (fun k e => by cases e; have := HWB.out; omega)
          have d3 := eA.cell 0 _ rfl
          have d4 := eA.frozen 0
          have gB := set_grown' (Y.setCell ⟨b + 1, 0, none⟩ (.int .i64 LN)) (b + 2) 0 (.int .i64 0)
          have eB := Lib.hid (eA.set 0 (.int .i64 0))
          have rB := Lib.hid (rA.grown gB (fun e => by have := Option.some.inj e; omega))
          have cB := Lib.hid (cA.grown gB (fun e => by have := Option.some.inj e; omega))
          have oB := Lib.hid (oA.past gB (by have := HB1.out; omega))
          have bB := Lib.hid (bA.grown gB bA.size (fun k e => by cases e; have := HWB.out; omega))
          simp only [opens, List.drop_succ_cons, List.drop_zero]
          try simp only [Nat.reduceAdd]
          rw [g4]
          clear hf sY rY oY gA rA cA eA oA bA gB g4
          go_wp2_with fail
          exact jDoor_yes s b w _ _ C _ _ _ _ _ _ _ _ rfl rfl rfl cB.out (by rw [← HLN2.out]; exact rB.out) eB.out bB.out HS.out hyes.out (by have := oB.out.circ; rw [HCM.out] at this; exact this)

theorem jParse_any (s : List UInt8) (m : Int) (w : World) (hs2 : s.length ≤ 9223372036854775807) (hm : w.cell? ⟨0, 0, none⟩ = some (.int .i64 m)) : Calls Tryd.prog 12 #[.string ⟨s.toArray⟩] w (PTo s w) := by
  by_cases h : s.length ≤ 65536
  · exact jParse_short s m w h hm
  · exact jParse_long s w (by omega) hs2

end Go.Proofs.YtjcaejdokillgaaDoor
