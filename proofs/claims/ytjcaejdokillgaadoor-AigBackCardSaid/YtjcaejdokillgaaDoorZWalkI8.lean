/- Contract: octets' circuit. -/
import Derived.Test.YtjcaejdokillgaaDoorZI8
import Derived.Test.YtjcaejdokillgaaDoorZP3
import Derived.Test.YtjcaejdokillgaaDoorZWalkA2
namespace Go.Proofs.YtjcaejdokillgaaDoor
open Go.RowKit Go.Shelf
attribute [local simp] mk_get

set_option maxRecDepth 100000 in
set_option maxHeartbeats 32000000 in
theorem iRead_short (s : List UInt8) (vs0 : Value) (m : Int) (w : World) (h : Octs w vs0 s) (hs : s.length ≤ 65536) (hm : w.cell? ⟨0, 0, none⟩ = some (.int .i64 m)) : Calls Tryd.prog 23 #[vs0] w (RTo s w) := by
  have hmf : ∀ (fn : Fn) (first cap : Array Value) (w : World), (Instr.makeFunc fn first cap).run Tryd.prog w = .ok (.func fn first cap) w := fun _ _ _ _ => rfl
  obtain ⟨ao, cap0, rfl, hcv⟩ := h
  have hz : (s.length : Int) ≤ 65536 := by omega
  have hz2 : ¬ (65536 : Int) < (s.length : Int) := by omega
  have HS := Lib.hid hs
  have HM := Lib.hid hm
  clear hs hm
  obtain ⟨b, hb⟩ : ∃ b, b = w.heap.size := ⟨_, rfl⟩
  obtain ⟨V1, hV1⟩ : ∃ V, V = w.alloc (.cells #[.int .i64 0, .slice none 0 0, .slice none 0 0, .slice none 0 0, .slice none 0 0, .slice none 0 0, .slice none 0 0, .slice none 0 0] 27) := ⟨_, rfl⟩
  obtain ⟨V3, hV3⟩ : ∃ V, V = V1.alloc (.cells #[.int .i64 0] 29) := ⟨_, rfl⟩
  obtain ⟨V4, hV4⟩ : ∃ V, V = V3.alloc (.cells #[.string ⟨s.toArray⟩] 106) := ⟨_, rfl⟩
  have e1 : V1.heap.size = b + 1 := by rw [hV1, hb]; simp
  have e3 : V3.heap.size = b + 2 := by rw [hV3]; simp [e1]
  have e4 : V4.heap.size = b + 3 := by rw [hV4]; simp [e3]
  have b1 : Below w.heap.size w V1 := by rw [hV1]; exact (Below.refl _ _).alloc (Nat.le_refl _) _
  have b3 : Below V1.heap.size V1 V3 := by rw [hV3]; exact (Below.refl _ _).alloc (Nat.le_refl _) _
  have b4 : Below V3.heap.size V3 V4 := by rw [hV4]; exact (Below.refl _ _).alloc (Nat.le_refl _) _
  have hc1 := hcv V3 (Below.of b1 b3)
  rw [hV3, hV1] at hc1
  go_enter_defers Tryd.func23, Tryd.ntmps23
  go_wp2_with fail
  have r0 : RowL 27 V4 b zero8 := by
    have := RowL.new (T := 27) w zero8; rw [← hV1, ← hb] at this; exact (this.mono b3).mono b4
  have r2 : RowL 29 V4 (b + 1) [.int .i64 0] := by have := RowL.new (T := 29) V1 [.int .i64 0]; rw [← hV3, e1] at this; exact this.mono b4
  have hrd : RdI V4 (b + 2) s := by have := RowL.new (T := 106) V3 [.string ⟨s.toArray⟩]; rw [← hV4, e3] at this; exact this
  have hbl : Below w.heap.size w V4 := Below.of (Below.of b1 b3) b4
  have hm4 : V4.cell? ⟨0, 0, none⟩ = some (.int .i64 m) := (hbl.cell (World.block_lt_of_cell? w _ HM.out)).trans HM.out
  have hV : (((w.alloc (.cells #[.int .i64 0, .slice none 0 0, .slice none 0 0, .slice none 0 0, .slice none 0 0, .slice none 0 0, .slice none 0 0, .slice none 0 0] 27)).alloc (.cells #[.int .i64 0] 29)).alloc (.cells #[.string ⟨s.toArray⟩] 106)) = V4 := by rw [hV4, hV3, hV1]
  have hwb : w.heap.size ≤ b := by omega
  have hb0 : 0 < b := by have := World.block_lt_of_cell? w _ HM.out; simp only at this; omega
  obtain ⟨r, hr⟩ : ∃ r, r = b + 2 := ⟨_, rfl⟩
  rw [hV, show w.heap.size + 1 + 1 = r from by omega, show w.heap.size + 1 = b + 1 from by omega, ← hb]
  rw [← hr] at hrd
  have hr0 : r ≠ 0 := by omega
  clear e1 e3 b1 b3 b4 hV hV1 hV3 hV4
  have HWB := Lib.hid hwb
  have HC0 := Lib.hid r0
  have HE0 := Lib.hid r2
  have HBL := Lib.hid hbl
  have HRD := Lib.hid hrd
  have HM4 := Lib.hid hm4
  have HB0 := Lib.hid hb0
  have HR := Lib.hid hr
  have E4 := Lib.hid e4
  have hdoor : Hid (∀ (y : World) (tmps : Array Value) (cs : List Value), tmps[2]? = some (.pointer (some ⟨b, 0, none⟩)) → tmps[3]? = some (.pointer (some ⟨b + 1, 0, none⟩)) → cs.length = 8 → RowL 27 y b cs → RowL 29 y (b + 1) [.int .i64 0] → Below w.heap.size w y → PI.parse s = none →
      bodyPostD Tryd.prog Tryd.f23 (RTo s w) (.panic synC)
        { tmps := tmps, defers := [{ target := .fn (.func 56) #[.pointer (some ⟨b, 0, none⟩), .pointer (some ⟨b + 1, 0, none⟩)], args := #[] }] } y) :=
    fun y tmps cs t2 t3 hcs h0 h2 hbb hno => iDoor_no s b w y tmps cs _ t2 t3 hcs h0 h2 hbb HWB.out HS.out hno
  clear r0 r2 hrd hbl hm4 hwb hb0 hr e4 hb hc1
  cases hl : PI.header s with
  | none =>
    refine (iHead_any r s m V4 HRD.out HS.out HM4.out hr0).mono ?_
    rintro e w1 ⟨hg1, ⟨n, q0, v, hh, _⟩ | ⟨_, rfl⟩⟩
    · rw [hl] at hh; cases hh
    have hrb : some (b + 1) ≠ some r ∧ some b ≠ some r := by have := HR.out; constructor <;> intro e <;> have := Option.some.inj e <;> omega
    exact hdoor.out _ _ zero8 rfl rfl rfl (HC0.out.grown hg1 hrb.2) (HE0.out.grown hg1 hrb.1) (below_grown HBL.out hg1 HBL.out.size (by have := HR.out; have := HWB.out; omega)) (PI.parse_no0 hl)
  | some x =>
    obtain ⟨n, q0⟩ := x
    refine (iHead_any r s m V4 HRD.out HS.out HM4.out hr0).mono ?_
    rintro e w1 ⟨hg1, ⟨n', q0', v, hh, rfl, hv, hR1⟩ | ⟨hh, _⟩⟩
    case inr => rw [hl] at hh; cases hh
    rw [hl] at hh
    obtain ⟨rfl, rfl⟩ := Prod.mk.inj (Option.some.inj hh)
    obtain ⟨hn7, hnj, hM0, hM1, hn1, hn2, hn4, hq0⟩ := PI.header_nums hl
    have hv1 := hv.1
    rw [hn7] at hv1
    obtain ⟨g6, c6, rfl, hgB, hgs, _⟩ := owns_some hv1 (by omega)
    have hcn : ∀ j (hj : j < 7), w1.cell? ⟨g6, j, none⟩ = some (.int .i64 (PJ.nth n j : Int)) := fun j hj => by
      rw [hv1.cellAt j (by omega), List.getElem?_map, List.getElem?_eq_getElem (by omega : j < n.length), (hnj j (by omega)).1]
      rfl
    have hrb : some (b + 1) ≠ some r ∧ some b ≠ some r := by have := HR.out; constructor <;> intro e <;> have := Option.some.inj e <;> omega
    have P0 : Hid (PlacesI w b r g6 w1.heap.size) := by
      have := HR.out; have := E4.out; have := hg1.size
      exact ⟨HB0.out, HWB.out, HR.out, hgs, by omega, by omega⟩
    have K0 : Hid (KeepI w b r g6 m n w1.heap.size q0 w1) :=
      ⟨hR1, hcn, grownBy_cell hg1 HM4.out (Ne.symm hr0), Nat.le_refl _, HE0.out.grown hg1 hrb.1, below_grown HBL.out hg1 HBL.out.size (by have := HR.out; have := HWB.out; omega)⟩
    have C0 := Lib.hid (HC0.out.grown hg1 hrb.2)
    have HLN := Lib.hid (And.intro hM0 (And.intro hM1 (And.intro hn1 (And.intro hn2 (And.intro hn4 hq0)))))
    have HLE : Hid (∀ j, j < 7 → PJ.nth n j ≤ 1099511627776) := fun j hj => (hnj j (by omega)).2
    have HL := Lib.hid hl
    have HBs : Hid (b < w1.heap.size) := C0.out.lt
    obtain ⟨n1, e1⟩ : ∃ k, k = PJ.nth n 1 := ⟨_, rfl⟩
    obtain ⟨M, hM⟩ : ∃ k : Int, k = (PJ.nth n 0 : Int) := ⟨_, rfl⟩
    have hcM := K0.out.nums 0 (by decide)
    rw [← hM] at hcM
    have HE1 := Lib.hid e1
    have HEM := Lib.hid hM
    obtain ⟨W1, hW1⟩ : ∃ W, W = w1 := ⟨_, rfl⟩
    subst hW1
    have c0 := C0.out.cell 0 _ rfl
    have f0 := C0.out.frozen 0
    obtain ⟨W2, hW2⟩ : ∃ W, W = W1.setCell ⟨b, 0, none⟩ (.int .i64 M) := ⟨_, rfl⟩
    have hg2 : W1.grownBy W2 (some b) := by rw [hW2]; exact set_grown' _ _ _ _
    have K1 : Hid (KeepI w b r g6 m n W1.heap.size q0 W2) := K0.out.keep P0.out hg2 fun x e => .inl (Option.some.inj e).symm
    have C1 : Hid (RowL 27 W2 b [.int .i64 M, .slice none 0 0, .slice none 0 0, .slice none 0 0, .slice none 0 0, .slice none 0 0, .slice none 0 0, .slice none 0 0]) := by
      rw [hW2]; exact C0.out.set 0 (.int .i64 M)
    have hcn1 := K1.out.nums 1 (by decide)
    rw [← e1, hW2] at hcn1
    have hn1z : (n1 : Int) ≤ 64 := by have := HLN.out.2.2.1; have := HE1.out; rw [this]; exact Int.ofNat_le.2 ‹_›
    clear hl hv hR1 hg1 hn7 hnj hM0 hM1 hn1 hn2 hn4 hq0 hv1 hgB hgs hcn hrb hh e1 hM hg2 HRD HM4 HC0 HE0 HBL
    go_wp2_with fail
    rw [← hW2]
    clear hW2 c0 f0 hcM hcn1
    go_loopg [30] n1 (fun gg s30 wr => ∃ (k : Nat) (v1 : Value), k ≤ n1 ∧ n1 - k ≤ gg ∧ s30 = .int .i64 k ∧ Hid (KeepI w b r g6 m n W1.heap.size q0 wr) ∧ Hid (RowL 27 wr b [.int .i64 M, v1, .slice none 0 0, .slice none 0 0, .slice none 0 0, .slice none 0 0, .slice none 0 0, .slice none 0 0]) ∧ Hid (OwnI wr W1.heap.size v1 (PI.evens k)))
    case atStart => exact ⟨0, .slice none 0 0, Nat.zero_le _, by omega, rfl, K1.out, C1.out, World.ownsRow_nil _ _ _ _, fun x hx => by cases hx⟩
    case round =>
      obtain ⟨k, v1, hk, hg, rfl, hKw, hCw, hown⟩ := hrel
      by_cases hlt : k < n1
      · have hltz : (k : Int) < (n1 : Int) := by omega
        have hmea : Hid (∀ g : Nat, n1 - k ≤ g → n1 - (k + 1) < g) := fun g h => by omega
        have HG := Lib.hid hg
        have hkz : (k : Int) ≤ 64 := by omega
        have ho : Hid (wr.ownsRow W1.heap.size 3 1 v1 k ((PI.evens k).map (Value.int .i64))) := by
          have := hown.out.1
          rw [evens_len] at this
          exact this
        have hB1 : Hid (W1.heap.size ≤ wr.heap.size) := hKw.out.size
        obtain ⟨a1, k1, rfl⟩ := owned_slice' ho.out
        have c1 := hCw.out.cell 1 _ rfl
        have f1 := hCw.out.frozen 1
        clear hg
        go_wp2_with (at_builtin; refine app_new rfl _ _ 22 rfl 3 1 8 _ Tryd.underlying22 infoI' rfl (by decide) (w := wr) (w0 := wr) (B0 := 0) (B := W1.heap.size) (v := .slice a1 k k1) rfl ho.out (Below.refl 0 wr) (Nat.zero_le _) hB1.out _ 1 1 rfl (by intro u hu; simp at hu; subst hu; rfl) rfl (by omega) (by omega) ?_; intro v8 w8 hown8 hb8 hbs8 hgr8; have hown8 := Lib.hid hown8; obtain ⟨a8, c8, rfl⟩ := owned_slice' hown8.out; have K8 := Lib.hid (hKw.out.app P0.out ho.out hgr8); have C8 := Lib.hid (circ_kept hCw.out ho.out hgr8 HBs.out); have d1 := C8.out.cell 1 _ rfl; have e1 := C8.out.frozen 1; clear hb8 hbs8 hgr8 c1 f1)
        have hgs8 := set_grown' w8 b 1 (.slice a8 (k + 1) c8)
        have K9 := Lib.hid (K8.out.keep P0.out hgs8 fun x e => .inl (Option.some.inj e).symm)
        have C9 := Lib.hid (C8.out.set 1 (.slice a8 (k + 1) c8))
        have O9 : Hid (OwnI (w8.setCell ⟨b, 1, none⟩ (.slice a8 (k + 1) c8)) W1.heap.size (.slice a8 (k + 1) c8) (PI.evens (k + 1))) := by
          refine ⟨?_, fun x hx => ?_⟩
          · rw [evens_len, evens_succ, List.map_append]
            exact owns_other hown8.out hgs8 C8.out (by decide)
          · rw [evens_succ] at hx
            rcases List.mem_append.1 hx with hx | hx
            · exact hown.out.2 x hx
            · rw [List.mem_singleton.1 hx]; unfold rng; omega
        clear hgs8
        go_roundg (n1 - (k + 1))
        case measure => exact hmea.out _ HG.out
        case rel => exact ⟨k + 1, _, by omega, by omega, by go_num, K9, C9, O9⟩
      · have hltz : ¬ (k : Int) < (n1 : Int) := by omega
        obtain rfl : k = n1 := by omega
        obtain ⟨W3, hW3⟩ : ∃ W, W = wr := ⟨_, rfl⟩
        subst hW3
        obtain ⟨n2, e2⟩ : ∃ k, k = PJ.nth n 2 := ⟨_, rfl⟩
        have hcn2 := hKw.out.nums 2 (by decide)
        rw [← e2] at hcn2
        have HE2 := Lib.hid e2
        have hn2z : (n2 : Int) ≤ 64 := by have := HLN.out.2.2.2.1; have := HE2.out; rw [this]; exact Int.ofNat_le.2 ‹_›
        clear e2 hg hk hlt K1 C1 K0 C0
        go_wp2_with fail
        go_loopg [45] n2 (fun gg s45 wr => ∃ (k : Nat) (sk : List UInt8) (lk : List PC.Lat) (v2 : Value), n2 - k ≤ gg ∧ k ≤ n2 ∧ s45 = .int .i64 k ∧ Hid (KeepI w b r g6 m n W1.heap.size sk wr) ∧ Hid (RowL 27 wr b [.int .i64 M, v1, v2, .slice none 0 0, .slice none 0 0, .slice none 0 0, .slice none 0 0, .slice none 0 0]) ∧ Hid (OwnI wr W1.heap.size v1 (PI.evens (PJ.nth n 1))) ∧ Hid (PR.ManyAt (PI.latB (PJ.nth n 1)) 1 2 n2 q0 k sk lk) ∧ Hid (OwnL wr W1.heap.size v2 lk))
        case atStart => exact ⟨0, q0, [], .slice none 0 0, by omega, Nat.zero_le _, rfl, hKw.out, hCw.out, (by rw [← HE1.out]; exact hown.out), PR.ManyAt.zero, World.ownsRow_nil _ _ _ _, fun x hx => by cases hx⟩
        case round =>
          clear hKw hCw hown
          obtain ⟨i, sk, lk, v2, hg, hk, rfl, hKw, hCw, ho1, hMA, ho2⟩ := hrel
          have hskl : Hid (sk.length ≤ 65536) := by show sk.length ≤ 65536; have := hMA.out.2.2.1; have := HS.out; have := HLN.out.2.2.2.2.2; omega
          have hlk : Hid (lk.length = i) := hMA.out.2.1
          have hiz : (i : Int) ≤ 64 := by omega
          have hN := Lib.hid (iLine_any 1 2 r sk m wr hKw.out.rd hskl.out hKw.out.len hr0 (by omega))
          have hB1 : Hid (W1.heap.size ≤ wr.heap.size) := hKw.out.size
          by_cases hlt : i < n2
          · have hltz : (i : Int) < (n2 : Int) := by omega
            have hmea : Hid (∀ g : Nat, n2 - i ≤ g → n2 - (i + 1) < g) := fun g h => by omega
            have HG := Lib.hid hg
            clear hg
            cases hl : PR.lineN [] 1 2 sk with
            | none =>
              have hno := Lib.hid (PI.parse_no2 HL.out (by have := hMA.out.no1 hlt hl; rw [HE2.out] at this; exact this))
              have hN2 := Lib.hid (hN.out.mono fun e w' hh => NumsI.none hh hl)
              clear hN hl
              go_wp2_with (go_at_call 58; refine hN2.out.mono ?_; rintro e w1 ⟨rfl, hg1⟩)
              have hL := hKw.out.lost P0.out hCw.out hg1
              exact hdoor.out _ _ _ rfl rfl rfl hL.1 hL.2.1 hL.2.2 hno.out
            | some x =>
              obtain ⟨ns, q⟩ := x
              have hN2 := Lib.hid (hN.out.mono fun e w' hh => NumsI.some hh hl)
              rcases PR.line12 hl with ⟨x, rfl, hx0, hx1⟩ | ⟨x, y, rfl, ⟨hx0, hx1⟩, hy0, hy1⟩
              · have hMA1 := Lib.hid (hMA.out.next hlt hl (x := ⟨2 * ((PJ.nth n 1 : Int) + i) + 2, x, 0⟩) rfl)
                have HX := Lib.hid (And.intro hx0 hx1)
                clear hN hl hx0 hx1
                go_wp2_with (go_at_call 58; refine hN2.out.mono ?_; rintro e w1 ⟨v, rfl, hv, hR1, hg1⟩; obtain ⟨g1, o1, c1, rfl, hc1, hgs1⟩ := hv.one; have K2 := Lib.hid (hKw.out.read P0.out hg1 hR1); have C2 := Lib.hid (hCw.out.grown hg1 (fun e => by have := Option.some.inj e; have := P0.out.rb; omega)); have o1' := Lib.hid (ho1.out.kept hg1 hKw.out.rd (by decide)); have o2' := Lib.hid (ho2.out.kept hg1 hKw.out.rd (by decide)); have hBg := Lib.hid (Nat.le_trans hB1.out hg1.size); clear hg1 hv hR1)
                have hc1 := Lib.hid fun (z : World) (hz : Below w1.heap.size w1 z) => (hz.cell hgs1).trans hc1
                have hcn := Lib.hid fun (z : World) (hz : Below w1.heap.size w1 z) => (K2.out.mono P0.out hz).nums 1 (by decide)
                rw [← HE1.out] at hcn
                obtain ⟨W2, hW2⟩ : ∃ W, W = w1 := ⟨_, rfl⟩
                subst hW2
                refine wp_region_makes 12 [isV (.slice (some ⟨g6, 0, none⟩) 7 c6), isV (.pointer (some ⟨g6, 1, none⟩)), isV (.int .i64 (k : Int)), isV (.int .i64 (i : Int)), isV (.int .i64 ((k : Int) + i)), isV (.int .i64 (2 * ((k : Int) + i))), isV (.int .i64 (2 * ((k : Int) + i) + 2)), isV (.slice (some ⟨g1, o1, none⟩) 1 c1), isV (.pointer (some ⟨g1, o1, none⟩)), isV (.int .i64 x), isV (.agg #[.int .i64 (2 * ((k : Int) + i) + 2), .int .i64 x, .int .i64 0]),
                  (fun v y' => ∃ u, v = .pointer (some ⟨u, 0, none⟩) ∧ W2.heap.size ≤ u ∧ RowL 64 y' u [.int .i64 0, .int .i64 0, .int .i64 0])]
                  [some 50, some 51, some 52, some 53, some 54, some 55, some 56, some 57, some 58, some 59, some 60, some 9] (by kernel_rfl) (by kernel_rfl) rfl (by
                    intro q hq
                    simp only [List.mem_cons, List.mem_nil_iff, or_false] at hq
                    rcases hq with rfl | rfl | rfl | rfl | rfl | rfl | rfl | rfl | rfl | rfl | rfl | rfl <;> first
                      | exact isV_keeps _ | exact fun _ _ _ hb ⟨u, e, h1, h⟩ => ⟨u, e, h1, h.mono hb⟩) ?_ ?_
                · refine ⟨fun vs Y hy hd => ?_, fun vs Y hy hd => ?_, fun vs Y hy hd => ?_, fun vs Y hy hd => ?_, fun vs Y hy hd => ?_, fun vs Y hy hd => ?_, fun vs Y hy hd => ?_, fun vs Y hy hd => ?_, fun vs Y hy hd => ?_, fun vs Y hy hd => ?_, fun vs Y hy hd => ?_, fun vs Y hy hd => ?_, trivial⟩
                  · (simp only [opens]; try simp only [Nat.reduceAdd])
                    go_wp2_with fail
                    exact ⟨_, rfl, Below.refl _ _, rfl⟩
                  · have g0 : vs 0 = .slice (some ⟨g6, 0, none⟩) 7 c6 := hd 0 (by decide) (by kernel_rfl)
                    (simp only [opens]; try simp only [Nat.reduceAdd])
                    rw [g0]
                    go_wp2_with fail
                    exact ⟨_, rfl, Below.refl _ _, rfl⟩
                  · have g0 : vs 1 = .pointer (some ⟨g6, 1, none⟩) := hd 1 (by decide) (by kernel_rfl)
                    have hc := hcn.out Y hy
                    (simp only [opens]; try simp only [Nat.reduceAdd])
                    rw [g0]
                    go_wp2_with fail
                    exact ⟨_, rfl, Below.refl _ _, rfl⟩
                  · (simp only [opens]; try simp only [Nat.reduceAdd])
                    go_wp2_with fail
                    exact ⟨_, rfl, Below.refl _ _, rfl⟩
                  · have g0 : vs 2 = .int .i64 (k : Int) := hd 2 (by decide) (by kernel_rfl)
                    have g1 : vs 3 = .int .i64 (i : Int) := hd 3 (by decide) (by kernel_rfl)
                    (simp only [opens]; try simp only [Nat.reduceAdd])
                    rw [g0, g1]
                    go_wp2_with fail
                    exact ⟨_, rfl, Below.refl _ _, rfl⟩
                  · have g0 : vs 4 = .int .i64 ((k : Int) + i) := hd 4 (by decide) (by kernel_rfl)
                    (simp only [opens]; try simp only [Nat.reduceAdd])
                    rw [g0]
                    go_wp2_with fail
                    exact ⟨_, rfl, Below.refl _ _, rfl⟩
                  · have g0 : vs 5 = .int .i64 (2 * ((k : Int) + i)) := hd 5 (by decide) (by kernel_rfl)
                    (simp only [opens]; try simp only [Nat.reduceAdd])
                    rw [g0]
                    go_wp2_with fail
                    exact ⟨_, rfl, Below.refl _ _, rfl⟩
                  · (simp only [opens]; try simp only [Nat.reduceAdd])
                    go_wp2_with fail
                    exact ⟨_, rfl, Below.refl _ _, rfl⟩
                  · have g0 : vs 7 = .slice (some ⟨g1, o1, none⟩) 1 c1 := hd 7 (by decide) (by kernel_rfl)
                    (simp only [opens]; try simp only [Nat.reduceAdd])
                    rw [g0]
                    go_wp2_with fail
                    exact ⟨_, rfl, Below.refl _ _, rfl⟩
                  · have g0 : vs 8 = .pointer (some ⟨g1, o1, none⟩) := hd 8 (by decide) (by kernel_rfl)
                    have hc := hc1.out Y hy
                    (simp only [opens]; try simp only [Nat.reduceAdd])
                    rw [g0]
                    go_wp2_with fail
                    exact ⟨_, rfl, Below.refl _ _, rfl⟩
                  · have g0 : vs 6 = .int .i64 (2 * ((k : Int) + i) + 2) := hd 6 (by decide) (by kernel_rfl)
                    have g1 : vs 9 = .int .i64 x := hd 9 (by decide) (by kernel_rfl)
                    (simp only [opens]; try simp only [Nat.reduceAdd])
                    rw [g0, g1]
                    go_wp2_with fail
                    exact ⟨_, rfl, Below.refl _ _, rfl⟩
                  · (simp only [opens]; try simp only [Nat.reduceAdd])
                    go_wp2_with fail
                    exact ⟨_, rfl, (Below.refl _ _).alloc (Nat.le_refl _) _, _, rfl, hy.size, RowL.new Y _⟩
                intro vs w3 hb3 hf
                have e0 : vs 10 = .agg #[.int .i64 (2 * ((k : Int) + i) + 2), .int .i64 x, .int .i64 0] := hf 10 (by decide)
                obtain ⟨u, e1, hu0, hu⟩ : ∃ u, vs 11 = .pointer (some ⟨u, 0, none⟩) ∧ W2.heap.size ≤ u ∧ RowL 64 w3 u [.int .i64 0, .int .i64 0, .int .i64 0] := hf 11 (by decide)
                simp only [opens, List.drop_succ_cons, List.drop_zero]
                try simp only [Nat.reduceAdd]
                rw [e0, e1]
                clear hf e0 e1
                refine wpList_row rfl 64 _ _ rfl u [.int .i64 (2 * ((k : Int) + i) + 2), .int .i64 x, .int .i64 0] rfl (by kernel_rfl) hu (by kernel_rfl) rfl (by kernel_rfl) ?_
                intro Z hZ hgZ
                have hB3 := Lib.hid (Below.grown hb3 hgZ hb3.size fun j e => by cases e; exact hu0)
                have K4 := Lib.hid (K2.out.mono P0.out hB3.out)
                have C4 := Lib.hid (C2.out.mono hB3.out)
                have p1 := Lib.hid (o1'.out.mono hB3.out)
                have p2 := Lib.hid (o2'.out.mono hB3.out)
                have hU := Lib.hid (And.intro hu0 (And.intro hZ.lt (Nat.le_trans hBg.out hB3.out.size)))
                have HZ := Lib.hid hZ
                clear hu hu0 hb3 hgZ hZ hcn
                have ho : Hid ((Z).ownsRow W1.heap.size 64 3 v2 i (lk.flatMap latCells)) := by
                  have := p2.out.1
                  rw [hlk.out] at this
                  exact this
                obtain ⟨a2, k2, rfl⟩ := owned_slice' ho.out
                have c2 := C4.out.cell 2 _ rfl
                have f2 := C4.out.frozen 2
                have l0 := HZ.out.cell 0 _ rfl
                have l1 := HZ.out.cell 1 _ rfl
                have l2 := HZ.out.cell 2 _ rfl
                go_wp2_with (first | fail | (at_builtin; refine app_new rfl _ _ 23 rfl 64 3 24 _ Tryd.underlying23 infoLatJ rfl (by decide) (w := Z) (w0 := Z) (B0 := 0) (B := W1.heap.size) (v := .slice a2 i k2) rfl ho.out (Below.refl 0 _) (Nat.zero_le _) K4.out.size _ 1 1 rfl (by intro u hu; simp at hu; rcases hu with rfl | rfl | rfl <;> rfl) (by first | rfl | simp [Act.eval]) (by omega) (by omega) ?_; intro v8 w8 hown8 hb8 hbs8 hgr8; have hown8 := Lib.hid hown8; obtain ⟨a8, c8, rfl⟩ := owned_slice' hown8.out; have K8 := Lib.hid (K4.out.app P0.out ho.out hgr8); have C8 := Lib.hid (circ_kept C4.out ho.out hgr8 HBs.out); have p8 := Lib.hid (And.intro (owns_app p1.out.1 ho.out hgr8 (by decide)) p1.out.2); have d1 := C8.out.cell 2 _ rfl; have e1 := C8.out.frozen 2; clear hb8 hbs8 hgr8 c2 f2 l0 l1 l2))
                have hgs8 := set_grown' w8 b 2 (.slice a8 (i + 1) c8)
                have K9 := Lib.hid (K8.out.keep P0.out hgs8 fun x e => .inl (Option.some.inj e).symm)
                have C9 := Lib.hid (C8.out.set 2 (.slice a8 (i + 1) c8))
                have O9 : Hid (OwnI (w8.setCell ⟨b, 2, none⟩ (.slice a8 (i + 1) c8)) W1.heap.size v1 (PI.evens (PJ.nth n 1))) := ⟨owns_other p8.out.1 hgs8 C8.out (by decide), p8.out.2⟩
                have L9 : Hid (OwnL (w8.setCell ⟨b, 2, none⟩ (.slice a8 (i + 1) c8)) W1.heap.size (.slice a8 (i + 1) c8) (lk ++ [⟨2 * ((PJ.nth n 1 : Int) + i) + 2, x, 0⟩])) := by
                  refine ⟨?_, fun x hx => ?_⟩
                  · rw [List.length_append, hlk.out, List.flatMap_append]
                    have := owns_other hown8.out hgs8 C8.out (by decide)
                    rw [HE1.out] at this
                    exact this
                  · rcases List.mem_append.1 hx with hx | hx
                    · exact ho2.out.2 x hx
                    · rw [List.mem_singleton.1 hx]
                      have := HX.out
                      have := HLN.out.2.2.1
                      have hh : PJ.nth n 1 ≤ 64 := this
                      refine ⟨?_, ?_, ?_⟩ <;> (show rng _; simp only [rng]; omega)
                clear hgs8
                go_roundg (n2 - (i + 1))
                case measure => exact hmea.out _ HG.out
                case rel => exact ⟨i + 1, q, _, _, Nat.le_refl _, hlt, by go_num, K9, C9, O9, hMA1, L9⟩
              · have HX := Lib.hid (And.intro hx0 (And.intro hx1 (And.intro hy0 hy1)))
                by_cases hy : y = 0
                · subst hy
                  have hno := Lib.hid (PI.parse_no2 HL.out (by have := hMA.out.no2 hlt hl (by simp [PI.latB]); rw [HE2.out] at this; exact this))
                  clear hN hl hx0 hx1 hy0 hy1
                  go_wp2_with (go_at_call 58; refine hN2.out.mono ?_; rintro e w1 ⟨v, rfl, hv, hR1, hg1⟩; obtain ⟨g1, o1, c1, rfl, hc1, hc2, hgs1⟩ := hv.two; have K2 := Lib.hid (hKw.out.read P0.out hg1 hR1); have C2 := Lib.hid (hCw.out.grown hg1 (fun e => by have := Option.some.inj e; have := P0.out.rb; omega)); have o1' := Lib.hid (ho1.out.kept hg1 hKw.out.rd (by decide)); have o2' := Lib.hid (ho2.out.kept hg1 hKw.out.rd (by decide)); have hBg := Lib.hid (Nat.le_trans hB1.out hg1.size); clear hg1 hv hR1)
                  have hc1 := Lib.hid fun (z : World) (hz : Below w1.heap.size w1 z) => (hz.cell hgs1).trans hc1
                  have hc2 := Lib.hid fun (z : World) (hz : Below w1.heap.size w1 z) => (hz.cell (p := ⟨g1, o1 + 1, none⟩) hgs1).trans hc2
                  have hcn := Lib.hid fun (z : World) (hz : Below w1.heap.size w1 z) => (K2.out.mono P0.out hz).nums 1 (by decide)
                  rw [← HE1.out] at hcn
                  obtain ⟨W2, hW2⟩ : ∃ W, W = w1 := ⟨_, rfl⟩
                  subst hW2
                  refine wp_region_makes 12 [isV (.slice (some ⟨g6, 0, none⟩) 7 c6), isV (.pointer (some ⟨g6, 1, none⟩)), isV (.int .i64 (k : Int)), isV (.int .i64 (i : Int)), isV (.int .i64 ((k : Int) + i)), isV (.int .i64 (2 * ((k : Int) + i))), isV (.int .i64 (2 * ((k : Int) + i) + 2)), isV (.slice (some ⟨g1, o1, none⟩) 2 c1), isV (.pointer (some ⟨g1, o1, none⟩)), isV (.int .i64 x), isV (.agg #[.int .i64 (2 * ((k : Int) + i) + 2), .int .i64 x, .int .i64 0]),
                    (fun v y' => ∃ u, v = .pointer (some ⟨u, 0, none⟩) ∧ W2.heap.size ≤ u ∧ RowL 64 y' u [.int .i64 0, .int .i64 0, .int .i64 0])]
                    [some 50, some 51, some 52, some 53, some 54, some 55, some 56, some 57, some 58, some 59, some 60, some 9] (by kernel_rfl) (by kernel_rfl) rfl (by
                      intro q hq
                      simp only [List.mem_cons, List.mem_nil_iff, or_false] at hq
                      rcases hq with rfl | rfl | rfl | rfl | rfl | rfl | rfl | rfl | rfl | rfl | rfl | rfl <;> first
                        | exact isV_keeps _ | exact fun _ _ _ hb ⟨u, e, h1, h⟩ => ⟨u, e, h1, h.mono hb⟩) ?_ ?_
                  · refine ⟨fun vs Y hy hd => ?_, fun vs Y hy hd => ?_, fun vs Y hy hd => ?_, fun vs Y hy hd => ?_, fun vs Y hy hd => ?_, fun vs Y hy hd => ?_, fun vs Y hy hd => ?_, fun vs Y hy hd => ?_, fun vs Y hy hd => ?_, fun vs Y hy hd => ?_, fun vs Y hy hd => ?_, fun vs Y hy hd => ?_, trivial⟩
                    · (simp only [opens]; try simp only [Nat.reduceAdd])
                      go_wp2_with fail
                      exact ⟨_, rfl, Below.refl _ _, rfl⟩
                    · have g0 : vs 0 = .slice (some ⟨g6, 0, none⟩) 7 c6 := hd 0 (by decide) (by kernel_rfl)
                      (simp only [opens]; try simp only [Nat.reduceAdd])
                      rw [g0]
                      go_wp2_with fail
                      exact ⟨_, rfl, Below.refl _ _, rfl⟩
                    · have g0 : vs 1 = .pointer (some ⟨g6, 1, none⟩) := hd 1 (by decide) (by kernel_rfl)
                      have hc := hcn.out Y hy
                      (simp only [opens]; try simp only [Nat.reduceAdd])
                      rw [g0]
                      go_wp2_with fail
                      exact ⟨_, rfl, Below.refl _ _, rfl⟩
                    · (simp only [opens]; try simp only [Nat.reduceAdd])
                      go_wp2_with fail
                      exact ⟨_, rfl, Below.refl _ _, rfl⟩
                    · have g0 : vs 2 = .int .i64 (k : Int) := hd 2 (by decide) (by kernel_rfl)
                      have g1 : vs 3 = .int .i64 (i : Int) := hd 3 (by decide) (by kernel_rfl)
                      (simp only [opens]; try simp only [Nat.reduceAdd])
                      rw [g0, g1]
                      go_wp2_with fail
                      exact ⟨_, rfl, Below.refl _ _, rfl⟩
                    · have g0 : vs 4 = .int .i64 ((k : Int) + i) := hd 4 (by decide) (by kernel_rfl)
                      (simp only [opens]; try simp only [Nat.reduceAdd])
                      rw [g0]
                      go_wp2_with fail
                      exact ⟨_, rfl, Below.refl _ _, rfl⟩
                    · have g0 : vs 5 = .int .i64 (2 * ((k : Int) + i)) := hd 5 (by decide) (by kernel_rfl)
                      (simp only [opens]; try simp only [Nat.reduceAdd])
                      rw [g0]
                      go_wp2_with fail
                      exact ⟨_, rfl, Below.refl _ _, rfl⟩
                    · (simp only [opens]; try simp only [Nat.reduceAdd])
                      go_wp2_with fail
                      exact ⟨_, rfl, Below.refl _ _, rfl⟩
                    · have g0 : vs 7 = .slice (some ⟨g1, o1, none⟩) 2 c1 := hd 7 (by decide) (by kernel_rfl)
                      (simp only [opens]; try simp only [Nat.reduceAdd])
                      rw [g0]
                      go_wp2_with fail
                      exact ⟨_, rfl, Below.refl _ _, rfl⟩
                    · have g0 : vs 8 = .pointer (some ⟨g1, o1, none⟩) := hd 8 (by decide) (by kernel_rfl)
                      have hc := hc1.out Y hy
                      (simp only [opens]; try simp only [Nat.reduceAdd])
                      rw [g0]
                      go_wp2_with fail
                      exact ⟨_, rfl, Below.refl _ _, rfl⟩
                    · have g0 : vs 6 = .int .i64 (2 * ((k : Int) + i) + 2) := hd 6 (by decide) (by kernel_rfl)
                      have g1 : vs 9 = .int .i64 x := hd 9 (by decide) (by kernel_rfl)
                      (simp only [opens]; try simp only [Nat.reduceAdd])
                      rw [g0, g1]
                      go_wp2_with fail
                      exact ⟨_, rfl, Below.refl _ _, rfl⟩
                    · (simp only [opens]; try simp only [Nat.reduceAdd])
                      go_wp2_with fail
                      exact ⟨_, rfl, (Below.refl _ _).alloc (Nat.le_refl _) _, _, rfl, hy.size, RowL.new Y _⟩
                  intro vs w3 hb3 hf
                  have e0 : vs 10 = .agg #[.int .i64 (2 * ((k : Int) + i) + 2), .int .i64 x, .int .i64 0] := hf 10 (by decide)
                  obtain ⟨u, e1, hu0, hu⟩ : ∃ u, vs 11 = .pointer (some ⟨u, 0, none⟩) ∧ W2.heap.size ≤ u ∧ RowL 64 w3 u [.int .i64 0, .int .i64 0, .int .i64 0] := hf 11 (by decide)
                  simp only [opens, List.drop_succ_cons, List.drop_zero]
                  try simp only [Nat.reduceAdd]
                  rw [e0, e1]
                  clear hf e0 e1
                  refine wpList_row rfl 64 _ _ rfl u [.int .i64 (2 * ((k : Int) + i) + 2), .int .i64 x, .int .i64 0] rfl (by kernel_rfl) hu (by kernel_rfl) rfl (by kernel_rfl) ?_
                  intro Z hZ hgZ
                  have hB3 := Lib.hid (Below.grown hb3 hgZ hb3.size fun j e => by cases e; exact hu0)
                  have K4 := Lib.hid (K2.out.mono P0.out hB3.out)
                  have C4 := Lib.hid (C2.out.mono hB3.out)
                  have p1 := Lib.hid (o1'.out.mono hB3.out)
                  have p2 := Lib.hid (o2'.out.mono hB3.out)
                  have hU := Lib.hid (And.intro hu0 (And.intro hZ.lt (Nat.le_trans hBg.out hB3.out.size)))
                  have HZ := Lib.hid hZ
                  clear hu hu0 hb3 hgZ hZ hcn
                  have q2 : Z.cell? ⟨g1, o1 + 1, none⟩ = some (.int .i64 0) := hc2.out Z hB3.out
                  go_wp2_with (go_at_call 59; refine (iNeed_no _).mono ?_; rintro e w5 ⟨rfl, rfl⟩)
                  exact hdoor.out _ _ _ rfl rfl rfl C4.out K4.out.err K4.out.below hno.out
                · have hMA1 := Lib.hid (hMA.out.next hlt hl (x := ⟨2 * ((PJ.nth n 1 : Int) + i) + 2, x, y⟩) (by simp [PI.latB, hy]))
                  have hyb : (y != 0) = true := by simpa using hy
                  clear hN hl hx0 hx1 hy0 hy1 hy
                  go_wp2_with (go_at_call 58; refine hN2.out.mono ?_; rintro e w1 ⟨v, rfl, hv, hR1, hg1⟩; obtain ⟨g1, o1, c1, rfl, hc1, hc2, hgs1⟩ := hv.two; have K2 := Lib.hid (hKw.out.read P0.out hg1 hR1); have C2 := Lib.hid (hCw.out.grown hg1 (fun e => by have := Option.some.inj e; have := P0.out.rb; omega)); have o1' := Lib.hid (ho1.out.kept hg1 hKw.out.rd (by decide)); have o2' := Lib.hid (ho2.out.kept hg1 hKw.out.rd (by decide)); have hBg := Lib.hid (Nat.le_trans hB1.out hg1.size); clear hg1 hv hR1)
                  have hc1 := Lib.hid fun (z : World) (hz : Below w1.heap.size w1 z) => (hz.cell hgs1).trans hc1
                  have hc2 := Lib.hid fun (z : World) (hz : Below w1.heap.size w1 z) => (hz.cell (p := ⟨g1, o1 + 1, none⟩) hgs1).trans hc2
                  have hcn := Lib.hid fun (z : World) (hz : Below w1.heap.size w1 z) => (K2.out.mono P0.out hz).nums 1 (by decide)
                  rw [← HE1.out] at hcn
                  obtain ⟨W2, hW2⟩ : ∃ W, W = w1 := ⟨_, rfl⟩
                  subst hW2
                  refine wp_region_makes 12 [isV (.slice (some ⟨g6, 0, none⟩) 7 c6), isV (.pointer (some ⟨g6, 1, none⟩)), isV (.int .i64 (k : Int)), isV (.int .i64 (i : Int)), isV (.int .i64 ((k : Int) + i)), isV (.int .i64 (2 * ((k : Int) + i))), isV (.int .i64 (2 * ((k : Int) + i) + 2)), isV (.slice (some ⟨g1, o1, none⟩) 2 c1), isV (.pointer (some ⟨g1, o1, none⟩)), isV (.int .i64 x), isV (.agg #[.int .i64 (2 * ((k : Int) + i) + 2), .int .i64 x, .int .i64 0]),
                    (fun v y' => ∃ u, v = .pointer (some ⟨u, 0, none⟩) ∧ W2.heap.size ≤ u ∧ RowL 64 y' u [.int .i64 0, .int .i64 0, .int .i64 0])]
                    [some 50, some 51, some 52, some 53, some 54, some 55, some 56, some 57, some 58, some 59, some 60, some 9] (by kernel_rfl) (by kernel_rfl) rfl (by
                      intro q hq
                      simp only [List.mem_cons, List.mem_nil_iff, or_false] at hq
                      rcases hq with rfl | rfl | rfl | rfl | rfl | rfl | rfl | rfl | rfl | rfl | rfl | rfl <;> first
                        | exact isV_keeps _ | exact fun _ _ _ hb ⟨u, e, h1, h⟩ => ⟨u, e, h1, h.mono hb⟩) ?_ ?_
                  · refine ⟨fun vs Y hy hd => ?_, fun vs Y hy hd => ?_, fun vs Y hy hd => ?_, fun vs Y hy hd => ?_, fun vs Y hy hd => ?_, fun vs Y hy hd => ?_, fun vs Y hy hd => ?_, fun vs Y hy hd => ?_, fun vs Y hy hd => ?_, fun vs Y hy hd => ?_, fun vs Y hy hd => ?_, fun vs Y hy hd => ?_, trivial⟩
                    · (simp only [opens]; try simp only [Nat.reduceAdd])
                      go_wp2_with fail
                      exact ⟨_, rfl, Below.refl _ _, rfl⟩
                    · have g0 : vs 0 = .slice (some ⟨g6, 0, none⟩) 7 c6 := hd 0 (by decide) (by kernel_rfl)
                      (simp only [opens]; try simp only [Nat.reduceAdd])
                      rw [g0]
                      go_wp2_with fail
                      exact ⟨_, rfl, Below.refl _ _, rfl⟩
                    · have g0 : vs 1 = .pointer (some ⟨g6, 1, none⟩) := hd 1 (by decide) (by kernel_rfl)
                      have hc := hcn.out Y hy
                      (simp only [opens]; try simp only [Nat.reduceAdd])
                      rw [g0]
                      go_wp2_with fail
                      exact ⟨_, rfl, Below.refl _ _, rfl⟩
                    · (simp only [opens]; try simp only [Nat.reduceAdd])
                      go_wp2_with fail
                      exact ⟨_, rfl, Below.refl _ _, rfl⟩
                    · have g0 : vs 2 = .int .i64 (k : Int) := hd 2 (by decide) (by kernel_rfl)
                      have g1 : vs 3 = .int .i64 (i : Int) := hd 3 (by decide) (by kernel_rfl)
                      (simp only [opens]; try simp only [Nat.reduceAdd])
                      rw [g0, g1]
                      go_wp2_with fail
                      exact ⟨_, rfl, Below.refl _ _, rfl⟩
                    · have g0 : vs 4 = .int .i64 ((k : Int) + i) := hd 4 (by decide) (by kernel_rfl)
                      (simp only [opens]; try simp only [Nat.reduceAdd])
                      rw [g0]
                      go_wp2_with fail
                      exact ⟨_, rfl, Below.refl _ _, rfl⟩
                    · have g0 : vs 5 = .int .i64 (2 * ((k : Int) + i)) := hd 5 (by decide) (by kernel_rfl)
                      (simp only [opens]; try simp only [Nat.reduceAdd])
                      rw [g0]
                      go_wp2_with fail
                      exact ⟨_, rfl, Below.refl _ _, rfl⟩
                    · (simp only [opens]; try simp only [Nat.reduceAdd])
                      go_wp2_with fail
                      exact ⟨_, rfl, Below.refl _ _, rfl⟩
                    · have g0 : vs 7 = .slice (some ⟨g1, o1, none⟩) 2 c1 := hd 7 (by decide) (by kernel_rfl)
                      (simp only [opens]; try simp only [Nat.reduceAdd])
                      rw [g0]
                      go_wp2_with fail
                      exact ⟨_, rfl, Below.refl _ _, rfl⟩
                    · have g0 : vs 8 = .pointer (some ⟨g1, o1, none⟩) := hd 8 (by decide) (by kernel_rfl)
                      have hc := hc1.out Y hy
                      (simp only [opens]; try simp only [Nat.reduceAdd])
                      rw [g0]
                      go_wp2_with fail
                      exact ⟨_, rfl, Below.refl _ _, rfl⟩
                    · have g0 : vs 6 = .int .i64 (2 * ((k : Int) + i) + 2) := hd 6 (by decide) (by kernel_rfl)
                      have g1 : vs 9 = .int .i64 x := hd 9 (by decide) (by kernel_rfl)
                      (simp only [opens]; try simp only [Nat.reduceAdd])
                      rw [g0, g1]
                      go_wp2_with fail
                      exact ⟨_, rfl, Below.refl _ _, rfl⟩
                    · (simp only [opens]; try simp only [Nat.reduceAdd])
                      go_wp2_with fail
                      exact ⟨_, rfl, (Below.refl _ _).alloc (Nat.le_refl _) _, _, rfl, hy.size, RowL.new Y _⟩
                  intro vs w3 hb3 hf
                  have e0 : vs 10 = .agg #[.int .i64 (2 * ((k : Int) + i) + 2), .int .i64 x, .int .i64 0] := hf 10 (by decide)
                  obtain ⟨u, e1, hu0, hu⟩ : ∃ u, vs 11 = .pointer (some ⟨u, 0, none⟩) ∧ W2.heap.size ≤ u ∧ RowL 64 w3 u [.int .i64 0, .int .i64 0, .int .i64 0] := hf 11 (by decide)
                  simp only [opens, List.drop_succ_cons, List.drop_zero]
                  try simp only [Nat.reduceAdd]
                  rw [e0, e1]
                  clear hf e0 e1
                  refine wpList_row rfl 64 _ _ rfl u [.int .i64 (2 * ((k : Int) + i) + 2), .int .i64 x, .int .i64 0] rfl (by kernel_rfl) hu (by kernel_rfl) rfl (by kernel_rfl) ?_
                  intro Z hZ hgZ
                  have hB3 := Lib.hid (Below.grown hb3 hgZ hb3.size fun j e => by cases e; exact hu0)
                  have K4 := Lib.hid (K2.out.mono P0.out hB3.out)
                  have C4 := Lib.hid (C2.out.mono hB3.out)
                  have p1 := Lib.hid (o1'.out.mono hB3.out)
                  have p2 := Lib.hid (o2'.out.mono hB3.out)
                  have hU := Lib.hid (And.intro hu0 (And.intro hZ.lt (Nat.le_trans hBg.out hB3.out.size)))
                  have HZ := Lib.hid hZ
                  clear hu hu0 hb3 hgZ hZ hcn
                  have q2 : Z.cell? ⟨g1, o1 + 1, none⟩ = some (.int .i64 y) := hc2.out Z hB3.out
                  have z2 := HZ.out.cell 2 _ rfl
                  have zf := HZ.out.frozen 2
                  have hgz := set_grown' Z u 2 (.int .i64 y)
                  have hB5 := Lib.hid (hB3.out.grown hgz hB3.out.size fun j e => by cases e; exact hU.out.1)
                  have HZ5 := Lib.hid (HZ.out.set 2 (.int .i64 y))
                  clear K4 C4 p1 p2 hgz
                  have K4 := Lib.hid (K2.out.mono P0.out hB5.out)
                  have C4 := Lib.hid (C2.out.mono hB5.out)
                  have p1 := Lib.hid (o1'.out.mono hB5.out)
                  have p2 := Lib.hid (o2'.out.mono hB5.out)
                  clear HZ
                  have HZ := Lib.hid HZ5.out
                  clear HZ5
                  have ho : Hid (((Z.setCell ⟨u, 2, none⟩ (.int .i64 y))).ownsRow W1.heap.size 64 3 v2 i (lk.flatMap latCells)) := by
                    have := p2.out.1
                    rw [hlk.out] at this
                    exact this
                  obtain ⟨a2, k2, rfl⟩ := owned_slice' ho.out
                  have c2 := C4.out.cell 2 _ rfl
                  have f2 := C4.out.frozen 2
                  have l0 := HZ.out.cell 0 _ rfl
                  have l1 := HZ.out.cell 1 _ rfl
                  have l2 := HZ.out.cell 2 _ rfl
                  go_wp2_with (first | (go_at_call 59; refine (iNeed_ok _).mono ?_; rintro e w5 ⟨rfl, hw5⟩; subst hw5) | (at_builtin; refine app_new rfl _ _ 23 rfl 64 3 24 _ Tryd.underlying23 infoLatJ rfl (by decide) (w := (Z.setCell ⟨u, 2, none⟩ (.int .i64 y))) (w0 := (Z.setCell ⟨u, 2, none⟩ (.int .i64 y))) (B0 := 0) (B := W1.heap.size) (v := .slice a2 i k2) rfl ho.out (Below.refl 0 _) (Nat.zero_le _) K4.out.size _ 1 1 rfl (by intro u hu; simp at hu; rcases hu with rfl | rfl | rfl <;> rfl) (by first | rfl | simp [Act.eval]) (by omega) (by omega) ?_; intro v8 w8 hown8 hb8 hbs8 hgr8; have hown8 := Lib.hid hown8; obtain ⟨a8, c8, rfl⟩ := owned_slice' hown8.out; have K8 := Lib.hid (K4.out.app P0.out ho.out hgr8); have C8 := Lib.hid (circ_kept C4.out ho.out hgr8 HBs.out); have p8 := Lib.hid (And.intro (owns_app p1.out.1 ho.out hgr8 (by decide)) p1.out.2); have d1 := C8.out.cell 2 _ rfl; have e1 := C8.out.frozen 2; clear hb8 hbs8 hgr8 c2 f2 l0 l1 l2))
                  have hgs8 := set_grown' w8 b 2 (.slice a8 (i + 1) c8)
                  have K9 := Lib.hid (K8.out.keep P0.out hgs8 fun x e => .inl (Option.some.inj e).symm)
                  have C9 := Lib.hid (C8.out.set 2 (.slice a8 (i + 1) c8))
                  have O9 : Hid (OwnI (w8.setCell ⟨b, 2, none⟩ (.slice a8 (i + 1) c8)) W1.heap.size v1 (PI.evens (PJ.nth n 1))) := ⟨owns_other p8.out.1 hgs8 C8.out (by decide), p8.out.2⟩
                  have L9 : Hid (OwnL (w8.setCell ⟨b, 2, none⟩ (.slice a8 (i + 1) c8)) W1.heap.size (.slice a8 (i + 1) c8) (lk ++ [⟨2 * ((PJ.nth n 1 : Int) + i) + 2, x, y⟩])) := by
                    refine ⟨?_, fun x hx => ?_⟩
                    · rw [List.length_append, hlk.out, List.flatMap_append]
                      have := owns_other hown8.out hgs8 C8.out (by decide)
                      rw [HE1.out] at this
                      exact this
                    · rcases List.mem_append.1 hx with hx | hx
                      · exact ho2.out.2 x hx
                      · rw [List.mem_singleton.1 hx]
                        have := HX.out
                        have := HLN.out.2.2.1
                        have hh : PJ.nth n 1 ≤ 64 := this
                        refine ⟨?_, ?_, ?_⟩ <;> (show rng _; simp only [rng]; omega)
                  clear hgs8
                  go_roundg (n2 - (i + 1))
                  case measure => exact hmea.out _ HG.out
                  case rel => exact ⟨i + 1, q, _, _, Nat.le_refl _, hlt, by go_num, K9, C9, O9, hMA1, L9⟩
          · have hltz : ¬ (i : Int) < (n2 : Int) := by omega
            obtain rfl : i = n2 := by omega
            have hdone := hMA.out.done hlt
            rw [HE2.out] at hdone
            obtain ⟨W4, hW4⟩ : ∃ W, W = wr := ⟨_, rfl⟩
            subst hW4
            obtain ⟨n3, e3⟩ : ∃ k, k = PJ.nth n 3 := ⟨_, rfl⟩
            obtain ⟨n5, e5⟩ : ∃ k, k = PJ.nth n 5 := ⟨_, rfl⟩
            obtain ⟨n6, e6⟩ : ∃ k, k = PJ.nth n 6 := ⟨_, rfl⟩
            have HE3 := Lib.hid e3
            have HE5 := Lib.hid e5
            have HE6 := Lib.hid e6
            have PG : Hid (PI.parse s = (PR.many PJ.oneF 1 1 0 n3 sk).bind fun o => (PR.many PJ.oneF 1 1 0 n5 o.2).bind fun x => (PR.many PJ.oneF 1 1 0 n6 x.2).bind fun y => (PI.gatsB (PJ.nth n 1 + PJ.nth n 2) (PJ.nth n 4) y.2).bind fun g =>
                (PR.names false PI.namB g.2).bind fun l => PI.fin ⟨n.getD 0 0, PI.evens (PJ.nth n 1), lk, o.1, x.1, y.1, g.1, l⟩) := by
              rw [e3, e5, e6]
              exact PI.parse_go2 HL.out hdone
            clear e3 e5 e6 hN hdone hg hk hlt hltz
            go_wp2_with fail
            obtain ⟨HN3, HN5, HN6⟩ : Hid (∀ y, W4.grownBy y (some r) → y.cell? ⟨g6, 3, none⟩ = some (.int .i64 (n3 : Int))) ∧ Hid (∀ y, W4.grownBy y (some r) → y.cell? ⟨g6, 5, none⟩ = some (.int .i64 (n5 : Int))) ∧ Hid (∀ y, W4.grownBy y (some r) → y.cell? ⟨g6, 6, none⟩ = some (.int .i64 (n6 : Int))) := by
              have hgr : g6 ≠ r := by have := P0.out.gr; omega
              refine ⟨fun y hy => ?_, fun y hy => ?_, fun y hy => ?_⟩
              · rw [HE3.out]; exact grownBy_cell hy (hKw.out.nums 3 (by decide)) hgr
              · rw [HE5.out]; exact grownBy_cell hy (hKw.out.nums 5 (by decide)) hgr
              · rw [HE6.out]; exact grownBy_cell hy (hKw.out.nums 6 (by decide)) hgr
            refine wp_region_fails 20 (fun ch y => PI.parse s = none ∧ ch = synC ∧ W4.grownBy y (some r)) [4, 9, 14, 16, 18] ([some (.pointer (some ⟨r, 0, none⟩)), some (.slice (some ⟨g6, 0, none⟩) 7 c6), some (.pointer (some ⟨g6, 3, none⟩)), some (.int .i64 (n3 : Int)), none, some (.pointer (some ⟨r, 0, none⟩)), some (.slice (some ⟨g6, 0, none⟩) 7 c6), some (.pointer (some ⟨g6, 5, none⟩)), some (.int .i64 (n5 : Int)), none, some (.pointer (some ⟨r, 0, none⟩)), some (.slice (some ⟨g6, 0, none⟩) 7 c6), some (.pointer (some ⟨g6, 6, none⟩)), some (.int .i64 (n6 : Int)), none, some (.pointer (some ⟨b, 3, none⟩)), none, some (.pointer (some ⟨b, 4, none⟩)), none, some (.pointer (some ⟨b, 5, none⟩))].map isO)
              (DI r W1.heap.size b W4 n3 n5 n6 sk [.int .i64 M, v1, v2, .slice none 0 0, .slice none 0 0, .slice none 0 0, .slice none 0 0, .slice none 0 0]) [some 80, some 81, some 82, some 83, some 84, some 85, some 86, some 87, some 88, some 89, some 90, some 91, some 92, some 93, some 94, some 95, none, some 96, none, some 97] (by kernel_rfl) (by kernel_rfl) rfl (keeps_isO _)
              (.inl ⟨rfl, grownBy_drew (World.grownBy.refl _ _), hKw.out.rd.drew⟩) (fun bs vs vs' y y' hv hb h => DI.mono hv hb h) (by decide)
              (fun ch a' y' hd ht hf => by
                obtain ⟨hno, rfl, hg⟩ := hf
                obtain ⟨tm, df⟩ := a'
                subst hd
                have hL := hKw.out.lost P0.out hCw.out hg
                exact hdoor.out y' tm _ (ht 2 (of_decide_eq_true (by kernel_rfl))) (ht 3 (of_decide_eq_true (by kernel_rfl))) rfl hL.1 hL.2.1 hL.2.2 hno) ?_ ?_
            · refine ⟨fun s' vs Y h1 h2 h3 hy hd => ?_, fun s' vs Y h1 h2 h3 hy hd => ?_, fun s' vs Y h1 h2 h3 hy hd => ?_, fun s' vs Y h1 h2 h3 hy hd => ?_, fun s' vs Y h1 h2 h3 hy hd => ?_, fun s' vs Y h1 h2 h3 hy hd => ?_, fun s' vs Y h1 h2 h3 hy hd => ?_, fun s' vs Y h1 h2 h3 hy hd => ?_, fun s' vs Y h1 h2 h3 hy hd => ?_, fun s' vs Y h1 h2 h3 hy hd => ?_, fun s' vs Y h1 h2 h3 hy hd => ?_, fun s' vs Y h1 h2 h3 hy hd => ?_, fun s' vs Y h1 h2 h3 hy hd => ?_, fun s' vs Y h1 h2 h3 hy hd => ?_, fun s' vs Y h1 h2 h3 hy hd => ?_, fun s' vs Y h1 h2 h3 hy hd => ?_, fun s' vs Y h1 h2 h3 hy hd => ?_, fun s' vs Y h1 h2 h3 hy hd => ?_, fun s' vs Y h1 h2 h3 hy hd => ?_, fun s' vs Y h1 h2 h3 hy hd => ?_, trivial⟩
              · (simp only [opens]; try simp only [Nat.reduceAdd])
                go_wp2_with fail
                exact ⟨_, rfl, rfl, Below.refl _ _⟩
              · (simp only [opens]; try simp only [Nat.reduceAdd])
                go_wp2_with fail
                exact ⟨_, rfl, rfl, Below.refl _ _⟩
              · have g0 : vs 1 = .slice (some ⟨g6, 0, none⟩) 7 c6 := hd 1 (by decide) (by kernel_rfl)
                (simp only [opens]; try simp only [Nat.reduceAdd])
                rw [g0]
                go_wp2_with fail
                exact ⟨_, rfl, rfl, Below.refl _ _⟩
              · have g0 : vs 2 = .pointer (some ⟨g6, 3, none⟩) := hd 2 (by decide) (by kernel_rfl)
                have hc := HN3.out Y (hy.at0 (h3 4 (by decide) (by kernel_rfl))).1
                (simp only [opens]; try simp only [Nat.reduceAdd])
                rw [g0]
                go_wp2_with fail
                exact ⟨_, rfl, rfl, Below.refl _ _⟩
              · have g0 : vs 0 = .pointer (some ⟨r, 0, none⟩) := hd 0 (by decide) (by kernel_rfl)
                have g1 : vs 3 = .int .i64 (n3 : Int) := hd 3 (by decide) (by kernel_rfl)
                obtain ⟨hgy, hR, hX⟩ := hy.at0 h1
                have hO := trivial
                have hC := Lib.hid (iList_any n3 r sk m Y hR (by have := hskl.out; omega) (grownBy_cell hgy hKw.out.len (Ne.symm hr0)) hr0 (by rw [HE3.out]; exact HLE.out 3 (by decide)))
                have hgy := Lib.hid hgy
                have hBY : Hid (W1.heap.size ≤ Y.heap.size) := Nat.le_trans hB1.out hgy.out.size
                have hX := Lib.hid hX
                have hO := Lib.hid hO
                have hRy := Lib.hid hR
                clear hy hR h1 h2 h3 hd
                (simp only [opens]; try simp only [Nat.reduceAdd])
                rw [g0, g1]
                go_wp2_with (go_at_call 60; refine hC.out.mono ?_; rintro e w4 ⟨hg4, ⟨l, q, v, hm1, rfl, hown, hR4, hql⟩ | ⟨hno, rfl⟩⟩)
                · exact ⟨_, rfl, trivial, .inr (.inl ⟨by simp, grownBy_two hgy.out hg4 (fun j e => .inr (Option.some.inj e).symm), l, q, hm1, hown.base hBY.out, hR4, hql⟩), fun j _ _ h => facts_isO [some (.pointer (some ⟨r, 0, none⟩)), some (.slice (some ⟨g6, 0, none⟩) 7 c6), some (.pointer (some ⟨g6, 3, none⟩)), some (.int .i64 (n3 : Int)), none, some (.pointer (some ⟨r, 0, none⟩)), some (.slice (some ⟨g6, 0, none⟩) 7 c6), some (.pointer (some ⟨g6, 5, none⟩)), some (.int .i64 (n5 : Int)), none, some (.pointer (some ⟨r, 0, none⟩)), some (.slice (some ⟨g6, 0, none⟩) 7 c6), some (.pointer (some ⟨g6, 6, none⟩)), some (.int .i64 (n6 : Int)), none, some (.pointer (some ⟨b, 3, none⟩)), none, some (.pointer (some ⟨b, 4, none⟩)), none, some (.pointer (some ⟨b, 5, none⟩))] _ _ _ _ h⟩
                · exact ⟨by rw [PG.out, hno]; rfl, rfl, grownBy_two hgy.out hg4 (fun j e => .inr (Option.some.inj e).symm)⟩
              · (simp only [opens]; try simp only [Nat.reduceAdd])
                go_wp2_with fail
                exact ⟨_, rfl, rfl, Below.refl _ _⟩
              · (simp only [opens]; try simp only [Nat.reduceAdd])
                go_wp2_with fail
                exact ⟨_, rfl, rfl, Below.refl _ _⟩
              · have g0 : vs 6 = .slice (some ⟨g6, 0, none⟩) 7 c6 := hd 6 (by decide) (by kernel_rfl)
                (simp only [opens]; try simp only [Nat.reduceAdd])
                rw [g0]
                go_wp2_with fail
                exact ⟨_, rfl, rfl, Below.refl _ _⟩
              · have g0 : vs 7 = .pointer (some ⟨g6, 5, none⟩) := hd 7 (by decide) (by kernel_rfl)
                have hc := HN5.out Y (hy.before9 (h3 9 (by decide) (by kernel_rfl)))
                (simp only [opens]; try simp only [Nat.reduceAdd])
                rw [g0]
                go_wp2_with fail
                exact ⟨_, rfl, rfl, Below.refl _ _⟩
              · have g0 : vs 5 = .pointer (some ⟨r, 0, none⟩) := hd 5 (by decide) (by kernel_rfl)
                have g1 : vs 8 = .int .i64 (n5 : Int) := hd 8 (by decide) (by kernel_rfl)
                have e4 : s' 4 = true := h2 4 (by kernel_rfl)
                obtain ⟨hgy, ⟨l1, q1, m1, o1, hR, hl1⟩, hX⟩ := hy.at1 e4 h1
                have hX := And.intro e4 hX
                have hO := And.intro m1 (And.intro o1 hl1)
                have hC := Lib.hid (iList_any n5 r q1 m Y hR (by have := hskl.out; omega) (grownBy_cell hgy hKw.out.len (Ne.symm hr0)) hr0 (by rw [HE5.out]; exact HLE.out 5 (by decide)))
                have hgy := Lib.hid hgy
                have hBY : Hid (W1.heap.size ≤ Y.heap.size) := Nat.le_trans hB1.out hgy.out.size
                have hX := Lib.hid hX
                have hO := Lib.hid hO
                have hRy := Lib.hid hR
                clear hy hR h1 h2 h3 hd
                (simp only [opens]; try simp only [Nat.reduceAdd])
                rw [g0, g1]
                go_wp2_with (go_at_call 60; refine hC.out.mono ?_; rintro e w4 ⟨hg4, ⟨l, q, v, hm1, rfl, hown, hR4, hql⟩ | ⟨hno, rfl⟩⟩)
                · exact ⟨_, rfl, trivial, .inr (.inr (.inl ⟨by simp, grownBy_two hgy.out hg4 (fun j e => .inr (Option.some.inj e).symm), l1, q1, l, q, hO.out.1, hm1, hO.out.2.1.kept hg4 hRy.out (by decide), hown.base hBY.out, hR4, by have := hO.out.2.2; omega⟩)), fun j _ _ h => facts_isO [some (.pointer (some ⟨r, 0, none⟩)), some (.slice (some ⟨g6, 0, none⟩) 7 c6), some (.pointer (some ⟨g6, 3, none⟩)), some (.int .i64 (n3 : Int)), none, some (.pointer (some ⟨r, 0, none⟩)), some (.slice (some ⟨g6, 0, none⟩) 7 c6), some (.pointer (some ⟨g6, 5, none⟩)), some (.int .i64 (n5 : Int)), none, some (.pointer (some ⟨r, 0, none⟩)), some (.slice (some ⟨g6, 0, none⟩) 7 c6), some (.pointer (some ⟨g6, 6, none⟩)), some (.int .i64 (n6 : Int)), none, some (.pointer (some ⟨b, 3, none⟩)), none, some (.pointer (some ⟨b, 4, none⟩)), none, some (.pointer (some ⟨b, 5, none⟩))] _ _ _ _ h⟩
                · exact ⟨by rw [PG.out, hO.out.1]; simp only [Option.bind_some]; rw [hno]; rfl, rfl, grownBy_two hgy.out hg4 (fun j e => .inr (Option.some.inj e).symm)⟩
              · (simp only [opens]; try simp only [Nat.reduceAdd])
                go_wp2_with fail
                exact ⟨_, rfl, rfl, Below.refl _ _⟩
              · (simp only [opens]; try simp only [Nat.reduceAdd])
                go_wp2_with fail
                exact ⟨_, rfl, rfl, Below.refl _ _⟩
              · have g0 : vs 11 = .slice (some ⟨g6, 0, none⟩) 7 c6 := hd 11 (by decide) (by kernel_rfl)
                (simp only [opens]; try simp only [Nat.reduceAdd])
                rw [g0]
                go_wp2_with fail
                exact ⟨_, rfl, rfl, Below.refl _ _⟩
              · have g0 : vs 12 = .pointer (some ⟨g6, 6, none⟩) := hd 12 (by decide) (by kernel_rfl)
                have hc := HN6.out Y (hy.before (h3 14 (by decide) (by kernel_rfl)))
                (simp only [opens]; try simp only [Nat.reduceAdd])
                rw [g0]
                go_wp2_with fail
                exact ⟨_, rfl, rfl, Below.refl _ _⟩
              · have g0 : vs 10 = .pointer (some ⟨r, 0, none⟩) := hd 10 (by decide) (by kernel_rfl)
                have g1 : vs 13 = .int .i64 (n6 : Int) := hd 13 (by decide) (by kernel_rfl)
                have e9 : s' 9 = true := h2 9 (by kernel_rfl)
                obtain ⟨hgy, ⟨l1, q1, l2, q2, m1, m2, o1, o2, hR, hl1⟩, hX⟩ := hy.at2 e9 h1
                have hX := And.intro e9 hX
                have hO := And.intro m1 (And.intro m2 (And.intro o1 (And.intro o2 hl1)))
                have hC := Lib.hid (iList_any n6 r q2 m Y hR (by have := hskl.out; omega) (grownBy_cell hgy hKw.out.len (Ne.symm hr0)) hr0 (by rw [HE6.out]; exact HLE.out 6 (by decide)))
                have hgy := Lib.hid hgy
                have hBY : Hid (W1.heap.size ≤ Y.heap.size) := Nat.le_trans hB1.out hgy.out.size
                have hX := Lib.hid hX
                have hO := Lib.hid hO
                have hRy := Lib.hid hR
                clear hy hR h1 h2 h3 hd
                (simp only [opens]; try simp only [Nat.reduceAdd])
                rw [g0, g1]
                go_wp2_with (go_at_call 60; refine hC.out.mono ?_; rintro e w4 ⟨hg4, ⟨l, q, v, hm1, rfl, hown, hR4, hql⟩ | ⟨hno, rfl⟩⟩)
                · exact ⟨_, rfl, trivial, .inr (.inr (.inr (.inl ⟨by simp, grownBy_two hgy.out hg4 (fun j e => .inr (Option.some.inj e).symm), l1, q1, l2, q2, l, q, hO.out.1, hO.out.2.1, hm1, hO.out.2.2.1.kept hg4 hRy.out (by decide), hO.out.2.2.2.1.kept hg4 hRy.out (by decide), hown.base hBY.out, hR4, by have := hO.out.2.2.2.2; omega⟩))), fun j _ _ h => facts_isO [some (.pointer (some ⟨r, 0, none⟩)), some (.slice (some ⟨g6, 0, none⟩) 7 c6), some (.pointer (some ⟨g6, 3, none⟩)), some (.int .i64 (n3 : Int)), none, some (.pointer (some ⟨r, 0, none⟩)), some (.slice (some ⟨g6, 0, none⟩) 7 c6), some (.pointer (some ⟨g6, 5, none⟩)), some (.int .i64 (n5 : Int)), none, some (.pointer (some ⟨r, 0, none⟩)), some (.slice (some ⟨g6, 0, none⟩) 7 c6), some (.pointer (some ⟨g6, 6, none⟩)), some (.int .i64 (n6 : Int)), none, some (.pointer (some ⟨b, 3, none⟩)), none, some (.pointer (some ⟨b, 4, none⟩)), none, some (.pointer (some ⟨b, 5, none⟩))] _ _ _ _ h⟩
                · exact ⟨by rw [PG.out, hO.out.1]; simp only [Option.bind_some]; rw [hO.out.2.1]; simp only [Option.bind_some]; rw [hno]; rfl, rfl, grownBy_two hgy.out hg4 (fun j e => .inr (Option.some.inj e).symm)⟩
              · (simp only [opens]; try simp only [Nat.reduceAdd])
                go_wp2_with fail
                exact ⟨_, rfl, rfl, Below.refl _ _⟩
              · have g0 : vs 15 = .pointer (some ⟨b, 3, none⟩) := hd 15 (by decide) (by kernel_rfl)
                have e14 : s' 14 = true := h2 14 (by kernel_rfl)
                obtain ⟨hgy, hG, hX⟩ := hy.at3 e14 h1
                have hRow := hCw.out.grown hgy (fun e => by have := Option.some.inj e; have := P0.out.rb; omega)
                have c3 := hRow.cell 3 _ rfl
                have f3 := hRow.frozen 3
                obtain ⟨⟨a4, m4, k4, ev4⟩, _, _⟩ := hG.slices
                have EV4 := Lib.hid ev4
                have hG := Lib.hid hG
                have hgy := Lib.hid hgy
                have hRow := Lib.hid hRow
                have hX := Lib.hid (And.intro e14 hX)
                clear hy h1 h2 h3 hd e14
                (simp only [opens]; try simp only [Nat.reduceAdd])
                rw [g0, ev4]
                clear ev4
                go_wp2_with fail
                refine ⟨rfl, undef, trivial, .inr (.inr (.inr (.inr (.inl ⟨by simp [hX.out], Y, hgy.out, ?_, set_grown' Y b 3 _, hG.out⟩)))), fun j _ _ h => facts_isO [some (.pointer (some ⟨r, 0, none⟩)), some (.slice (some ⟨g6, 0, none⟩) 7 c6), some (.pointer (some ⟨g6, 3, none⟩)), some (.int .i64 (n3 : Int)), none, some (.pointer (some ⟨r, 0, none⟩)), some (.slice (some ⟨g6, 0, none⟩) 7 c6), some (.pointer (some ⟨g6, 5, none⟩)), some (.int .i64 (n5 : Int)), none, some (.pointer (some ⟨r, 0, none⟩)), some (.slice (some ⟨g6, 0, none⟩) 7 c6), some (.pointer (some ⟨g6, 6, none⟩)), some (.int .i64 (n6 : Int)), none, some (.pointer (some ⟨b, 3, none⟩)), none, some (.pointer (some ⟨b, 4, none⟩)), none, some (.pointer (some ⟨b, 5, none⟩))] _ _ _ _ h⟩
                show RowL _ _ _ (List.set _ 3 (vs 4))
                rw [EV4.out]
                exact hRow.out.set 3 _
              · (simp only [opens]; try simp only [Nat.reduceAdd])
                go_wp2_with fail
                exact ⟨_, rfl, rfl, Below.refl _ _⟩
              · have g0 : vs 17 = .pointer (some ⟨b, 4, none⟩) := hd 17 (by decide) (by kernel_rfl)
                have e16 : s' 16 = true := h2 16 (by kernel_rfl)
                obtain ⟨⟨z, hgz, hRow, hzy, hG⟩, hX⟩ := hy.at4 e16 h1
                have c4 := hRow.cell 4 _ rfl
                have f4 := hRow.frozen 4
                obtain ⟨_, ⟨a5, m5, k5, ev5⟩, _⟩ := hG.slices
                have EV5 := Lib.hid ev5
                have hG := Lib.hid hG
                have hgz := Lib.hid hgz
                have hzy := Lib.hid hzy
                have hRow := Lib.hid hRow
                have hX := Lib.hid (And.intro e16 hX)
                clear hy h1 h2 h3 hd e16
                (simp only [opens]; try simp only [Nat.reduceAdd])
                rw [g0, ev5]
                clear ev5
                go_wp2_with fail
                refine ⟨rfl, undef, trivial, .inr (.inr (.inr (.inr (.inr ⟨by simp [hX.out], z, hgz.out, ?_, hzy.out.trans (set_grown' Y b 4 _), hG.out⟩)))), fun j _ _ h => facts_isO [some (.pointer (some ⟨r, 0, none⟩)), some (.slice (some ⟨g6, 0, none⟩) 7 c6), some (.pointer (some ⟨g6, 3, none⟩)), some (.int .i64 (n3 : Int)), none, some (.pointer (some ⟨r, 0, none⟩)), some (.slice (some ⟨g6, 0, none⟩) 7 c6), some (.pointer (some ⟨g6, 5, none⟩)), some (.int .i64 (n5 : Int)), none, some (.pointer (some ⟨r, 0, none⟩)), some (.slice (some ⟨g6, 0, none⟩) 7 c6), some (.pointer (some ⟨g6, 6, none⟩)), some (.int .i64 (n6 : Int)), none, some (.pointer (some ⟨b, 3, none⟩)), none, some (.pointer (some ⟨b, 4, none⟩)), none, some (.pointer (some ⟨b, 5, none⟩))] _ _ _ _ h⟩
                show RowL _ _ _ (List.set (List.set _ 3 (vs 4)) 4 (vs 9))
                rw [EV5.out]
                exact hRow.out.set 4 _
              · (simp only [opens]; try simp only [Nat.reduceAdd])
                go_wp2_with fail
                exact ⟨_, rfl, rfl, Below.refl _ _⟩
            intro vs Y hy hf
            have e19 : vs 19 = .pointer (some ⟨b, 5, none⟩) := hf 19 (by decide)
            obtain ⟨z, hgz, hRowY, hgzY, l3, q3, l4, q4, l5, q5, m3, m4, m5, o3, o4, o5, hRz, hlz⟩ := hy.at5
            simp only [opens, List.drop_succ_cons, List.drop_zero]
            try simp only [Nat.reduceAdd]
            rw [e19]
            clear hf e19 hy
            generalize vs 4 = v3 at *
            generalize vs 9 = v4 at *
            generalize vs 14 = v5 at *
            obtain ⟨a3, k3, rfl⟩ := owned_slice' o3.1
            obtain ⟨a4, k4, rfl⟩ := owned_slice' o4.1
            obtain ⟨a5, k5, rfl⟩ := owned_slice' o5.1
            have hCz := hCw.out.grown hgz (fun e => by have := Option.some.inj e; have := P0.out.rb; omega)
            have c5 := hRowY.cell 5 _ rfl
            have f5 := hRowY.frozen 5
            have hg5 := set_grown' Y b 5 (.slice a5 l5.length k5)
            have K5 := Lib.hid (((hKw.out.read P0.out hgz hRz).keep P0.out hgzY fun x e => .inl (Option.some.inj e).symm).keep P0.out hg5 fun x e => .inl (Option.some.inj e).symm)
            have C5 : Hid (RowL 27 (Y.setCell ⟨b, 5, none⟩ (.slice a5 l5.length k5)) b [.int .i64 M, v1, v2, .slice a3 l3.length k3, .slice a4 l4.length k4, .slice a5 l5.length k5, .slice none 0 0, .slice none 0 0]) := hRowY.set 5 (.slice a5 l5.length k5)
            have hz5 : Own5 z W1.heap.size (PI.evens (PJ.nth n 1)) lk l3 l4 l5 v1 v2 (.slice a3 l3.length k3) (.slice a4 l4.length k4) (.slice a5 l5.length k5) := ⟨ho1.out.kept hgz hKw.out.rd (by decide), ho2.out.kept hgz hKw.out.rd (by decide), o3, o4, o5⟩
            have OW := Lib.hid ((hz5.kept hgzY hCz (by decide) (by decide)).kept hg5 hRowY (by decide) (by decide))
            have PG3 : Hid (PI.parse s = (PI.gatsB (PJ.nth n 1 + PJ.nth n 2) (PJ.nth n 4) q5).bind fun g => (PR.names false PI.namB g.2).bind fun l => PI.fin ⟨n.getD 0 0, PI.evens (PJ.nth n 1), lk, l3, l4, l5, g.1, l⟩) := by
              show _ = _
              rw [PG.out, m3]; simp only [Option.bind_some]; rw [m4]; simp only [Option.bind_some]; rw [m5]; rfl
            have hq5 : Hid (q5.length ≤ 65536) := by show q5.length ≤ 65536; have := hskl.out; omega
            obtain ⟨n4, e4⟩ : ∃ k, k = PJ.nth n 4 := ⟨_, rfl⟩
            have hcn4 := K5.out.nums 4 (by decide)
            rw [← e4] at hcn4
            have HE4 := Lib.hid e4
            have hn4z : (n4 : Int) ≤ 2048 := by have := HLN.out.2.2.2.2.1; have := HE4.out; rw [this]; exact Int.ofNat_le.2 ‹_›
            clear e4 hz5 hCz hg5 hRz hlz m3 m4 m5 o3 o4 o5 hgz hgzY hRowY hKw hCw ho1 ho2 hMA hskl hlk HN3 HN5 HN6
            go_wp2_with fail
            obtain ⟨W5, hW5⟩ : ∃ W, W = Y.setCell ⟨b, 5, none⟩ (.slice a5 l5.length k5) := ⟨_, rfl⟩
            rw [← hW5] at K5 C5 OW ⊢
            clear hW5 hcn4 c5 f5
            go_loopg [101] n4 (fun gg s101 wr => ∃ (j : Nat) (tk : List UInt8) (gk : List PC.Gat) (v6 : Value), n4 - j ≤ gg ∧ j ≤ n4 ∧ s101 = .int .i64 j ∧ Hid (KeepI w b r g6 m n W1.heap.size tk wr) ∧ Hid (RowL 27 wr b [.int .i64 M, v1, v2, .slice a3 l3.length k3, .slice a4 l4.length k4, .slice a5 l5.length k5, v6, .slice none 0 0]) ∧ Hid (Own5 wr W1.heap.size (PI.evens (PJ.nth n 1)) lk l3 l4 l5 v1 v2 (.slice a3 l3.length k3) (.slice a4 l4.length k4) (.slice a5 l5.length k5)) ∧ Hid (PI.GatsAt (PJ.nth n 1 + PJ.nth n 2) n4 q5 j tk gk) ∧ Hid (OwnG wr W1.heap.size v6 gk))
            case atStart => exact ⟨0, q5, [], .slice none 0 0, by omega, Nat.zero_le _, rfl, K5.out, C5.out, OW.out, PI.GatsAt.zero, World.ownsRow_nil _ _ _ _, fun x hx => by cases hx⟩
            case round =>
              clear K5 C5 OW
              obtain ⟨j, tk, gk, v6, hg, hj, rfl, hKw, hCw, hO5, hGA, hoG⟩ := hrel
              have hTK : Hid (tk.length ≤ 65536) := by show tk.length ≤ 65536; have := hGA.out.2.2.1; have := hq5.out; omega
              have hgk : Hid (gk.length = j) := hGA.out.2.1
              have hjz : (j : Int) ≤ 2048 := by omega
              have hB1 : Hid (W1.heap.size ≤ wr.heap.size) := hKw.out.size
              by_cases hlt : j < n4
              · have hltz : (j : Int) < (n4 : Int) := by omega
                have hmea : Hid (∀ g : Nat, n4 - j ≤ g → n4 - (j + 1) < g) := fun g h => by omega
                have HG := Lib.hid hg
                clear hg
                have hcnA := Lib.hid fun (z : World) (hz : Below wr.heap.size wr z) => (hKw.out.mono P0.out hz).nums 1 (by decide)
                have hcnB := Lib.hid fun (z : World) (hz : Below wr.heap.size wr z) => (hKw.out.mono P0.out hz).nums 2 (by decide)
                rw [← HE1.out] at hcnA
                rw [← HE2.out] at hcnB
                have NO1 : Hid (PI.numB tk = none → PI.parse s = none) := fun hn => by
                  have := hGA.out.no1 hlt hn
                  rw [HE4.out] at this
                  rw [PG3.out, this]
                  rfl
                have NO2 : Hid (∀ (x : Nat) (q : List UInt8), PI.numB tk = some (x, q) → PI.numB q = none → PI.parse s = none) := fun x q h1 hn => by
                  have := hGA.out.no2 hlt h1 hn
                  rw [HE4.out] at this
                  rw [PG3.out, this]
                  rfl
                go_wp2_with fail
                obtain ⟨W6, hW6⟩ : ∃ W, W = wr := ⟨_, rfl⟩
                subst hW6
                refine wp_region_makes 13 [isV (.slice (some ⟨g6, 0, none⟩) 7 c6), isV (.pointer (some ⟨g6, 1, none⟩)), isV (.int .i64 (k : Int)), isV (.slice (some ⟨g6, 0, none⟩) 7 c6), isV (.pointer (some ⟨g6, 2, none⟩)), isV (.int .i64 (i : Int)), isV (.int .i64 ((k : Int) + i)), isV (.int .i64 (j : Int)), isV (.int .i64 ((k : Int) + i + j)), isV (.int .i64 (2 * ((k : Int) + i + j))), isV (.int .i64 (2 * ((k : Int) + i + j) + 2)), isV (.agg #[.int .i64 (2 * ((k : Int) + i + j) + 2), .int .i64 0, .int .i64 0]),
                  (fun v y' => ∃ u, v = .pointer (some ⟨u, 0, none⟩) ∧ W6.heap.size ≤ u ∧ RowL 66 y' u [.int .i64 0, .int .i64 0, .int .i64 0])]
                  [some 104, some 105, some 106, some 107, some 108, some 109, some 110, some 111, some 112, some 113, some 114, some 115, some 11] (by kernel_rfl) (by kernel_rfl) rfl (by
                    intro q hq
                    simp only [List.mem_cons, List.mem_nil_iff, or_false] at hq
                    rcases hq with rfl | rfl | rfl | rfl | rfl | rfl | rfl | rfl | rfl | rfl | rfl | rfl | rfl <;> first
                      | exact isV_keeps _ | exact fun _ _ _ hb ⟨u, e, h1, h⟩ => ⟨u, e, h1, h.mono hb⟩) ?_ ?_
                · refine ⟨fun vs Y hy hd => ?_, fun vs Y hy hd => ?_, fun vs Y hy hd => ?_, fun vs Y hy hd => ?_, fun vs Y hy hd => ?_, fun vs Y hy hd => ?_, fun vs Y hy hd => ?_, fun vs Y hy hd => ?_, fun vs Y hy hd => ?_, fun vs Y hy hd => ?_, fun vs Y hy hd => ?_, fun vs Y hy hd => ?_, fun vs Y hy hd => ?_, trivial⟩
                  · (simp only [opens]; try simp only [Nat.reduceAdd])
                    go_wp2_with fail
                    exact ⟨_, rfl, Below.refl _ _, rfl⟩
                  · have g0 : vs 0 = .slice (some ⟨g6, 0, none⟩) 7 c6 := hd 0 (by decide) (by kernel_rfl)
                    (simp only [opens]; try simp only [Nat.reduceAdd])
                    rw [g0]
                    go_wp2_with fail
                    exact ⟨_, rfl, Below.refl _ _, rfl⟩
                  · have g0 : vs 1 = .pointer (some ⟨g6, 1, none⟩) := hd 1 (by decide) (by kernel_rfl)
                    have hc := hcnA.out Y hy
                    (simp only [opens]; try simp only [Nat.reduceAdd])
                    rw [g0]
                    go_wp2_with fail
                    exact ⟨_, rfl, Below.refl _ _, rfl⟩
                  · (simp only [opens]; try simp only [Nat.reduceAdd])
                    go_wp2_with fail
                    exact ⟨_, rfl, Below.refl _ _, rfl⟩
                  · have g0 : vs 3 = .slice (some ⟨g6, 0, none⟩) 7 c6 := hd 3 (by decide) (by kernel_rfl)
                    (simp only [opens]; try simp only [Nat.reduceAdd])
                    rw [g0]
                    go_wp2_with fail
                    exact ⟨_, rfl, Below.refl _ _, rfl⟩
                  · have g0 : vs 4 = .pointer (some ⟨g6, 2, none⟩) := hd 4 (by decide) (by kernel_rfl)
                    have hc := hcnB.out Y hy
                    (simp only [opens]; try simp only [Nat.reduceAdd])
                    rw [g0]
                    go_wp2_with fail
                    exact ⟨_, rfl, Below.refl _ _, rfl⟩
                  · have g0 : vs 2 = .int .i64 (k : Int) := hd 2 (by decide) (by kernel_rfl)
                    have g1 : vs 5 = .int .i64 (i : Int) := hd 5 (by decide) (by kernel_rfl)
                    (simp only [opens]; try simp only [Nat.reduceAdd])
                    rw [g0, g1]
                    go_wp2_with fail
                    exact ⟨_, rfl, Below.refl _ _, rfl⟩
                  · (simp only [opens]; try simp only [Nat.reduceAdd])
                    go_wp2_with fail
                    exact ⟨_, rfl, Below.refl _ _, rfl⟩
                  · have g0 : vs 6 = .int .i64 ((k : Int) + i) := hd 6 (by decide) (by kernel_rfl)
                    have g1 : vs 7 = .int .i64 (j : Int) := hd 7 (by decide) (by kernel_rfl)
                    (simp only [opens]; try simp only [Nat.reduceAdd])
                    rw [g0, g1]
                    go_wp2_with fail
                    exact ⟨_, rfl, Below.refl _ _, rfl⟩
                  · have g0 : vs 8 = .int .i64 ((k : Int) + i + j) := hd 8 (by decide) (by kernel_rfl)
                    (simp only [opens]; try simp only [Nat.reduceAdd])
                    rw [g0]
                    go_wp2_with fail
                    exact ⟨_, rfl, Below.refl _ _, rfl⟩
                  · have g0 : vs 9 = .int .i64 (2 * ((k : Int) + i + j)) := hd 9 (by decide) (by kernel_rfl)
                    (simp only [opens]; try simp only [Nat.reduceAdd])
                    rw [g0]
                    go_wp2_with fail
                    exact ⟨_, rfl, Below.refl _ _, rfl⟩
                  · have g0 : vs 10 = .int .i64 (2 * ((k : Int) + i + j) + 2) := hd 10 (by decide) (by kernel_rfl)
                    (simp only [opens]; try simp only [Nat.reduceAdd])
                    rw [g0]
                    go_wp2_with fail
                    exact ⟨_, rfl, Below.refl _ _, rfl⟩
                  · (simp only [opens]; try simp only [Nat.reduceAdd])
                    go_wp2_with fail
                    exact ⟨_, rfl, (Below.refl _ _).alloc (Nat.le_refl _) _, _, rfl, hy.size, RowL.new Y _⟩
                intro vs w3 hb3 hf
                have e0 : vs 11 = .agg #[.int .i64 (2 * ((k : Int) + i + j) + 2), .int .i64 0, .int .i64 0] := hf 11 (by decide)
                obtain ⟨u, e1, hu0, hu⟩ : ∃ u, vs 12 = .pointer (some ⟨u, 0, none⟩) ∧ W6.heap.size ≤ u ∧ RowL 66 w3 u [.int .i64 0, .int .i64 0, .int .i64 0] := hf 12 (by decide)
                simp only [opens, List.drop_succ_cons, List.drop_zero]
                try simp only [Nat.reduceAdd]
                rw [e0, e1]
                clear hf e0 e1
                refine wpList_row rfl 66 _ _ rfl u [.int .i64 (2 * ((k : Int) + i + j) + 2), .int .i64 0, .int .i64 0] rfl (by kernel_rfl) hu (by kernel_rfl) rfl (by kernel_rfl) ?_
                intro Z hZ hgZ
                have hB3 := Lib.hid (Below.grown hb3 hgZ hb3.size fun j e => by cases e; exact hu0)
                have KZ := Lib.hid (hKw.out.mono P0.out hB3.out)
                have CZ := Lib.hid (hCw.out.mono hB3.out)
                have pZ := Lib.hid (hO5.out.mono hB3.out)
                have gZ := Lib.hid (hoG.out.mono hB3.out)
                have hU := Lib.hid (And.intro hu0 (And.intro hZ.lt (Nat.le_trans hB1.out hB3.out.size)))
                have hur : Hid (some u ≠ some r) := fun e => by have := Option.some.inj e; have := P0.out.rB; have := hB1.out; omega
                obtain ⟨LT, hLT⟩ : ∃ z : Int, z = 2 * ((k : Int) + i + j) + 2 := ⟨_, rfl⟩
                rw [← hLT] at hZ
                have HLT := Lib.hid hLT
                have lt0 : 0 ≤ LT := by omega
                have lt1 : LT ≤ 10000 := by omega
                have HZ := Lib.hid hZ
                clear hu hu0 hb3 hgZ hZ hcnA hcnB hLT
                clear hKw hCw hO5
                go_wp2_with fail
                refine wp_region_fails 6 (fun ch y => PI.parse s = none ∧ ch = synC ∧ (Z).grownBy y (some r)) [3, 4] ([some (.pointer (some ⟨u, 0, none⟩)), some (.int .i64 (LT)), some (.pointer (some ⟨r, 0, none⟩)), none, none, some (.pointer (some ⟨u, 1, none⟩))].map isO)
                  (DN r (Z) tk (LT)) [some 116, some 117, some 118, some 119, some 120, some 121] (by kernel_rfl) (by kernel_rfl) rfl (keeps_isO _)
                  (.inl ⟨rfl, grownBy_drew (World.grownBy.refl _ _), KZ.out.rd.drew⟩) (fun bs vs vs' y y' hv hb h => DN.mono hv hb h) (by decide)
                  (fun ch a' y' hd ht hf => by
                    obtain ⟨hno, rfl, hg⟩ := hf
                    obtain ⟨tm, df⟩ := a'
                    subst hd
                    have hL := KZ.out.lost P0.out CZ.out hg
                    exact hdoor.out y' tm _ (ht 2 (of_decide_eq_true (by kernel_rfl))) (ht 3 (of_decide_eq_true (by kernel_rfl))) rfl hL.1 hL.2.1 hL.2.2 hno) ?_ ?_
                · refine ⟨fun s' vs Y h1 h2 h3 hy hd => ?_, fun s' vs Y h1 h2 h3 hy hd => ?_, fun s' vs Y h1 h2 h3 hy hd => ?_, fun s' vs Y h1 h2 h3 hy hd => ?_, fun s' vs Y h1 h2 h3 hy hd => ?_, fun s' vs Y h1 h2 h3 hy hd => ?_, trivial⟩
                  · (simp only [opens]; try simp only [Nat.reduceAdd])
                    go_wp2_with fail
                    exact ⟨_, rfl, rfl, Below.refl _ _⟩
                  · have g0 : vs 0 = .pointer (some ⟨u, 0, none⟩) := hd 0 (by decide) (by kernel_rfl)
                    have hc := (HZ.out.grown hy.grown hur.out).cell 0 _ rfl
                    (simp only [opens]; try simp only [Nat.reduceAdd])
                    rw [g0]
                    go_wp2_with fail
                    exact ⟨_, rfl, rfl, Below.refl _ _⟩
                  · (simp only [opens]; try simp only [Nat.reduceAdd])
                    go_wp2_with fail
                    exact ⟨_, rfl, rfl, Below.refl _ _⟩
                  · have g0 : vs 2 = .pointer (some ⟨r, 0, none⟩) := hd 2 (by decide) (by kernel_rfl)
                    obtain ⟨hgy, hR, hX⟩ := hy.at0 h1
                    have hC := Lib.hid (iNumber_any r tk Y hR hTK.out)
                    have hgy := Lib.hid hgy
                    have hX := Lib.hid hX
                    clear hy hR h1 h2 h3 hd
                    (simp only [opens]; try simp only [Nat.reduceAdd])
                    rw [g0]
                    go_wp2_with (go_at_call 61; refine hC.out.mono ?_; rintro e w4 ⟨hg4, ⟨x, q, hm1, rfl, hR4, hxs⟩ | ⟨hno, rfl⟩⟩)
                    · exact ⟨_, rfl, trivial, .inr (.inl ⟨by simp, grownBy_two hgy.out hg4 (fun j e => .inr (Option.some.inj e).symm), x, q, hm1, rfl, hR4, hxs⟩), fun j _ _ h => facts_isO [some (.pointer (some ⟨u, 0, none⟩)), some (.int .i64 (LT)), some (.pointer (some ⟨r, 0, none⟩)), none, none, some (.pointer (some ⟨u, 1, none⟩))] _ _ _ _ h⟩
                    · exact ⟨NO1.out hno, rfl, grownBy_two hgy.out hg4 (fun j e => .inr (Option.some.inj e).symm)⟩
                  · have g0 : vs 1 = .int .i64 (LT) := hd 1 (by decide) (by kernel_rfl)
                    have e3 : s' 3 = true := h2 3 (by kernel_rfl)
                    obtain ⟨hgy, x, q, hm1, g3, hR, hxs⟩ := hy.at1 e3 h1
                    have hxz : (x : Int) ≤ 10000000 := by omega
                    have Hgy := Lib.hid hgy
                    have Hm1 := Lib.hid hm1
                    have HRq := Lib.hid hR
                    have He3 := Lib.hid e3
                    have Hxs := Lib.hid hxs
                    clear hy h1 h2 h3 hd hgy hm1 hR e3 hxs
                    (simp only [opens]; try simp only [Nat.reduceAdd])
                    rw [g0, g3]
                    clear g0 g3
                    go_wp2_with fail
                    exact ⟨_, rfl, trivial, .inr (.inr ⟨by simp [He3.out], Hgy.out, x, q, Hm1.out, rfl, HRq.out, Hxs.out⟩), fun j _ _ h => facts_isO [some (.pointer (some ⟨u, 0, none⟩)), some (.int .i64 (LT)), some (.pointer (some ⟨r, 0, none⟩)), none, none, some (.pointer (some ⟨u, 1, none⟩))] _ _ _ _ h⟩
                  · (simp only [opens]; try simp only [Nat.reduceAdd])
                    go_wp2_with fail
                    exact ⟨_, rfl, rfl, Below.refl _ _⟩
                intro vs Y1 hy hf
                have g5 : vs 5 = .pointer (some ⟨u, 1, none⟩) := hf 5 (by decide)
                obtain ⟨hgy, x1, q1, hm1, g4, hRy, hxs⟩ := hy.at2
                simp only [opens, List.drop_succ_cons, List.drop_zero]
                try simp only [Nat.reduceAdd]
                rw [g5, g4]
                clear hf g5 g4 hy
                have hzY := HZ.out.grown hgy hur.out
                have u1 := hzY.cell 1 _ rfl
                have uf := hzY.frozen 1
                have hgS := set_grown' Y1 u 1 (.int .i64 (LT - (x1 : Int)))
                have KY := Lib.hid ((KZ.out.read P0.out hgy hRy).keep P0.out hgS fun t e => .inr (by cases e; exact Nat.le_trans hB1.out hU.out.1))
                have CY := Lib.hid ((CZ.out.grown hgy (fun e => by have := Option.some.inj e; have := P0.out.rb; omega)).grown hgS (fun e => by have := Option.some.inj e; have := hU.out.1; have := hB1.out; have := HBs.out; omega))
                have pY := Lib.hid ((pZ.out.kept hgy KZ.out.rd (by decide) (by decide)).kept hgS hzY (by decide) (by decide))
                have gY := Lib.hid ((gZ.out.kept hgy KZ.out.rd (by decide)).put hoG.out hU.out.1 hgS)
                have HY := Lib.hid (hzY.set 1 (.int .i64 (LT - (x1 : Int))))
                have HM_x1 : Hid (PI.numB tk = some (x1, q1)) := hm1
                have hz_x1 : (x1 : Int) ≤ 10000000 := by omega
                clear hzY hgS hgy hRy hm1 hxs KZ CZ pZ gZ HZ
                go_wp2_with fail
                clear u1 uf
                obtain ⟨Z2, hZ2⟩ : ∃ W, W = Y1.setCell ⟨u, 1, none⟩ (.int .i64 (LT - (x1 : Int))) := ⟨_, rfl⟩
                rw [← hZ2] at KY CY pY gY HY ⊢
                have KZ := Lib.hid KY.out
                have CZ := Lib.hid CY.out
                have pZ := Lib.hid pY.out
                have gZ := Lib.hid gY.out
                have HZ := Lib.hid HY.out
                have hT1 : Hid (q1.length ≤ 65536) := by show q1.length ≤ 65536; have := PI.num_lt HM_x1.out; have := hTK.out; omega
                clear KY CY pY gY HY hZ2 hTK
                have hTK := Lib.hid hT1.out
                refine wp_region_fails 6 (fun ch y => PI.parse s = none ∧ ch = synC ∧ (Z2).grownBy y (some r)) [3, 4] ([some (.pointer (some ⟨u, 1, none⟩)), some (.int .i64 (LT - (x1 : Int))), some (.pointer (some ⟨r, 0, none⟩)), none, none, some (.pointer (some ⟨u, 2, none⟩))].map isO)
                  (DN r (Z2) q1 (LT - (x1 : Int))) [some 122, some 123, some 124, some 125, some 126, some 127] (by kernel_rfl) (by kernel_rfl) rfl (keeps_isO _)
                  (.inl ⟨rfl, grownBy_drew (World.grownBy.refl _ _), KZ.out.rd.drew⟩) (fun bs vs vs' y y' hv hb h => DN.mono hv hb h) (by decide)
                  (fun ch a' y' hd ht hf => by
                    obtain ⟨hno, rfl, hg⟩ := hf
                    obtain ⟨tm, df⟩ := a'
                    subst hd
                    have hL := KZ.out.lost P0.out CZ.out hg
                    exact hdoor.out y' tm _ (ht 2 (of_decide_eq_true (by kernel_rfl))) (ht 3 (of_decide_eq_true (by kernel_rfl))) rfl hL.1 hL.2.1 hL.2.2 hno) ?_ ?_
                · refine ⟨fun s' vs Y h1 h2 h3 hy hd => ?_, fun s' vs Y h1 h2 h3 hy hd => ?_, fun s' vs Y h1 h2 h3 hy hd => ?_, fun s' vs Y h1 h2 h3 hy hd => ?_, fun s' vs Y h1 h2 h3 hy hd => ?_, fun s' vs Y h1 h2 h3 hy hd => ?_, trivial⟩
                  · (simp only [opens]; try simp only [Nat.reduceAdd])
                    go_wp2_with fail
                    exact ⟨_, rfl, rfl, Below.refl _ _⟩
                  · have g0 : vs 0 = .pointer (some ⟨u, 1, none⟩) := hd 0 (by decide) (by kernel_rfl)
                    have hc := (HZ.out.grown hy.grown hur.out).cell 1 _ rfl
                    (simp only [opens]; try simp only [Nat.reduceAdd])
                    rw [g0]
                    go_wp2_with fail
                    exact ⟨_, rfl, rfl, Below.refl _ _⟩
                  · (simp only [opens]; try simp only [Nat.reduceAdd])
                    go_wp2_with fail
                    exact ⟨_, rfl, rfl, Below.refl _ _⟩
                  · have g0 : vs 2 = .pointer (some ⟨r, 0, none⟩) := hd 2 (by decide) (by kernel_rfl)
                    obtain ⟨hgy, hR, hX⟩ := hy.at0 h1
                    have hC := Lib.hid (iNumber_any r q1 Y hR hTK.out)
                    have hgy := Lib.hid hgy
                    have hX := Lib.hid hX
                    clear hy hR h1 h2 h3 hd
                    (simp only [opens]; try simp only [Nat.reduceAdd])
                    rw [g0]
                    go_wp2_with (go_at_call 61; refine hC.out.mono ?_; rintro e w4 ⟨hg4, ⟨x, q, hm1, rfl, hR4, hxs⟩ | ⟨hno, rfl⟩⟩)
                    · exact ⟨_, rfl, trivial, .inr (.inl ⟨by simp, grownBy_two hgy.out hg4 (fun j e => .inr (Option.some.inj e).symm), x, q, hm1, rfl, hR4, hxs⟩), fun j _ _ h => facts_isO [some (.pointer (some ⟨u, 1, none⟩)), some (.int .i64 (LT - (x1 : Int))), some (.pointer (some ⟨r, 0, none⟩)), none, none, some (.pointer (some ⟨u, 2, none⟩))] _ _ _ _ h⟩
                    · exact ⟨NO2.out _ _ HM_x1.out hno, rfl, grownBy_two hgy.out hg4 (fun j e => .inr (Option.some.inj e).symm)⟩
                  · have g0 : vs 1 = .int .i64 (LT - (x1 : Int)) := hd 1 (by decide) (by kernel_rfl)
                    have e3 : s' 3 = true := h2 3 (by kernel_rfl)
                    obtain ⟨hgy, x, q, hm1, g3, hR, hxs⟩ := hy.at1 e3 h1
                    have hxz : (x : Int) ≤ 10000000 := by omega
                    have Hgy := Lib.hid hgy
                    have Hm1 := Lib.hid hm1
                    have HRq := Lib.hid hR
                    have He3 := Lib.hid e3
                    have Hxs := Lib.hid hxs
                    clear hy h1 h2 h3 hd hgy hm1 hR e3 hxs
                    (simp only [opens]; try simp only [Nat.reduceAdd])
                    rw [g0, g3]
                    clear g0 g3
                    go_wp2_with fail
                    exact ⟨_, rfl, trivial, .inr (.inr ⟨by simp [He3.out], Hgy.out, x, q, Hm1.out, rfl, HRq.out, Hxs.out⟩), fun j _ _ h => facts_isO [some (.pointer (some ⟨u, 1, none⟩)), some (.int .i64 (LT - (x1 : Int))), some (.pointer (some ⟨r, 0, none⟩)), none, none, some (.pointer (some ⟨u, 2, none⟩))] _ _ _ _ h⟩
                  · (simp only [opens]; try simp only [Nat.reduceAdd])
                    go_wp2_with fail
                    exact ⟨_, rfl, rfl, Below.refl _ _⟩
                intro vs Y2 hy hf
                have g5 : vs 5 = .pointer (some ⟨u, 2, none⟩) := hf 5 (by decide)
                obtain ⟨hgy, x2, q2, hm1, g4, hRy, hxs⟩ := hy.at2
                simp only [opens, List.drop_succ_cons, List.drop_zero]
                try simp only [Nat.reduceAdd]
                rw [g5, g4]
                clear hf g5 g4 hy
                have hzY := HZ.out.grown hgy hur.out
                have u1 := hzY.cell 2 _ rfl
                have uf := hzY.frozen 2
                have hgS := set_grown' Y2 u 2 (.int .i64 (LT - (x1 : Int) - (x2 : Int)))
                have KY := Lib.hid ((KZ.out.read P0.out hgy hRy).keep P0.out hgS fun t e => .inr (by cases e; exact Nat.le_trans hB1.out hU.out.1))
                have CY := Lib.hid ((CZ.out.grown hgy (fun e => by have := Option.some.inj e; have := P0.out.rb; omega)).grown hgS (fun e => by have := Option.some.inj e; have := hU.out.1; have := hB1.out; have := HBs.out; omega))
                have pY := Lib.hid ((pZ.out.kept hgy KZ.out.rd (by decide) (by decide)).kept hgS hzY (by decide) (by decide))
                have gY := Lib.hid ((gZ.out.kept hgy KZ.out.rd (by decide)).put hoG.out hU.out.1 hgS)
                have HY := Lib.hid (hzY.set 2 (.int .i64 (LT - (x1 : Int) - (x2 : Int))))
                have HM_x2 : Hid (PI.numB q1 = some (x2, q2)) := hm1
                have hz_x2 : (x2 : Int) ≤ 10000000 := by omega
                clear hzY hgS hgy hRy hm1 hxs KZ CZ pZ gZ HZ
                have hLTe : 2 * ((PJ.nth n 1 + PJ.nth n 2 + j : Nat) : Int) + 2 = LT := by
                  have := HE1.out; have := HE2.out; have := HLT.out; omega
                have hGA2 := hGA.out.next hlt HM_x1.out HM_x2.out
                rw [hLTe] at hGA2
                have hGA2 := Lib.hid hGA2
                clear hLTe
                have ho : Hid (((Y2.setCell ⟨u, 2, none⟩ (.int .i64 (LT - (x1 : Int) - (x2 : Int))))).ownsRow W1.heap.size 66 3 v6 j (gk.flatMap gatCells)) := by
                  have := gY.out.1
                  rw [hgk.out] at this
                  exact this
                obtain ⟨a6, k6, rfl⟩ := owned_slice' ho.out
                have c6' := CY.out.cell 6 _ rfl
                have f6' := CY.out.frozen 6
                have l0 := HY.out.cell 0 _ rfl
                have l1 := HY.out.cell 1 _ rfl
                have l2 := HY.out.cell 2 _ rfl
                go_wp2_with (at_builtin; refine app_new rfl _ _ 24 rfl 66 3 24 _ Tryd.underlying24 infoGatJ rfl (by decide) (w := (Y2.setCell ⟨u, 2, none⟩ (.int .i64 (LT - (x1 : Int) - (x2 : Int))))) (w0 := (Y2.setCell ⟨u, 2, none⟩ (.int .i64 (LT - (x1 : Int) - (x2 : Int))))) (B0 := 0) (B := W1.heap.size) (v := .slice a6 j k6) rfl ho.out (Below.refl 0 _) (Nat.zero_le _) KY.out.size _ 1 1 rfl (by intro u hu; simp at hu; rcases hu with rfl | rfl | rfl <;> rfl) (by first | rfl | simp [Act.eval]) (by omega) (by omega) ?_; intro v8 w8 hown8 hb8 hbs8 hgr8; have hown8 := Lib.hid hown8; obtain ⟨a8, c8, rfl⟩ := owned_slice' hown8.out; have K8 := Lib.hid (KY.out.app P0.out ho.out hgr8); have C8 := Lib.hid (circ_kept CY.out ho.out hgr8 HBs.out); have p8 := Lib.hid (pY.out.app ho.out hgr8 (by decide) (by decide)); have d1 := C8.out.cell 6 _ rfl; have e1 := C8.out.frozen 6; clear hb8 hbs8 hgr8 c6' f6' l0 l1 l2)
                have hgs8 := set_grown' w8 b 6 (.slice a8 (j + 1) c8)
                have K9 := Lib.hid (K8.out.keep P0.out hgs8 fun x e => .inl (Option.some.inj e).symm)
                have C9 := Lib.hid (C8.out.set 6 (.slice a8 (j + 1) c8))
                have O9 := Lib.hid (p8.out.kept hgs8 C8.out (by decide) (by decide))
                have G9 : Hid (OwnG (w8.setCell ⟨b, 6, none⟩ (.slice a8 (j + 1) c8)) W1.heap.size (.slice a8 (j + 1) c8) (gk ++ [⟨LT, LT - (x1 : Int), LT - (x1 : Int) - (x2 : Int)⟩])) := by
                  refine ⟨?_, fun x hx => ?_⟩
                  · rw [List.length_append, hgk.out, List.flatMap_append]
                    exact owns_other hown8.out hgs8 C8.out (by decide)
                  · rcases List.mem_append.1 hx with hx | hx
                    · exact hoG.out.2 x hx
                    · rw [List.mem_singleton.1 hx]
                      refine ⟨?_, ?_, ?_⟩ <;> (show rng _; simp only [rng]; omega)
                clear hgs8
                go_roundg (n4 - (j + 1))
                case measure => exact hmea.out _ HG.out
                case rel => exact ⟨j + 1, _, _, _, Nat.le_refl _, hlt, by go_num, K9, C9, O9, hGA2, G9⟩
              · have hltz : ¬ (j : Int) < (n4 : Int) := by omega
                obtain rfl : j = n4 := by omega
                have hdone := hGA.out.done hlt
                rw [HE4.out] at hdone
                have PG4 : Hid (PI.parse s = (PR.names false PI.namB tk).bind fun l => PI.fin ⟨n.getD 0 0, PI.evens (PJ.nth n 1), lk, l3, l4, l5, gk, l⟩) := by
                  show _ = _
                  rw [PG3.out, hdone]
                  rfl
                have hNm := iNames_any r tk m wr hKw.out.rd hTK.out hKw.out.len hr0
                clear hdone hg hlt hj
                cases hnm : PR.names false PI.namB tk with
                | none =>
                  have hno : Hid (PI.parse s = none) := by show _ = _; rw [PG4.out, hnm]; rfl
                  have hN2 := Lib.hid (hNm.mono fun e w' hh => NamesI.none hh hnm)
                  clear hNm hnm
                  go_wp2_with (go_at_call 62; refine hN2.out.mono ?_; rintro e w7 ⟨rfl, hg7⟩)
                  have hL := hKw.out.lost P0.out hCw.out hg7
                  exact hdoor.out _ _ _ rfl rfl rfl hL.1 hL.2.1 hL.2.2 hno.out
                | some l7 =>
                  have PG5 : Hid (PI.parse s = PI.fin ⟨n.getD 0 0, PI.evens (PJ.nth n 1), lk, l3, l4, l5, gk, l7⟩) := by show _ = _; rw [PG4.out, hnm]; rfl
                  have hN2 := Lib.hid (hNm.mono fun e w' hh => NamesI.some hh hnm)
                  clear hNm hnm
                  obtain ⟨a6, k6, hv6⟩ := owned_slice' hoG.out.1
                  subst hv6
                  obtain ⟨a1, k1, hv1⟩ := owned_slice' hO5.out.1.1
                  subst hv1
                  obtain ⟨a2, k2, hv2⟩ := owned_slice' hO5.out.2.1.1
                  subst hv2
                  go_wp2_with (go_at_call 62; refine hN2.out.mono ?_; rintro e w7 ⟨v7, rfl, ho7, hg7⟩; obtain ⟨a7, k7, rfl⟩ := owned_slice' ho7.1; have hL := hKw.out.lost P0.out hCw.out hg7; have C7 := Lib.hid hL.1; have E7 := Lib.hid hL.2.1; have B7 := Lib.hid hL.2.2; have c7 := C7.out.cell 7 _ rfl; have f7 := C7.out.frozen 7; obtain ⟨r0', r1', r2', r3', r4', r5', r6', _⟩ := read8I C7.out; have HO7 := Lib.hid ho7; have HG7 := Lib.hid hg7; clear hL ho7 hg7)
                  have g7' := set_grown' w7 b 7 (.slice a7 l7.length k7)
                  have row9 : RowL 27 (w7.setCell ⟨b, 7, none⟩ (.slice a7 l7.length k7)) b [.int .i64 M, .slice a1 (PI.evens (PJ.nth n 1)).length k1, .slice a2 lk.length k2, .slice a3 l3.length k3, .slice a4 l4.length k4, .slice a5 l5.length k5, .slice a6 gk.length k6, .slice a7 l7.length k7] := C7.out.set 7 (.slice a7 l7.length k7)
                  have E9 := Lib.hid (E7.out.grown g7' (fun e => by have := Option.some.inj e; omega))
                  have B9 := Lib.hid (B7.out.grown g7' B7.out.size (fun k e => by cases e; exact HWB.out))
                  have hO7 := hO5.out.kept HG7.out hKw.out.rd (by decide) (by decide)
                  have oc : OwnC w7 W1.heap.size ⟨M, PI.evens (PJ.nth n 1), lk, l3, l4, l5, gk, l7⟩ (.slice a1 (PI.evens (PJ.nth n 1)).length k1) (.slice a2 lk.length k2) (.slice a3 l3.length k3) (.slice a4 l4.length k4) (.slice a5 l5.length k5) (.slice a6 gk.length k6) (.slice a7 l7.length k7) :=
                    ⟨hO7.1, hO7.2.1, hO7.2.2.1, hO7.2.2.2.1, hO7.2.2.2.2, hoG.out.kept HG7.out hKw.out.rd (by decide), ⟨World.ownsRow.mono HO7.out.1 hB1.out, HO7.out.2⟩, by
                      have := HEM.out; have := HLE.out 0 (by decide); show rng M; unfold rng; omega⟩
                  have OC9 := Lib.hid (oc.kept g7' C7.out (by decide) (by decide) (by decide) (by decide))
                  obtain ⟨C, hC⟩ : ∃ C : PC.Circ, C = ⟨M, PI.evens (PJ.nth n 1), lk, l3, l4, l5, gk, l7⟩ := ⟨_, rfl⟩
                  have HCM : Hid (C.max = M) := by show _ = _; rw [hC]
                  have hMn : n.getD 0 0 = M := HLN.out.1.trans HEM.out.symm
                  rw [← hC] at OC9
                  rw [hMn, ← hC] at PG5
                  have hOr := Lib.hid (aOrdered_any C (.agg #[.int .i64 M, .slice a1 (PI.evens (PJ.nth n 1)).length k1, .slice a2 lk.length k2, .slice a3 l3.length k3, .slice a4 l4.length k4, .slice a5 l5.length k5, .slice a6 gk.length k6, .slice a7 l7.length k7]) (w7.setCell ⟨b, 7, none⟩ (.slice a7 l7.length k7)) (by have := OC9.out.circ; rw [HCM.out] at this; exact this))
                  have ROW9 := Lib.hid row9
                  clear oc hO7 hC hMn g7' row9 c7 f7 r0' r1' r2' r3' r4' r5' r6' hN2
                  cases hord : PA.ordered C with
                  | false =>
                    rw [hord] at hOr
                    have hno : Hid (PI.parse s = none) := by show _ = _; rw [PG5.out]; unfold PI.fin; rw [if_neg (by rw [hord]; simp)]
                    clear hord
                    refine hOr.out.mono ?_
                    rintro e w10 ⟨rfl, hb10⟩
                    have C10 := Lib.hid (ROW9.out.mono hb10)
                    have E10 := Lib.hid (E9.out.mono hb10)
                    have B10 := Lib.hid (Below.of B9.out hb10)
                    clear hb10
                    go_wp2_with (go_at_call 59; refine (iNeed_no _).mono ?_; rintro e w11 ⟨rfl, rfl⟩)
                    exact hdoor.out _ _ _ rfl rfl rfl C10.out E10.out B10.out hno.out
                  | true =>
                    rw [hord] at hOr
                    have hyes : Hid (PI.parse s = some C) := by show _ = _; rw [PG5.out]; unfold PI.fin; rw [if_pos hord]
                    clear hord
                    refine hOr.out.mono ?_
                    rintro e w10 ⟨rfl, hb10⟩
                    have C10 := Lib.hid (ROW9.out.mono hb10)
                    have E10 := Lib.hid (E9.out.mono hb10)
                    have B10 := Lib.hid (Below.of B9.out hb10)
                    have O10 := Lib.hid (OC9.out.mono hb10)
                    clear hb10
                    go_wp2_with fail
                    refine (iNeed_ok _).mono ?_
                    rintro e w11 ⟨rfl, hw11⟩
                    subst hw11
                    rename_i Kp hKp Kq hKq
                    refine hKq _ _ (wpList_nil ?_)
                    refine hKp _ _ (wp_seq_k fun K5 hK5 => ?_)
                    refine wp_region_list ?_
                    refine wpList_ld8 rfl _ rfl b _ _ _ _ _ _ _ _ rfl C10.out ?_
                    refine wpList_row rfl 27 _ _ rfl b [.int .i64 M, .slice a1 (PI.evens (PJ.nth n 1)).length k1, .slice a2 lk.length k2, .slice a3 l3.length k3, .slice a4 l4.length k4, .slice a5 l5.length k5, .slice a6 gk.length k6, .slice a7 l7.length k7] rfl (by kernel_rfl) C10.out (by kernel_rfl) rfl (by kernel_rfl) ?_
                    intro V hV hgV
                    have EV := E10.out.grown hgV (fun e => by have := Option.some.inj e; omega)
                    have BV := B10.out.grown hgV B10.out.size (fun k e => by cases e; exact HWB.out)
                    have OV := O10.out.past hgV HBs.out
                    have e0 := EV.cell 0 _ rfl
                    have ef := EV.frozen 0
                    have hgE := set_grown' V (b + 1) 0 (.int .i64 0)
                    have EE := Lib.hid (EV.set 0 (.int .i64 0))
                    have CE := Lib.hid (hV.grown hgE (fun e => by have := Option.some.inj e; omega))
                    have BE := Lib.hid (BV.grown hgE BV.size (fun k e => by cases e; have := HWB.out; omega))
                    have OE := Lib.hid (OV.past hgE (by have := P0.out.rb; have := P0.out.rB; omega))
                    clear EV BV OV hgE hV hgV
                    go_wp2_with fail
                    exact iDoor_yes s b w _ _ C _ _ _ _ _ _ _ _ rfl rfl CE.out EE.out BE.out HS.out hyes.out (by have := OE.out.circ; rw [HCM.out] at this; exact this)

end Go.Proofs.YtjcaejdokillgaaDoor
