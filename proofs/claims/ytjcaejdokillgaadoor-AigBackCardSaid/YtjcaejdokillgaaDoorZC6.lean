/- Contract: the program's look at a circuit. -/
import Derived.Test.YtjcaejdokillgaaDoorZC4
import Derived.Defers
import Derived.Recover
namespace Go.Proofs.YtjcaejdokillgaaDoor
open Go.RowKit Go.Shelf

/-- is a literal of something that was met? -/
def knownV (ks : List Int) (l : Int) : Bool := decide (0 ≤ l) && (decide (l < 2) || ks.contains (PC.varOf l))

theorem knownV_eq (ks : List Int) (l : Int) : knownV ks l = PC.knownP ks l := by
  unfold knownV PC.knownP
  by_cases h : 0 ≤ l
  · have e : (PC.varOf l : Int) = l / 2 := by unfold PC.varOf; omega
    rw [e]
  · simp [h]

theorem enters_call1 : ∀ args w, (callFunc 99 args).run Tryd.prog w = .ok (.enter 99 args) w := enters_of Tryd.func99 (by kernel_rfl) rfl

set_option maxHeartbeats 1000000 in
theorem call1_any (ks : List Int) (l : Int) (p b q : Nat) (w : World) (hl : rng l) (h : Names w p b ks) (hq : w.cell? ⟨q, 0, none⟩ = some (.pointer (some ⟨p, 0, none⟩))) :
    Calls Tryd.prog 99 (#[.int .i64 l] ++ #[.pointer (some ⟨q, 0, none⟩)]) w fun e w' => e = .returned (.bool (!PC.knownP ks l)) ∧ Below w.heap.size w w' := by
  rw [← knownV_eq]
  have hk := cknown_any ks l p b w hl h
  change Calls _ _ _ _ fun e w' => e = .returned (.bool (knownV ks l)) ∧ Below w.heap.size w w' at hk
  generalize knownV ks l = R at *
  show Calls Tryd.prog 99 #[.int .i64 l, .pointer (some ⟨q, 0, none⟩)] w _
  go_enter Tryd.func99, Tryd.ntmps99
  go_wp2_with (go_at_call 66; refine (hk).mono ?_; rintro e w1 ⟨rfl, hb1⟩)
  go_ret
  exact ⟨rfl, hb1⟩

set_option maxHeartbeats 1000000 in
theorem call_any (ks : List Int) (l : List Int) (v : Value) (p b : Nat) (w : World) (hv : Ints w v l) (h : Names w p b ks) :
    Calls Tryd.prog 67 #[.pointer (some ⟨p, 0, none⟩), v] w fun e w' => e = .returned (.bool (l.all (PC.knownP ks))) ∧ Below w.heap.size w w' := by
  have hmf : ∀ (fn : Fn) (first cap : Array Value) (w : World), (Instr.makeFunc fn first cap).run Tryd.prog w = .ok (.func fn first cap) w := fun _ _ _ _ => rfl
  have hbw : Below w.heap.size w (w.alloc (.cells #[.pointer (some ⟨p, 0, none⟩)] 110)) := (Below.refl _ _).alloc (Nat.le_refl _) _
  have hq : (w.alloc (.cells #[.pointer (some ⟨p, 0, none⟩)] 110)).cell? ⟨w.heap.size, 0, none⟩ = some (.pointer (some ⟨p, 0, none⟩)) := World.cell?_alloc_mark _ _ _ _ _
  have hC := ContainsFuncI_any (fun x => !PC.knownP ks x) 99 #[.pointer (some ⟨w.heap.size, 0, none⟩)] _ enters_call1
    (fun x w1 hx hb => call1_any ks x p b w.heap.size w1 hx ((h.mono hbw).mono hb) ((hb.cell (World.block_lt_of_cell? _ _ hq)).trans hq)) l v (hv.mono hbw)
  have e : l.all (PC.knownP ks) = !l.any (fun x => !PC.knownP ks x) := by
    rw [List.any_eq_not_all_not, Bool.not_not]; simp
  rw [e]
  generalize l.any (fun x => !PC.knownP ks x) = R at *
  have hC := Lib.hid hC
  clear hq hbw
  go_enter Tryd.func67, Tryd.ntmps67
  go_wp2_with (go_at_call 98; refine (hC.out).mono ?_; rintro e w1 ⟨rfl, hb1⟩)
  go_ret
  exact ⟨rfl, below1 hb1⟩

end Go.Proofs.YtjcaejdokillgaaDoor

namespace Go.Proofs.YtjcaejdokillgaaDoor
open Go.RowKit Go.Shelf

theorem ta_hit (w : World) : (Instr.typeAssert (.iface 29 (.int .i64 9)) 20 29 true).run Tryd.prog w = .ok (.tuple #[.int .i64 9, .bool true]) w := by kernel_rfl
theorem ta_nil (w : World) : (Instr.typeAssert .nilIface 20 29 true).run Tryd.prog w = .ok (.tuple #[.int .i64 0, .bool false]) w := by kernel_rfl

set_option maxRecDepth 10000 in
theorem catch_panicking (p : Addr) (x : Value) (w : World) (hc : w.cell? p = some x) (hz : w.frozen? p = false) :
    CallsD Tryd.prog 63 #[.pointer (some p)] (.panicking stChain) w fun e u' w' =>
      e = .returned (.tuple #[]) ∧ u' = .panicking [{ v := .iface 29 (.int .i64 9), recovered := true }] ∧ w' = w.setCell p (.int .i64 9) := by
  unfold stChain
  have hta := ta_hit
  refine callsD_of_wpS Tryd.func63 rfl fun c₀ cs hu => ?_
  rw [show (#[.pointer (some p)] ++ Array.replicate (Tryd.f63.ntmps - (#[Value.pointer (some p)] : Array Value).size) undef : Array Value) = #[.pointer (some p), undef, undef, undef, undef, undef, undef, undef, undef, undef] from rfl]
  apply wpS_seq
  apply wpS_region
  simp [wpOpsS, go_sem, recoverD, hu, hta, Exit.thenS]
  apply wpS_seq
  apply wpS_region
  simp [wpOpsS, go_sem, Exit.thenS]
  refine wpS_cond (t := true) (by simp [Act.eval]) ?_
  simp only [if_true]
  apply wpS_region
  simp [wpOpsS, go_sem, hc, hz, bodyPostS, results, Tryd.results63]

set_option maxRecDepth 10000 in
theorem catch_idle (p : Addr) (w : World) :
    CallsD Tryd.prog 63 #[.pointer (some p)] .returning w fun e u' w' => e = .returned (.tuple #[]) ∧ u' = .returning ∧ w' = w := by
  have hta := ta_nil
  refine callsD_of_wpS Tryd.func63 rfl fun c₀ cs hu => ?_
  rw [show (#[.pointer (some p)] ++ Array.replicate (Tryd.f63.ntmps - (#[Value.pointer (some p)] : Array Value).size) undef : Array Value) = #[.pointer (some p), undef, undef, undef, undef, undef, undef, undef, undef, undef] from rfl]
  apply wpS_seq
  apply wpS_region
  simp [wpOpsS, go_sem, recoverD, hu, hta, Exit.thenS]
  apply wpS_seq
  apply wpS_region
  simp [wpOpsS, go_sem, Exit.thenS]
  refine wpS_cond (t := false) (by simp [Act.eval]) ?_
  simp only [Bool.false_eq_true, if_false]
  refine wpS_of_wp (wp_skip ?_)
  cases c₀
  simp_all [bodyPostS, results, Tryd.results63]

end Go.Proofs.YtjcaejdokillgaaDoor

namespace Go.Proofs.YtjcaejdokillgaaDoor
open Go.RowKit Go.Shelf

theorem door_no (eb : Nat) (w wr : World) (tmps : Array Value) (x : Value) (ht : tmps[2]? = some (.pointer (some ⟨eb, 0, none⟩))) (hc : wr.cell? ⟨eb, 0, none⟩ = some x) (hz : wr.frozen? ⟨eb, 0, none⟩ = false) (hb : Below w.heap.size w wr) (he : w.heap.size ≤ eb) :
    bodyPostD Tryd.prog Tryd.f24 (fun e w' => e = .returned (.int .i64 9) ∧ Below w.heap.size w w') (.panic stChain)
      { tmps := tmps, defers := [{ target := .fn (.func 63) #[.pointer (some ⟨eb, 0, none⟩)], args := #[] }] } wr := by
  show Leaves _ _ _ _ _ _ _
  refine leaves_cons (f := 63) (args := #[.pointer (some ⟨eb, 0, none⟩)]) (by simp) (by simp [go_sem]) ?_
  refine (catch_panicking ⟨eb, 0, none⟩ x wr hc hz).mono ?_
  rintro e u' w'' ⟨rfl, rfl, rfl⟩
  have hb' : Below w.heap.size w (wr.setCell ⟨eb, 0, none⟩ (.int .i64 9)) := hb.setCell he _
  have hr : (wr.setCell ⟨eb, 0, none⟩ (.int .i64 9)).cell? ⟨eb, 0, none⟩ = some (.int .i64 9) := World.cell?_setCell_same _ _ _ hc
  show ∃ v, _ ∧ _
  refine ⟨.int .i64 9, ?_, rfl, hb'⟩
  generalize wr.setCell ⟨eb, 0, none⟩ (.int .i64 9) = W at *
  simp [results, Tryd.results24, go_sem, ht, hr]

theorem door_yes (eb : Nat) (w wr : World) (tmps : Array Value) (ht : tmps[2]? = some (.pointer (some ⟨eb, 0, none⟩))) (hc : wr.cell? ⟨eb, 0, none⟩ = some (.int .i64 0)) (hb : Below w.heap.size w wr) :
    bodyPostD Tryd.prog Tryd.f24 (fun e w' => e = .returned (.int .i64 0) ∧ Below w.heap.size w w') .ret
      { tmps := tmps, defers := [{ target := .fn (.func 63) #[.pointer (some ⟨eb, 0, none⟩)], args := #[] }] } wr := by
  show Leaves _ _ _ _ _ _ _
  refine leaves_cons (f := 63) (args := #[.pointer (some ⟨eb, 0, none⟩)]) (by simp) (by simp [go_sem]) ?_
  refine (catch_idle ⟨eb, 0, none⟩ wr).mono ?_
  rintro e u' w'' ⟨rfl, rfl, rfl⟩
  show ∃ v, _ ∧ _
  refine ⟨.int .i64 0, ?_, rfl, hb⟩
  simp [results, Tryd.results24, go_sem, ht, hc]

def mx (a b : Int) : Int := if b > a then b else a
theorem run_max5 {P : Program} (ts : Array TypeId) (t : TypeId) (x1 x2 x3 x4 x5 : Int) (w : World) :
    (Builtin.max_ ts t #[.int .i64 x1, .int .i64 x2, .int .i64 x3, .int .i64 x4, .int .i64 x5]).run P w = .ok (.int .i64 (mx (mx (mx (mx x1 x2) x3) x4) x5)) w := by
  simp [Builtin.max_, Builtin.max2, mx]

theorem max5 (n1 n2 n3 n4 n5 : Nat) (ts : Array TypeId) (t : TypeId) : ∃ M : Int, (∀ w, (Builtin.max_ ts t #[.int .i64 (n1 : Int), .int .i64 (n2 : Int), .int .i64 (n3 : Int), .int .i64 (n4 : Int), .int .i64 (n5 : Int)]).run Tryd.prog w = .ok (.int .i64 M) w) ∧
    (M ≤ 64 ↔ n1 ≤ 64 ∧ n2 ≤ 64 ∧ n3 ≤ 64 ∧ n4 ≤ 64 ∧ n5 ≤ 64) := by
  refine ⟨_, fun w => run_max5 ts t _ _ _ _ _ w, ?_⟩
  have h : ∀ a b : Int, mx a b ≤ 64 ↔ a ≤ 64 ∧ b ≤ 64 := fun a b => by unfold mx; split <;> omega
  rw [h, h, h, h]
  omega

set_option maxRecDepth 100000 in
set_option maxHeartbeats 8000000 in
theorem cCheck_any (c : PC.Circ) (vc : Value) (w : World) (h : IsCirc w vc c) :
    Calls Tryd.prog 24 #[vc] w fun e w' => e = .returned (.int .i64 (if PC.pchk c then 0 else 9)) ∧ Below w.heap.size w w' := by
  have hmf : ∀ (fn : Fn) (first cap : Array Value) (w : World), (Instr.makeFunc fn first cap).run Tryd.prog w = .ok (.func fn first cap) w := fun _ _ _ _ => rfl
  have hC := Lib.hid h
  obtain ⟨vi, vl, vo, vb, vv, va, vn, rfl, hp, hm⟩ := h
  have hPI := Lib.hid hp
  obtain ⟨ai, capi, rfl, hi1, hi2, hi3⟩ := hp.inputs.open_
  obtain ⟨al, capl, rfl, hl1, hl2, hl3⟩ := hp.latches.open_
  obtain ⟨ao, capo, rfl, ho1, ho2, ho3⟩ := hp.outputs.open_
  obtain ⟨ab, capb, rfl, hb1, hb2, hb3⟩ := hp.bads.open_
  obtain ⟨av, capv, rfl, hv1, hv2, hv3⟩ := hp.invars.open_
  obtain ⟨aa, capa, rfl, ha1, ha2, ha3⟩ := hp.ands.open_
  clear hp
  have HL := Lib.hid hl3
  have HG := Lib.hid ha3
  clear hl3 ha3 hi3 ho3 hb3 hv3
  obtain ⟨R, hR⟩ : ∃ R : Int, R = if PC.pchk c then 0 else 9 := ⟨_, rfl⟩
  rw [← hR]
  have HR : Hid ((PC.pchk c = false → R = 9) ∧ (PC.pchk c = true → R = 0)) := by
    refine ⟨fun h => by rw [hR, h]; rfl, fun h => by rw [hR, h]; rfl⟩
  clear hR
  obtain ⟨M, hM, hMi⟩ := max5 c.inputs.length c.latches.length c.outputs.length c.bads.length c.invars.length #[3, 3, 3, 3, 3] 3
  have HMI := Lib.hid hMi
  clear hMi
  by_cases b0 : 0 ≤ c.max
  · by_cases b1 : c.max ≤ 2048
    · by_cases b2 : M ≤ 64
      · have hbo : PC.boundsOk c = true := by
          have := HMI.out.1 b2
          simp only [PC.boundsOk, Bool.and_eq_true, decide_eq_true_eq]
          omega
        have hbo := Lib.hid hbo
        go_enter_defers Tryd.func24, Tryd.ntmps24
        go_wp2_with (go_at_call 64; refine (need_yes _).mono ?_; rintro e w5 ⟨rfl, rfl⟩)
        generalize hW0 : (w.alloc (.cells #[.int .i64 c.max, .slice ai c.inputs.length capi, .slice al c.latches.length capl, .slice ao c.outputs.length capo, .slice ab c.bads.length capb, .slice av c.invars.length capv, .slice aa c.ands.length capa, vn] 27)).alloc (.cells #[.int .i64 0] 29) = W0
        have hbw : Below w.heap.size w W0 := by
          subst hW0
          exact (((Below.refl _ _).alloc (Nat.le_refl _) _).alloc (by simp) _)
        have hbx : Hid (Box8 W0 w.heap.size (.int .i64 c.max) (.slice ai c.inputs.length capi) (.slice al c.latches.length capl) (.slice ao c.outputs.length capo) (.slice ab c.bads.length capb) (.slice av c.invars.length capv) (.slice aa c.ands.length capa) vn) := by
          subst hW0
          exact (Box8.new w _ _ _ _ _ _ _ _ _).mono ((Below.refl _ _).alloc (Nat.le_refl _) _)
        have hec : Hid (W0.cell? ⟨w.heap.size + 1, 0, none⟩ = some (.int .i64 0) ∧ W0.frozen? ⟨w.heap.size + 1, 0, none⟩ = false ∧ w.heap.size + 1 < W0.heap.size) := by
          subst hW0
          refine ⟨by go_simp, by go_simp, by simp⟩
        clear hW0 hM
        have hbwH := Lib.hid hbw
        refine (cdefined_any c _ W0 (hC.out.mono hbw)).mono ?_
        rintro e w1 hpost
        have hpost := Lib.hid hpost
        clear hbw
        rcases hpost.out with ⟨hd, p, b, rfl, hpb, hN, hb1⟩ | ⟨hd, rfl, hb1⟩
        · have hDF := Lib.hid hd
          have hNM := Lib.hid hN
          have hb1H := Lib.hid hb1
          clear hd hN hpost
          have hK : ∀ l W, rng l → Below w1.heap.size w1 W → Calls Tryd.prog 66 #[.pointer (some ⟨p, 0, none⟩), .int .i64 l] W fun e w' => e = .returned (.bool (PC.knownP (PC.mets c) l)) ∧ Below W.heap.size W w' := by
            intro l W hl hb
            rw [← knownV_eq]
            exact cknown_any _ l p b W hl (hNM.out.mono hb)
          have hA : ∀ (v : Value) (l : List Int) W, Ints W v l → Below w1.heap.size w1 W → Calls Tryd.prog 67 #[.pointer (some ⟨p, 0, none⟩), v] W fun e w' => e = .returned (.bool (l.all (PC.knownP (PC.mets c)))) ∧ Below W.heap.size W w' :=
            fun v l W hv hb => call_any _ l v p b W hv (hNM.out.mono hb)
          have hdoor : Hid (∀ (W : World) (tmps : Array Value), tmps[2]? = some (.pointer (some ⟨w.heap.size + 1, 0, none⟩)) → Below w1.heap.size w1 W → PC.pchk c = false →
              bodyPostD Tryd.prog Tryd.f24 (fun e w' => e = .returned (.int .i64 R) ∧ Below w.heap.size w w') (.panic stChain)
                { tmps := tmps, defers := [{ target := .fn (.func 63) #[.pointer (some ⟨w.heap.size + 1, 0, none⟩)], args := #[] }] } W) := by
            intro W tmps ht hb hc
            have hbb := Below.of hb1H.out hb
            rw [HR.out.1 hc]
            exact door_no (w.heap.size + 1) w _ _ (.int .i64 0) ht ((hbb.cell hec.out.2.2).trans hec.out.1) ((hbb.frozen hec.out.2.2).trans hec.out.2.1) (Below.of hbwH.out hbb) (by omega)
          have hbx1 := Lib.hid (hbx.out.mono hb1)
          have hbb1 := Lib.hid (Below.of hbwH.out hb1)
          obtain ⟨q0, q1, q2, q3, q4, q5, q6, q7⟩ := hbx1.out
          clear hb1
          go_wp2_with fail
          go_loopg [42] c.latches.length (fun gg s42 wr => ∃ k : Nat, k ≤ c.latches.length ∧ c.latches.length - k ≤ gg ∧ s42 = .int .i64 k ∧ Below w1.heap.size w1 wr ∧ Aside (∀ j (hj : j < k) (h : j < c.latches.length), PC.knownP (PC.mets c) c.latches[j].next = true))
          case atStart => exact ⟨0, Nat.zero_le _, by omega, rfl, Below.refl _ _, fun j hj => absurd hj (Nat.not_lt_zero _)⟩
          case round =>
            clear q0 q1 q2 q3 q4 q5 q6 q7
            obtain ⟨k, hk, hg, rfl, hbr, A⟩ := hrel
            have hbxr := Lib.hid (hbx1.out.mono hbr)
            obtain ⟨q0, q1, q2, q3, q4, q5, q6, q7⟩ := hbxr.out
            by_cases hlt : k < c.latches.length
            · have hmea : ∀ g : Nat, c.latches.length - k ≤ g → c.latches.length - (k + 1) < g := fun g h => by omega
              obtain ⟨b', off, rfl, hbs', ⟨hxr, hxn, hxs⟩, c0, c1, c2⟩ := HL.out k hlt
              have hbwr := Below.of hbb1.out hbr
              have c0 := (hbwr.cell hbs').trans c0
              have c1 := (hbwr.cell hbs').trans c1
              have c2 := (hbwr.cell hbs').trans c2
              generalize hx : c.latches[k] = x at *
              have X := Lib.hid hx
              clear hx
              have hltz : (k : Int) < (c.latches.length : Int) := by omega
              have hbW : Below w1.heap.size w1 (wr.alloc (.cells #[.int .i64 x.lit, .int .i64 x.next, .int .i64 x.reset] 64)) := hbr.alloc hbr.size _
              have hKx := hK x.next
              cases d : PC.knownP (PC.mets c) x.next with
              | true =>
                rw [d] at hKx
                have D := Lib.hid d
                clear d
                go_wp2_with (first | (go_at_call 66; refine (hKx _ hxn (by exact hbW)).mono ?_; rintro e w4 ⟨rfl, hb4⟩) | (go_at_call 64; refine (need_yes _).mono ?_; rintro e w5 ⟨rfl, rfl⟩))
                go_roundg (c.latches.length - (k + 1))
                case measure => exact hmea _ hg
                case rel =>
                  refine ⟨k + 1, by omega, by omega, by go_num, Below.of hbW hb4, (show Aside _ from fun j hj h => ?_)⟩
                  by_cases e : j = k
                  · subst e; rw [X.out]; exact D.out
                  · exact A.out j (by omega) h
              | false =>
                rw [d] at hKx
                have D := Lib.hid d
                clear d
                go_wp2_with (first | (go_at_call 66; refine (hKx _ hxn (by exact hbW)).mono ?_; rintro e w4 ⟨rfl, hb4⟩) | (go_at_call 64; refine (need_no _).mono ?_; rintro e w5 ⟨rfl, rfl⟩))
                refine hdoor.out _ _ rfl (Below.of hbW hb4) (PC.pchk_false_of fun h => ?_)
                have := ((PC.pchk_iff c).1 h).2.2.1 k hlt
                rw [X.out, D.out] at this
                cases this
            · have hltz : ¬ (k : Int) < (c.latches.length : Int) := by omega
              obtain rfl : k = c.latches.length := by omega
              have S1 : Hid (∀ j (h : j < c.latches.length), PC.knownP (PC.mets c) c.latches[j].next = true) := fun j h => A.out j h h
              clear A HL
              go_wp2_with fail
              clear q0 q1 q2 q3 q4 q5 q6 q7
              go_loopg [55] c.ands.length (fun gg s55 wr => ∃ k : Nat, k ≤ c.ands.length ∧ c.ands.length - k ≤ gg ∧ s55 = .int .i64 k ∧ Below w1.heap.size w1 wr ∧
                Aside (∀ j (hj : j < k) (h : j < c.ands.length), PC.knownP (PC.mets c) c.ands[j].left = true ∧ PC.knownP (PC.mets c) c.ands[j].right = true ∧ c.ands[j].left < c.ands[j].lit ∧ c.ands[j].right < c.ands[j].lit))
              case atStart => exact ⟨0, Nat.zero_le _, by omega, rfl, hbr, fun j hj => absurd hj (Nat.not_lt_zero _)⟩
              case round =>
                clear hbxr hbr hg hk hlt hltz
                obtain ⟨k, hk, hg, rfl, hbr, A⟩ := hrel
                have hbxr := Lib.hid (hbx1.out.mono hbr)
                obtain ⟨q0, q1, q2, q3, q4, q5, q6, q7⟩ := hbxr.out
                by_cases hlt : k < c.ands.length
                · have hmea : ∀ g : Nat, c.ands.length - k ≤ g → c.ands.length - (k + 1) < g := fun g h => by omega
                  obtain ⟨b', off, rfl, hbs', ⟨hxr, hxn, hxs⟩, c0, c1, c2⟩ := HG.out k hlt
                  have hbwr := Below.of hbb1.out hbr
                  have c0 := (hbwr.cell hbs').trans c0
                  have c1 := (hbwr.cell hbs').trans c1
                  have c2 := (hbwr.cell hbs').trans c2
                  generalize hx : c.ands[k] = x at *
                  have X := Lib.hid hx
                  clear hx
                  have hltz : (k : Int) < (c.ands.length : Int) := by omega
                  go_wp2_with fail
                  generalize hWA : wr.alloc (.cells #[.int .i64 x.lit, .int .i64 x.left, .int .i64 x.right] 66) = WA
                  have hbW : Below w1.heap.size w1 WA := by rw [← hWA]; exact hbr.alloc hbr.size _
                  have hY : Hid (Box3 WA wr.heap.size (.int .i64 x.lit) (.int .i64 x.left) (.int .i64 x.right)) := by rw [← hWA]; exact Box3.new _ _ _ _ _
                  obtain ⟨n0, n1, n2⟩ := hY.out
                  clear hWA q0 q1 q2 q3 q4 q5 q6 q7 c0 c1 c2
                  have hKl := hK x.left
                  have hKr := hK x.right
                  have hbW := Lib.hid hbW
                  cases d1 : PC.knownP (PC.mets c) x.left with
                  | false =>
                    rw [d1] at hKl
                    have D1 := Lib.hid d1
                    clear d1
                    refine (hKl _ hxn hbW.out).mono ?_
                    rintro e w4 ⟨rfl, hb4⟩
                    have hbW4 := Below.of hbW.out hb4
                    clear n0 n1 n2
                    obtain ⟨n0, n1, n2⟩ := hY.out.mono hb4
                    go_wp2_with (first | (go_at_call 66; refine (hKr _ hxs (by exact hbW4)).mono ?_; rintro e w5 ⟨rfl, hb5⟩; clear n0 n1 n2; obtain ⟨n0, n1, n2⟩ := (hY.out.mono hb4).mono hb5) | (go_at_call 64; refine (need_no _).mono ?_; rintro e w6 ⟨rfl, rfl⟩))
                    refine hdoor.out _ _ rfl (by first | exact Below.of hbW4 hb5 | exact hbW4) (PC.pchk_false_of fun h => ?_)
                    have hh := ((PC.pchk_iff c).1 h).2.2.2.1 k hlt
                    rw [X.out] at hh
                    rw [D1.out] at hh; exact absurd hh.1 (by decide)
                  | true =>
                    rw [d1] at hKl
                    have D1 := Lib.hid d1
                    clear d1
                    refine (hKl _ hxn hbW.out).mono ?_
                    rintro e w4 ⟨rfl, hb4⟩
                    have hbW4 := Below.of hbW.out hb4
                    clear n0 n1 n2
                    obtain ⟨n0, n1, n2⟩ := hY.out.mono hb4
                    cases d2 : PC.knownP (PC.mets c) x.right with
                    | false =>
                      rw [d2] at hKr
                      have D2 := Lib.hid d2
                      clear d2
                      go_wp2_with (first | (go_at_call 66; refine (hKr _ hxs (by exact hbW4)).mono ?_; rintro e w5 ⟨rfl, hb5⟩; clear n0 n1 n2; obtain ⟨n0, n1, n2⟩ := (hY.out.mono hb4).mono hb5) | (go_at_call 64; refine (need_no _).mono ?_; rintro e w6 ⟨rfl, rfl⟩))
                      refine hdoor.out _ _ rfl (by first | exact Below.of hbW4 hb5 | exact hbW4) (PC.pchk_false_of fun h => ?_)
                      have hh := ((PC.pchk_iff c).1 h).2.2.2.1 k hlt
                      rw [X.out] at hh
                      rw [D2.out] at hh; exact absurd hh.2.1 (by decide)
                    | true =>
                      rw [d2] at hKr
                      have D2 := Lib.hid d2
                      clear d2
                      by_cases d3 : x.left < x.lit
                      · by_cases d4 : x.right < x.lit
                        · have D3 := Lib.hid d3
                          have D4 := Lib.hid d4
                          go_wp2_with (first | (go_at_call 66; refine (hKr _ hxs (by exact hbW4)).mono ?_; rintro e w5 ⟨rfl, hb5⟩; clear n0 n1 n2; obtain ⟨n0, n1, n2⟩ := (hY.out.mono hb4).mono hb5) | (go_at_call 64; refine (need_yes _).mono ?_; rintro e w6 ⟨rfl, rfl⟩))
                          go_roundg (c.ands.length - (k + 1))
                          case measure => exact hmea _ hg
                          case rel =>
                            refine ⟨k + 1, by omega, by omega, by go_num, Below.of hbW4 hb5, (show Aside _ from fun j hj h => ?_)⟩
                            by_cases e : j = k
                            · subst e; rw [X.out]; exact ⟨D1.out, D2.out, D3.out, D4.out⟩
                            · exact A.out j (by omega) h
                        · have D4 := Lib.hid d4
                          have d4' : decide (x.right < x.lit) = false := by simpa using d4
                          have d4'' : x.lit ≤ x.right := by omega
                          go_wp2_with (first | (go_at_call 66; refine (hKr _ hxs (by exact hbW4)).mono ?_; rintro e w5 ⟨rfl, hb5⟩; clear n0 n1 n2; obtain ⟨n0, n1, n2⟩ := (hY.out.mono hb4).mono hb5) | (go_at_call 64; refine (need_no _).mono ?_; rintro e w6 ⟨rfl, rfl⟩))
                          refine hdoor.out _ _ rfl (by first | exact Below.of hbW4 hb5 | exact hbW4) (PC.pchk_false_of fun h => ?_)
                          have hh := ((PC.pchk_iff c).1 h).2.2.2.1 k hlt
                          rw [X.out] at hh
                          have := D4.out; have := hh.2.2.2; omega
                      · have D3 := Lib.hid d3
                        have d3' : decide (x.left < x.lit) = false := by simpa using d3
                        have d3'' : x.lit ≤ x.left := by omega
                        go_wp2_with (first | (go_at_call 66; refine (hKr _ hxs (by exact hbW4)).mono ?_; rintro e w5 ⟨rfl, hb5⟩; clear n0 n1 n2; obtain ⟨n0, n1, n2⟩ := (hY.out.mono hb4).mono hb5) | (go_at_call 64; refine (need_no _).mono ?_; rintro e w6 ⟨rfl, rfl⟩))
                        refine hdoor.out _ _ rfl (by first | exact Below.of hbW4 hb5 | exact hbW4) (PC.pchk_false_of fun h => ?_)
                        have hh := ((PC.pchk_iff c).1 h).2.2.2.1 k hlt
                        rw [X.out] at hh
                        have := D3.out; have := hh.2.2.1; omega
                · have hltz : ¬ (k : Int) < (c.ands.length : Int) := by omega
                  obtain rfl : k = c.ands.length := by omega
                  have S2 : Hid (∀ k (h : k < c.ands.length), PC.knownP (PC.mets c) c.ands[k].left = true ∧ PC.knownP (PC.mets c) c.ands[k].right = true ∧ c.ands[k].left < c.ands[k].lit ∧ c.ands[k].right < c.ands[k].lit) := fun j h => A.out j h h
                  clear A HG hK
                  have hO : ∀ W, Below w1.heap.size w1 W → _ := fun W hb => hA (.slice ao c.outputs.length capo) c.outputs W (hPI.out.outputs.mono (Below.of hbb1.out hb)) hb
                  have hBd : ∀ W, Below w1.heap.size w1 W → _ := fun W hb => hA (.slice ab c.bads.length capb) c.bads W (hPI.out.bads.mono (Below.of hbb1.out hb)) hb
                  have hV : ∀ W, Below w1.heap.size w1 W → _ := fun W hb => hA (.slice av c.invars.length capv) c.invars W (hPI.out.invars.mono (Below.of hbb1.out hb)) hb
                  have hNd : ∀ W, Below w1.heap.size w1 W → _ := fun W hb => cnamed_any c _ W (hC.out.mono (Below.of hbb1.out hb)) hbo.out
                  clear hA
                  cases d1 : c.outputs.all (PC.knownP (PC.mets c)) with
                  | false =>
                    rw [d1] at hO
                    have D1 := Lib.hid d1
                    clear d1
                    go_wp2_with (first | (go_at_call 67; have _ := hbS2; refine (hV _ (by exact hbS2)).mono ?_; rintro e ws3 ⟨rfl, hs3⟩; have hbS3 := Below.of hbS2 hs3; clear q0 q1 q2 q3 q4 q5 q6 q7; obtain ⟨q0, q1, q2, q3, q4, q5, q6, q7⟩ := hbx1.out.mono hbS3) | (go_at_call 67; have _ := hbS1; refine (hBd _ (by exact hbS1)).mono ?_; rintro e ws2 ⟨rfl, hs2⟩; have hbS2 := Below.of hbS1 hs2; clear q0 q1 q2 q3 q4 q5 q6 q7; obtain ⟨q0, q1, q2, q3, q4, q5, q6, q7⟩ := hbx1.out.mono hbS2) | (go_at_call 67; refine (hO _ (by exact hbr)).mono ?_; rintro e ws1 ⟨rfl, hs1⟩; have hbS1 := Below.of hbr hs1; clear q0 q1 q2 q3 q4 q5 q6 q7; obtain ⟨q0, q1, q2, q3, q4, q5, q6, q7⟩ := hbx1.out.mono hbS1) | (go_at_call 68; refine (hNd _ (by exact hbS3)).mono ?_; rintro e ws4 ⟨rfl, hs4⟩; have hbb4 := Lib.hid (Below.of hb1H.out (Below.of hbS3 hs4)); have he1 := (hbb4.out.cell hec.out.2.2).trans hec.out.1; have hez := (hbb4.out.frozen hec.out.2.2).trans hec.out.2.1) | (go_at_call 64; refine (need_no _).mono ?_; rintro e w6 ⟨rfl, rfl⟩))
                    refine hdoor.out _ _ rfl (by first | exact Below.of hbS3 hs4 | exact hbS3 | exact hbS2 | exact hbS1) (PC.pchk_false_of fun h => ?_)
                    have hh := ((PC.pchk_iff c).1 h).2.2.2.2
                    rw [D1.out] at hh; exact absurd hh.1 (by decide)
                  | true =>
                    rw [d1] at hO
                    have D1 := Lib.hid d1
                    clear d1
                    cases d2 : c.bads.all (PC.knownP (PC.mets c)) with
                    | false =>
                      rw [d2] at hBd
                      have D2 := Lib.hid d2
                      clear d2
                      go_wp2_with (first | (go_at_call 67; have _ := hbS2; refine (hV _ (by exact hbS2)).mono ?_; rintro e ws3 ⟨rfl, hs3⟩; have hbS3 := Below.of hbS2 hs3; clear q0 q1 q2 q3 q4 q5 q6 q7; obtain ⟨q0, q1, q2, q3, q4, q5, q6, q7⟩ := hbx1.out.mono hbS3) | (go_at_call 67; have _ := hbS1; refine (hBd _ (by exact hbS1)).mono ?_; rintro e ws2 ⟨rfl, hs2⟩; have hbS2 := Below.of hbS1 hs2; clear q0 q1 q2 q3 q4 q5 q6 q7; obtain ⟨q0, q1, q2, q3, q4, q5, q6, q7⟩ := hbx1.out.mono hbS2) | (go_at_call 67; refine (hO _ (by exact hbr)).mono ?_; rintro e ws1 ⟨rfl, hs1⟩; have hbS1 := Below.of hbr hs1; clear q0 q1 q2 q3 q4 q5 q6 q7; obtain ⟨q0, q1, q2, q3, q4, q5, q6, q7⟩ := hbx1.out.mono hbS1) | (go_at_call 68; refine (hNd _ (by exact hbS3)).mono ?_; rintro e ws4 ⟨rfl, hs4⟩; have hbb4 := Lib.hid (Below.of hb1H.out (Below.of hbS3 hs4)); have he1 := (hbb4.out.cell hec.out.2.2).trans hec.out.1; have hez := (hbb4.out.frozen hec.out.2.2).trans hec.out.2.1) | (go_at_call 64; refine (need_no _).mono ?_; rintro e w6 ⟨rfl, rfl⟩))
                      refine hdoor.out _ _ rfl (by first | exact Below.of hbS3 hs4 | exact hbS3 | exact hbS2 | exact hbS1) (PC.pchk_false_of fun h => ?_)
                      have hh := ((PC.pchk_iff c).1 h).2.2.2.2
                      rw [D2.out] at hh; exact absurd hh.2.1 (by decide)
                    | true =>
                      rw [d2] at hBd
                      have D2 := Lib.hid d2
                      clear d2
                      cases d3 : c.invars.all (PC.knownP (PC.mets c)) with
                      | false =>
                        rw [d3] at hV
                        have D3 := Lib.hid d3
                        clear d3
                        go_wp2_with (first | (go_at_call 67; have _ := hbS2; refine (hV _ (by exact hbS2)).mono ?_; rintro e ws3 ⟨rfl, hs3⟩; have hbS3 := Below.of hbS2 hs3; clear q0 q1 q2 q3 q4 q5 q6 q7; obtain ⟨q0, q1, q2, q3, q4, q5, q6, q7⟩ := hbx1.out.mono hbS3) | (go_at_call 67; have _ := hbS1; refine (hBd _ (by exact hbS1)).mono ?_; rintro e ws2 ⟨rfl, hs2⟩; have hbS2 := Below.of hbS1 hs2; clear q0 q1 q2 q3 q4 q5 q6 q7; obtain ⟨q0, q1, q2, q3, q4, q5, q6, q7⟩ := hbx1.out.mono hbS2) | (go_at_call 67; refine (hO _ (by exact hbr)).mono ?_; rintro e ws1 ⟨rfl, hs1⟩; have hbS1 := Below.of hbr hs1; clear q0 q1 q2 q3 q4 q5 q6 q7; obtain ⟨q0, q1, q2, q3, q4, q5, q6, q7⟩ := hbx1.out.mono hbS1) | (go_at_call 68; refine (hNd _ (by exact hbS3)).mono ?_; rintro e ws4 ⟨rfl, hs4⟩; have hbb4 := Lib.hid (Below.of hb1H.out (Below.of hbS3 hs4)); have he1 := (hbb4.out.cell hec.out.2.2).trans hec.out.1; have hez := (hbb4.out.frozen hec.out.2.2).trans hec.out.2.1) | (go_at_call 64; refine (need_no _).mono ?_; rintro e w6 ⟨rfl, rfl⟩))
                        refine hdoor.out _ _ rfl (by first | exact Below.of hbS3 hs4 | exact hbS3 | exact hbS2 | exact hbS1) (PC.pchk_false_of fun h => ?_)
                        have hh := ((PC.pchk_iff c).1 h).2.2.2.2
                        rw [D3.out] at hh; exact absurd hh.2.2.1 (by decide)
                      | true =>
                        rw [d3] at hV
                        have D3 := Lib.hid d3
                        clear d3
                        cases d4 : PC.namedP c none c.names with
                        | false =>
                          rw [d4] at hNd
                          have D4 := Lib.hid d4
                          clear d4
                          go_wp2_with (first | (go_at_call 67; have _ := hbS2; refine (hV _ (by exact hbS2)).mono ?_; rintro e ws3 ⟨rfl, hs3⟩; have hbS3 := Below.of hbS2 hs3; clear q0 q1 q2 q3 q4 q5 q6 q7; obtain ⟨q0, q1, q2, q3, q4, q5, q6, q7⟩ := hbx1.out.mono hbS3) | (go_at_call 67; have _ := hbS1; refine (hBd _ (by exact hbS1)).mono ?_; rintro e ws2 ⟨rfl, hs2⟩; have hbS2 := Below.of hbS1 hs2; clear q0 q1 q2 q3 q4 q5 q6 q7; obtain ⟨q0, q1, q2, q3, q4, q5, q6, q7⟩ := hbx1.out.mono hbS2) | (go_at_call 67; refine (hO _ (by exact hbr)).mono ?_; rintro e ws1 ⟨rfl, hs1⟩; have hbS1 := Below.of hbr hs1; clear q0 q1 q2 q3 q4 q5 q6 q7; obtain ⟨q0, q1, q2, q3, q4, q5, q6, q7⟩ := hbx1.out.mono hbS1) | (go_at_call 68; refine (hNd _ (by exact hbS3)).mono ?_; rintro e ws4 ⟨rfl, hs4⟩; have hbb4 := Lib.hid (Below.of hb1H.out (Below.of hbS3 hs4)); have he1 := (hbb4.out.cell hec.out.2.2).trans hec.out.1; have hez := (hbb4.out.frozen hec.out.2.2).trans hec.out.2.1) | (go_at_call 64; refine (need_no _).mono ?_; rintro e w6 ⟨rfl, rfl⟩))
                          refine hdoor.out _ _ rfl (by first | exact Below.of hbS3 hs4 | exact hbS3 | exact hbS2 | exact hbS1) (PC.pchk_false_of fun h => ?_)
                          have hh := ((PC.pchk_iff c).1 h).2.2.2.2
                          rw [D4.out] at hh; exact absurd hh.2.2.2 (by decide)
                        | true =>
                          rw [d4] at hNd
                          have D4 := Lib.hid d4
                          clear d4
                          go_wp2_with (first | (go_at_call 67; have _ := hbS2; refine (hV _ (by exact hbS2)).mono ?_; rintro e ws3 ⟨rfl, hs3⟩; have hbS3 := Below.of hbS2 hs3; clear q0 q1 q2 q3 q4 q5 q6 q7; obtain ⟨q0, q1, q2, q3, q4, q5, q6, q7⟩ := hbx1.out.mono hbS3) | (go_at_call 67; have _ := hbS1; refine (hBd _ (by exact hbS1)).mono ?_; rintro e ws2 ⟨rfl, hs2⟩; have hbS2 := Below.of hbS1 hs2; clear q0 q1 q2 q3 q4 q5 q6 q7; obtain ⟨q0, q1, q2, q3, q4, q5, q6, q7⟩ := hbx1.out.mono hbS2) | (go_at_call 67; refine (hO _ (by exact hbr)).mono ?_; rintro e ws1 ⟨rfl, hs1⟩; have hbS1 := Below.of hbr hs1; clear q0 q1 q2 q3 q4 q5 q6 q7; obtain ⟨q0, q1, q2, q3, q4, q5, q6, q7⟩ := hbx1.out.mono hbS1) | (go_at_call 68; refine (hNd _ (by exact hbS3)).mono ?_; rintro e ws4 ⟨rfl, hs4⟩; have hbb4 := Lib.hid (Below.of hb1H.out (Below.of hbS3 hs4)); have he1 := (hbb4.out.cell hec.out.2.2).trans hec.out.1; have hez := (hbb4.out.frozen hec.out.2.2).trans hec.out.2.1) | (go_at_call 64; refine (need_yes _).mono ?_; rintro e w6 ⟨rfl, rfl⟩))
                          have hgood : R = 0 := HR.out.2 ((PC.pchk_iff c).2 ⟨hbo.out, hDF.out, S1.out, S2.out, D1.out, D2.out, D3.out, D4.out⟩)
                          rw [hgood]
                          exact door_yes (w.heap.size + 1) w _ _ rfl (World.cell?_setCell_same _ _ _ he1) ((Below.of hbwH.out hbb4.out).setCell (Nat.le_succ _) _)
        · go_wp2_with fail
          have hbad : R = 9 := HR.out.1 (PC.pchk_false_of fun h => by
            have := ((PC.pchk_iff c).1 h).2.1
            rw [hd] at this; cases this)
          rw [hbad]
          exact door_no (w.heap.size + 1) w _ _ (.int .i64 0) rfl ((hb1.cell hec.out.2.2).trans hec.out.1) ((hb1.frozen hec.out.2.2).trans hec.out.2.1) (Below.of hbwH.out hb1) (by omega)
      · go_enter_defers Tryd.func24, Tryd.ntmps24
        go_wp2_with (go_at_call 64; refine (need_no _).mono ?_; rintro e w5 ⟨rfl, rfl⟩)
        have hbad : R = 9 := HR.out.1 (PC.pchk_false_of fun h => by
          have := ((PC.pchk_iff c).1 h).1
          simp only [PC.boundsOk, Bool.and_eq_true, decide_eq_true_eq] at this
          have hmi := HMI.out
          omega)
        rw [hbad]
        exact door_no (w.heap.size + 1) w _ _ (.int .i64 0) rfl (by go_simp) (by go_simp) (((Below.refl _ _).alloc (Nat.le_refl _) _).alloc (by simp) _) (by omega)
    · go_enter_defers Tryd.func24, Tryd.ntmps24
      go_wp2_with (go_at_call 64; refine (need_no _).mono ?_; rintro e w5 ⟨rfl, rfl⟩)
      have hbad : R = 9 := HR.out.1 (PC.pchk_false_of fun h => by
        have := ((PC.pchk_iff c).1 h).1
        simp only [PC.boundsOk, Bool.and_eq_true, decide_eq_true_eq] at this
        have hmi := HMI.out
        omega)
      rw [hbad]
      exact door_no (w.heap.size + 1) w _ _ (.int .i64 0) rfl (by go_simp) (by go_simp) (((Below.refl _ _).alloc (Nat.le_refl _) _).alloc (by simp) _) (by omega)
  · go_enter_defers Tryd.func24, Tryd.ntmps24
    go_wp2_with (go_at_call 64; refine (need_no _).mono ?_; rintro e w5 ⟨rfl, rfl⟩)
    have hbad : R = 9 := HR.out.1 (PC.pchk_false_of fun h => by
      have := ((PC.pchk_iff c).1 h).1
      simp only [PC.boundsOk, Bool.and_eq_true, decide_eq_true_eq] at this
      have hmi := HMI.out
      omega)
    rw [hbad]
    exact door_no (w.heap.size + 1) w _ _ (.int .i64 0) rfl (by go_simp) (by go_simp) (((Below.refl _ _).alloc (Nat.le_refl _) _).alloc (by simp) _) (by omega)

end Go.Proofs.YtjcaejdokillgaaDoor
