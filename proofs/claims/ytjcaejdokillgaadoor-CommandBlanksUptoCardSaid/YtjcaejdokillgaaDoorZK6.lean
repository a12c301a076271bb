/- Contracts: lines' commands: a line's command. -/
import Derived.Test.YtjcaejdokillgaaDoorZWalkK4
import Derived.Test.YtjcaejdokillgaaDoorZWalkK5
import Derived.Test.YtjcaejdokillgaaDoorZJ9
import Derived.Test.YtjcaejdokillgaaDoorZC6
namespace Go.Proofs.YtjcaejdokillgaaDoor
open Go.RowKit Go.Shelf
attribute [local simp] mk_get

abbrev zero3 : List Value := [.int .i64 0, .slice none 0 0, .string ⟨#[]⟩]

theorem ta_hitK (n : Int) (w : World) : (Instr.typeAssert (.iface 29 (.int .i64 n)) 20 29 true).run Tryd.prog w = .ok (.tuple #[.int .i64 n, .bool true]) w := by kernel_rfl

theorem wpList_mvK {P : Program} {ops : Array Oper} {rest : List Oper} {o : Oper} {a : Act} {w : World} {Q : Exit → Act → World → Prop} (hg : o.guard = none) (x : Operand) (ho : o.op = .move x)
    (h : wpList P ops Q rest (a.put o.dst (a.eval x)) w) : wpList P ops Q (o :: rest) a w :=
  wpList_plain hg fun K hK => by
    unfold Oper.wp execOp
    simp only [ho]
    exact hK _ _ h

theorem frameK (p0 p1 : Value) : (#[p0, p1] ++ Array.replicate (Tryd.f43.ntmps - (#[p0, p1] : Array Value).size) undef : Array Value) = #[p0, p1, undef, undef, undef, undef, undef, undef, undef, undef, undef, undef] := rfl

set_option maxRecDepth 100000 in
set_option maxHeartbeats 1000000 in
theorem kCatch_idle (p0 p1 : Value) (w : World) :
    CallsD Tryd.prog 43 #[p0, p1] .returning w fun e u' w' => e = .returned (.tuple #[]) ∧ u' = .returning ∧ w' = w := by
  have hta := ta_nil
  refine callsD_of_wpS Tryd.func43 rfl fun c₀ cs hu => ?_
  rw [frameK]
  apply wpS_seq
  apply wpS_region
  simp [wpOpsS, go_sem, recoverD, hu, hta, Exit.thenS]
  apply wpS_seq
  apply wpS_region
  simp [wpOpsS, go_sem, Exit.thenS]
  refine wpS_cond (t := false) (by simp [Act.eval]) ?_
  simp only [Bool.false_eq_true, if_false]
  refine wpS_of_wp (wp_skip ?_)
  cases c₀
  simp_all [bodyPostS, results, Tryd.results43]

set_option maxRecDepth 100000 in
set_option maxHeartbeats 2000000 in
theorem kCatch_hit (b : Nat) (n : Int) (cs : List Value) (hcs : cs.length = 3) (y : Value) (w : World) (h0 : RowL 41 w b cs) (h2 : RowL 29 w (b + 1) [y]) :
    CallsD Tryd.prog 43 #[.pointer (some ⟨b, 0, none⟩), .pointer (some ⟨b + 1, 0, none⟩)] (.panicking (errC n)) w fun e u' w' =>
      e = .returned (.tuple #[]) ∧ u' = .panicking [{ v := .iface 29 (.int .i64 n), recovered := true }] ∧ RowL 41 w' b zero3 ∧ RowL 29 w' (b + 1) [.int .i64 n] ∧ Below b w w' := by
  have hta := ta_hitK n
  have H0 := Lib.hid h0
  have H2 := Lib.hid h2
  clear h0 h2
  refine callsD_of_wpS Tryd.func43 rfl fun c₀ cs' hu => ?_
  rw [frameK]
  apply wpS_seq
  apply wpS_region
  simp [wpOpsS, go_sem, recoverD, hu, hta, Exit.thenS]
  apply wpS_seq
  apply wpS_region
  simp [wpOpsS, go_sem, Exit.thenS]
  refine wpS_cond (t := true) (by simp [Act.eval]) ?_
  simp only [if_true]
  refine wpS_of_wp (wp_region_list ?_)
  refine wpList_build rfl 41 _ rfl (by kernel_rfl) ?_
  refine wpList_mvK rfl _ rfl ?_
  refine wpList_row rfl 41 _ _ rfl b zero3 rfl (by kernel_rfl) H0.out (by kernel_rfl) (by rw [hcs]; rfl) (by kernel_rfl) ?_
  intro V hV hg
  have h1 := H2.out.grown hg (fun e => by have := Option.some.inj e; omega)
  have hb := (Below.refl b w).grown hg (Nat.le_of_lt H0.out.lt) (fun k e => by cases e; exact Nat.le_refl _)
  have c1 := h1.cell 0 _ rfl
  have f1 := h1.frozen 0
  have q1 := set_grown' V (b + 1) 0 (.int .i64 n)
  have R := Lib.hid (And.intro (hV.grown q1 (fun e => by have := Option.some.inj e; omega)) (And.intro (h1.set 0 (.int .i64 n)) (hb.grown q1 (by have := hV.lt; omega) (fun k e => by cases e; omega))))
  clear hV hg h1 hb q1 H0 H2
  go_wp2_with fail
  simp only [bodyPostS, results, Tryd.results43]
  exact ⟨trivial, _, rfl, .tuple #[], by simp [go_sem], rfl, rfl, R.out.1, R.out.2.1, R.out.2.2⟩

abbrev kindS : List UInt8 := List.append [116, 101, 120, 116, 32, 108, 111, 97, 100, 32, 97, 115, 115, 117, 109, 101, 32, 108, 101, 109, 109, 97, 32, 114, 101, 116, 114, 97, 99, 116, 32, 112, 117, 115, 104, 32, 112, 111, 112, 32, 108, 105, 115, 116, 32, 99, 104] [101, 99, 107, 32, 119, 105, 116, 110, 101, 115, 115, 32, 105, 110, 118, 97, 114, 105, 97, 110, 116, 32, 102, 114, 97, 109, 101, 32, 114, 101, 115, 101, 116, 32, 115, 116, 101, 112, 32, 112, 101, 101, 107, 32, 115, 105, 122, 101]
def kindL : List (List UInt8) := PS.cut 32 kindS
def kindK (x : List UInt8) : Int := ixK x kindL + 1

/-- what a line's words say -/
def cmdK : List (List UInt8) → (Nat × List UInt8 × List Int) ⊕ Int
  | [] => .inr 271
  | x :: R => if 0 < kindK x then match readK (kindK x).toNat R with
      | some (t, n) => .inl ((kindK x).toNat, t, n)
      | none => .inr 33
    else .inr 271

/-- what Parse leaves -/
def PkTo (ws : List (List UInt8)) (w : World) (e : Ending) (w' : World) : Prop := Below w.heap.size w w' ∧
  ((∃ k t n v, cmdK ws = .inl (k, t, n) ∧ e = .returned (.tuple #[v, .int .i64 0]) ∧ IsCmd w' v k t n) ∨ (∃ er, er ≠ 0 ∧ cmdK ws = .inr er ∧ e = .returned (.tuple #[.agg zero3.toArray, .int .i64 er])))

theorem read3K {T : TypeId} {W : World} {b : Nat} {c0 c1 c2 : Value} (h : RowL T W b [c0, c1, c2]) :
    W.cell? ⟨b, 0, none⟩ = some c0 ∧ W.cell? ⟨b, 1, none⟩ = some c1 ∧ W.cell? ⟨b, 2, none⟩ = some c2 :=
  ⟨h.cell 0 _ rfl, h.cell 1 _ rfl, h.cell 2 _ rfl⟩

theorem kDoor_no (ws : List (List UInt8)) (b : Nat) (n : Int) (w y : World) (tmps : Array Value) (cs : List Value) (z : Value) (t2 : tmps[2]? = some (.pointer (some ⟨b, 0, none⟩))) (t3 : tmps[3]? = some (.pointer (some ⟨b + 1, 0, none⟩)))
    (hcs : cs.length = 3) (h0 : RowL 41 y b cs) (h2 : RowL 29 y (b + 1) [z]) (hb : Below w.heap.size w y) (hwb : w.heap.size ≤ b) (hn : n ≠ 0) (hno : cmdK ws = .inr n) :
    bodyPostD Tryd.prog Tryd.f16 (PkTo ws w) (.panic (errC n))
      { tmps := tmps, defers := [{ target := .fn (.func 43) #[.pointer (some ⟨b, 0, none⟩), .pointer (some ⟨b + 1, 0, none⟩)], args := #[] }] } y := by
  show Leaves _ _ _ _ _ _ _
  refine leaves_cons (f := 43) (args := #[.pointer (some ⟨b, 0, none⟩), .pointer (some ⟨b + 1, 0, none⟩)]) (by simp) (by simp [go_sem]) ?_
  refine (kCatch_hit b n cs hcs z y h0 h2).mono ?_
  rintro e u' W ⟨rfl, rfl, r0, r2, hbW⟩
  show ∃ v, _ ∧ _
  obtain ⟨k0, k1, k2⟩ := read3K r0
  have q2 := r2.cell 0 _ rfl
  refine ⟨.tuple #[.agg zero3.toArray, .int .i64 n], ?_, hb.trans (hbW.mono hwb), .inr ⟨n, hn, hno, rfl⟩⟩
  clear r0 r2 hbW h0 h2 hb
  simp [results, Tryd.results16, go_sem, t2, t3, k0, k1, k2, q2]

theorem kDoor_yes (ws : List (List UInt8)) (b : Nat) (w y : World) (tmps : Array Value) (k : Nat) (t : List UInt8) (l : List Int) (c0 c1 c2 : Value) (t2 : tmps[2]? = some (.pointer (some ⟨b, 0, none⟩))) (t3 : tmps[3]? = some (.pointer (some ⟨b + 1, 0, none⟩)))
    (h0 : RowL 41 y b [c0, c1, c2]) (h2 : RowL 29 y (b + 1) [.int .i64 0]) (hb : Below w.heap.size w y) (hp : cmdK ws = .inl (k, t, l)) (hc : IsCmd y (.agg #[c0, c1, c2]) k t l) :
    bodyPostD Tryd.prog Tryd.f16 (PkTo ws w) .ret
      { tmps := tmps, defers := [{ target := .fn (.func 43) #[.pointer (some ⟨b, 0, none⟩), .pointer (some ⟨b + 1, 0, none⟩)], args := #[] }] } y := by
  show Leaves _ _ _ _ _ _ _
  refine leaves_cons (f := 43) (args := #[.pointer (some ⟨b, 0, none⟩), .pointer (some ⟨b + 1, 0, none⟩)]) (by simp) (by simp [go_sem]) ?_
  refine (kCatch_idle _ _ y).mono ?_
  rintro e u' W ⟨rfl, rfl, rfl⟩
  show ∃ v, _ ∧ _
  obtain ⟨k0, k1, k2⟩ := read3K h0
  have q2 := h2.cell 0 _ rfl
  refine ⟨.tuple #[.agg #[c0, c1, c2], .int .i64 0], ?_, hb, .inl ⟨k, t, l, _, hp, rfl, hc⟩⟩
  clear h0 h2 hb hc hp
  simp [results, Tryd.results16, go_sem, t2, t3, k0, k1, k2, q2]

end Go.Proofs.YtjcaejdokillgaaDoor

namespace Go.Proofs.YtjcaejdokillgaaDoor
open Go.RowKit Go.Shelf
attribute [local simp] mk_get

abbrev textS : List UInt8 := [116, 101, 120, 116]
theorem kindL_len : kindL.length = 16 := by kernel_rfl
theorem kindL_text : kindL = textS :: kindL.tail := by kernel_rfl
theorem kind_rng (x : List UInt8) : 0 ≤ kindK x ∧ kindK x ≤ 16 := by
  have := ixK_rng x kindL
  have := kindL_len
  unfold kindK
  omega
theorem kind_ne {x : List UInt8} (h : x ≠ textS) : kindK x ≠ 1 := by
  unfold kindK ixK idx
  rw [kindL_text, List.findIdx?_cons, decide_eq_false h]
  simp only [Bool.false_eq_true, if_false]
  cases kindL.tail.findIdx? (fun y => decide (x = y)) with
  | none => simp
  | some k => simp only [Option.map_some]; omega

theorem cmdK_cons (x : List UInt8) (R : List (List UInt8)) : cmdK (x :: R) = if 0 < kindK x then (match readK (kindK x).toNat R with
      | some (t, n) => .inl ((kindK x).toNat, t, n)
      | none => .inr 33)
    else .inr 271 := rfl

theorem Cut_genK (c : UInt8) (s : List UInt8) (m : Int) (w : World) (hs : s.length ≤ 1048576) (hm : w.cell? ⟨0, 0, none⟩ = some (.int .i64 m)) :
    Calls Tryd.prog 48 #[.string ⟨s.toArray⟩, .string ⟨#[c]⟩] w fun e w' => (∃ za zb zc, e = .returned (.tuple #[.string za, .string zb, .bool zc])) ∧ Below w.heap.size w w' := by
  refine (Cut_one c s m w hs hm).mono ?_
  rintro e w' ⟨hb, ⟨p', q', h1, rfl⟩ | ⟨h1, rfl⟩⟩
  · exact ⟨⟨_, _, _, rfl⟩, hb⟩
  · exact ⟨⟨_, _, _, rfl⟩, hb⟩

theorem kKinds_any (m : Int) (w : World) (hm : w.cell? ⟨0, 0, none⟩ = some (.int .i64 m)) :
    Calls Tryd.prog 47 #[] w fun e w' => ∃ g, e = .returned (.slice (some ⟨g, 0, none⟩) kindL.length kindL.length) ∧ Strs w' (.slice (some ⟨g, 0, none⟩) kindL.length kindL.length) kindL ∧ Below w.heap.size w w' := by
  have hS := Lib.hid (kSplit_any kindS m w (by decide) hm)
  go_enter Tryd.func47, Tryd.ntmps47
  go_wp2_with (go_at_call 79; refine hS.out.mono ?_; rintro e w3 ⟨g, rfl, hst, hb3⟩; have HST := Lib.hid hst; have HB := Lib.hid hb3; clear hst hb3)
  go_ret
  exact ⟨_, rfl, HST.out, HB.out⟩

/-- the command and that all is well are written into the results -/
theorem par_fin {w W9 : World} {b B : Nat} {K : Int} {v u0 u1 u2 y0 : Value} {t : List UInt8} {l : List Int} (S : RowL 41 W9 b [u0, u1, u2]) (E : RowL 29 W9 (b + 1) [y0]) (hB : Below w.heap.size w W9) (hwb : w.heap.size ≤ b) (ho : OwnI W9 B v l) (hb : b + 1 < B) (ht : t.length ≤ 64) :
    RowL 41 ((((W9.setCell ⟨b, 0, none⟩ (.int .i64 K)).setCell ⟨b, 1, none⟩ v).setCell ⟨b, 2, none⟩ (.string ⟨t.toArray⟩)).setCell ⟨b + 1, 0, none⟩ (.int .i64 0)) b [.int .i64 K, v, .string ⟨t.toArray⟩] ∧
    RowL 29 ((((W9.setCell ⟨b, 0, none⟩ (.int .i64 K)).setCell ⟨b, 1, none⟩ v).setCell ⟨b, 2, none⟩ (.string ⟨t.toArray⟩)).setCell ⟨b + 1, 0, none⟩ (.int .i64 0)) (b + 1) [.int .i64 0] ∧
    Below w.heap.size w ((((W9.setCell ⟨b, 0, none⟩ (.int .i64 K)).setCell ⟨b, 1, none⟩ v).setCell ⟨b, 2, none⟩ (.string ⟨t.toArray⟩)).setCell ⟨b + 1, 0, none⟩ (.int .i64 0)) ∧
    IsCmd ((((W9.setCell ⟨b, 0, none⟩ (.int .i64 K)).setCell ⟨b, 1, none⟩ v).setCell ⟨b, 2, none⟩ (.string ⟨t.toArray⟩)).setCell ⟨b + 1, 0, none⟩ (.int .i64 0)) (.agg #[.int .i64 K, v, .string ⟨t.toArray⟩]) K t l := by
  have g0 := set_grown' W9 b 0 (.int .i64 K)
  have g1 := set_grown' (W9.setCell ⟨b, 0, none⟩ (.int .i64 K)) b 1 v
  have g2 := set_grown' ((W9.setCell ⟨b, 0, none⟩ (.int .i64 K)).setCell ⟨b, 1, none⟩ v) b 2 (.string ⟨t.toArray⟩)
  have g3 := set_grown' (((W9.setCell ⟨b, 0, none⟩ (.int .i64 K)).setCell ⟨b, 1, none⟩ v).setCell ⟨b, 2, none⟩ (.string ⟨t.toArray⟩)) (b + 1) 0 (.int .i64 0)
  have hk : ∀ k, some b = some k → w.heap.size ≤ k := fun k e => by cases e; exact hwb
  have b0 := hB.grown g0 hB.size hk
  have b1 := b0.grown g1 b0.size hk
  have b2 := b1.grown g2 b1.size hk
  have b3 := b2.grown g3 b2.size (fun k e => by cases e; omega)
  have ne : some (b + 1) ≠ some b := fun e => by have := Option.some.inj e; omega
  exact ⟨(((S.set 0 (.int .i64 K)).set 1 v).set 2 (.string ⟨t.toArray⟩)).grown g3 (fun e => by have := Option.some.inj e; omega), (((E.grown g0 ne).grown g1 ne).grown g2 ne).set 0 (.int .i64 0), b3, v, rfl, ((((ho.past g0 (by omega)).past g1 (by omega)).past g2 (by omega)).past g3 hb).ints, ht⟩

set_option maxRecDepth 100000 in
set_option maxHeartbeats 16000000 in
theorem kParse_any (s : List UInt8) (m : Int) (w : World) (hs : s.length ≤ 4096) (ho : s.any odd = false) (hx : ∀ x R, PS.words s = x :: R → x ≠ textS) (hm : w.cell? ⟨0, 0, none⟩ = some (.int .i64 m)) :
    Calls Tryd.prog 16 #[.string ⟨s.toArray⟩] w (PkTo (PS.words s) w) := by
  have hmf : ∀ (fn : Fn) (first cap : Array Value) (w : World), (Instr.makeFunc fn first cap).run Tryd.prog w = .ok (.func fn first cap) w := fun _ _ _ _ => rfl
  have kb := fun w s => run_bytes_of_string (P := Tryd.prog) w 9 47 5 s Tryd.underlying9 Tryd.underlying47 Tryd.underlying5
  have hz : (s.length : Int) ≤ 4096 := by omega
  have HS := Lib.hid hs
  have HM := Lib.hid hm
  have HX := Lib.hid hx
  have HO := Lib.hid ho
  have hsl : s.length ≤ 9223372036854775807 := by omega
  clear hs hm hx ho
  obtain ⟨b, hb⟩ : ∃ b, b = w.heap.size := ⟨_, rfl⟩
  obtain ⟨V1, hV1⟩ : ∃ V, V = w.alloc (.cells #[.int .i64 0, .slice none 0 0, .string ⟨#[]⟩] 41) := ⟨_, rfl⟩
  obtain ⟨V3, hV3⟩ : ∃ V, V = V1.alloc (.cells #[.int .i64 0] 29) := ⟨_, rfl⟩
  have e1 : V1.heap.size = b + 1 := by rw [hV1, hb]; simp
  have e3 : V3.heap.size = b + 2 := by rw [hV3]; simp [e1]
  have b1 : Below w.heap.size w V1 := by rw [hV1]; exact (Below.refl _ _).alloc (Nat.le_refl _) _
  have b3 : Below V1.heap.size V1 V3 := by rw [hV3]; exact (Below.refl _ _).alloc (Nat.le_refl _) _
  have r0 : RowL 41 V3 b zero3 := by
    have := RowL.new (T := 41) w zero3; rw [← hV1, ← hb] at this; exact this.mono b3
  have r2 : RowL 29 V3 (b + 1) [.int .i64 0] := by have := RowL.new (T := 29) V1 [.int .i64 0]; rw [← hV3, e1] at this; exact this
  have hV : ((w.alloc (.cells #[.int .i64 0, .slice none 0 0, .string ⟨#[]⟩] 41)).alloc (.cells #[.int .i64 0] 29)) = V3 := by rw [hV3, hV1]
  have hwb : w.heap.size ≤ b := by omega
  have R0 := Lib.hid r0
  have R2 := Lib.hid r2
  have HB3 := Lib.hid (Below.of b1 b3)
  have HWB := Lib.hid hwb
  have HBB := Lib.hid hb
  have E3 := Lib.hid e3
  have HV := Lib.hid hV
  clear r0 r2 b1 b3 hwb hb e1 e3 hV hV1 hV3
  go_enter_defers Tryd.func16, Tryd.ntmps16
  go_wp2_with fail
  have hsz : w.heap.size + 1 + 1 = V3.heap.size := by rw [E3.out, HBB.out]
  rw [HV.out, hsz, ← HBB.out]
  clear hsz
  refine (ContainsFuncB_any odd 42 #[] enters_kOdd kOdd_pred s _ _ (by exact (Bytes_conv _ _ _ _ _ hsl).drew)).mono ?_
  rintro e w4 ⟨rfl, hw4⟩
  have hb4 : Below V3.heap.size V3 w4 := by rw [← hw4]; exact ((Below.refl _ _).alloc (Nat.le_refl _) _).drew
  rw [HO.out]
  have HB4 := Lib.hid (Below.of HB3.out hb4)
  have R04 := Lib.hid (R0.out.mono hb4)
  have R24 := Lib.hid (R2.out.mono hb4)
  clear hb4 hw4
  have HMw := Lib.hid fun (y : World) (hy : Below w.heap.size w y) => (hy.cell (World.block_lt_of_cell? w _ HM.out)).trans HM.out
  go_wp2_with fail
  refine (kWords_any s m w4 (by have := HS.out; omega) (HMw.out w4 HB4.out)).mono ?_
  rintro e w5 ⟨g, c, rfl, hS, hl5, hb5⟩
  have HB5 := Lib.hid (Below.of HB4.out hb5)
  have R05 := Lib.hid (R04.out.mono hb5)
  have R25 := Lib.hid (R24.out.mono hb5)
  have hX := HX.out
  obtain ⟨L, hL⟩ : ∃ L, L = PS.words s := ⟨_, rfl⟩
  rw [← hL] at hX hS hl5 ⊢
  have HL := Lib.hid hL
  clear hb5 R04 R24 HX hL
  cases L with
  | nil =>
    clear hX hS hl5
    go_wp2_with (go_at_call 45; refine (kNeed_no _ _).mono ?_; rintro e w6 ⟨rfl, rfl⟩)
    exact kDoor_no (PS.words s) b 271 w w5 _ zero3 (.int .i64 0) rfl rfl rfl R05.out R25.out HB5.out HWB.out (by decide) (by rw [← HL.out]; rfl)
  | cons x R =>
    have hne := Lib.hid (kind_ne (hX x R rfl))
    obtain ⟨hc0, hsR, hcap, hcm⟩ := Strs.rest hS
    obtain ⟨hK0, hK1⟩ := kind_rng x
    obtain ⟨k, hk⟩ : ∃ k : Nat, kindK x = (k : Int) := ⟨(kindK x).toNat, by omega⟩
    have hk16 : (k : Int) ≤ 16 := by omega
    have HK := Lib.hid hk
    have hix : -1 ≤ ixK x kindL ∧ ixK x kindL ≤ 15 := by unfold kindK at hK0 hK1; omega
    have hixk : ixK x kindL + 1 = (k : Int) := hk
    obtain ⟨I, hI⟩ : ∃ I, I = ixK x kindL := ⟨_, rfl⟩
    rw [← hI] at hix hixk
    obtain ⟨hix0, hix1⟩ := hix
    have HI := Lib.hid hI
    have HC := Lib.hid hc0
    have HSR := Lib.hid hsR
    have hnl : Hid (R.length ≤ 1048577) := by show R.length ≤ _; have : (x :: R).length = R.length + 1 := rfl; omega
    have hxl : (x :: R).length = R.length + 1 := rfl
    rw [hxl]
    have hRl : R.length ≤ 1048577 := hnl.out
    clear hX hS hl5 hc0 hsR hK0 hK1 hk hI hxl
    go_wp2_with (go_at_call 45; refine (kNeed_ok _ _).mono ?_; rintro e w6 ⟨rfl, hw6⟩; subst hw6)
    refine wp_region_makes 6 [(fun v y => ∃ g, v = .slice (some ⟨g, 0, none⟩) kindL.length kindL.length ∧ Strs y (.slice (some ⟨g, 0, none⟩) kindL.length kindL.length) kindL), isV (.slice (some ⟨g, 0, none⟩) (R.length + 1 : Nat) c), isV (.pointer (some ⟨g, 0, none⟩)), isV (.string ⟨x.toArray⟩), isV (.int .i64 I), isV (.int .i64 (k : Int))]
      [some 26, some 27, some 28, some 29, some 30, some 31] (by kernel_rfl) (by kernel_rfl) rfl (by
        intro q hq
        simp only [List.mem_cons, List.mem_nil_iff, or_false] at hq
        rcases hq with rfl | rfl | rfl | rfl | rfl | rfl <;> first
          | exact isV_keeps _ | exact fun _ _ _ hb ⟨g, e, h⟩ => ⟨g, e, h.mono hb⟩) ?_ ?_
    · refine ⟨fun vs Y hy hd => ?_, fun vs Y hy hd => ?_, fun vs Y hy hd => ?_, fun vs Y hy hd => ?_, fun vs Y hy hd => ?_, fun vs Y hy hd => ?_, trivial⟩
      · have hS := Lib.hid (kKinds_any m Y ((hy.cell (World.block_lt_of_cell? w5 _ (HMw.out w5 HB5.out))).trans (HMw.out w5 HB5.out)))
        (simp only [opens]; try simp only [Nat.reduceAdd])
        go_wp2_with (go_at_call 47; refine hS.out.mono ?_; rintro e w4 ⟨g, rfl, hst, hb⟩)
        exact ⟨_, rfl, hb, g, rfl, hst⟩
      · (simp only [opens]; try simp only [Nat.reduceAdd])
        go_wp2_with fail
        exact ⟨_, rfl, Below.refl _ _, rfl⟩
      · have g0 : vs 1 = .slice (some ⟨g, 0, none⟩) (R.length + 1 : Nat) c := hd 1 (by decide) (by kernel_rfl)
        (simp only [opens]; try simp only [Nat.reduceAdd])
        rw [g0]
        go_wp2_with fail
        exact ⟨_, rfl, Below.refl _ _, rfl⟩
      · have g0 : vs 2 = .pointer (some ⟨g, 0, none⟩) := hd 2 (by decide) (by kernel_rfl)
        have hc := (hy.cell (World.block_lt_of_cell? w5 _ HC.out)).trans HC.out
        (simp only [opens]; try simp only [Nat.reduceAdd])
        rw [g0]
        go_wp2_with fail
        exact ⟨_, rfl, Below.refl _ _, rfl⟩
      · obtain ⟨g, g0, hS⟩ : ∃ g, vs 0 = .slice (some ⟨g, 0, none⟩) kindL.length kindL.length ∧ Strs Y (.slice (some ⟨g, 0, none⟩) kindL.length kindL.length) kindL := hd 0 (by decide) (by kernel_rfl)
        have g1 : vs 3 = .string ⟨x.toArray⟩ := hd 3 (by decide) (by kernel_rfl)
        have hX := Lib.hid (sIndexS_any kindL _ x Y hS)
        clear hS
        (simp only [opens]; try simp only [Nat.reduceAdd])
        rw [g0, g1]
        go_wp2_with (go_at_call 46; refine hX.out.mono ?_; rintro e w4 ⟨rfl, rfl⟩)
        exact ⟨_, rfl, Below.refl _ _, by rw [HI.out]; rfl⟩
      · have g0 : vs 4 = .int .i64 I := hd 4 (by decide) (by kernel_rfl)
        (simp only [opens]; try simp only [Nat.reduceAdd])
        rw [g0]
        go_wp2_with fail
        exact ⟨_, rfl, Below.refl _ _, by rw [← hixk]; rfl⟩
    intro vs w6 hb6 hf
    have g1 : vs 5 = .int .i64 (k : Int) := hf 5 (by decide)
    simp only [opens, List.drop_succ_cons, List.drop_zero]
    try simp only [Nat.reduceAdd]
    rw [g1]
    clear hf g1
    have HB6 := Lib.hid (Below.of HB5.out hb6)
    have R06 := Lib.hid (R05.out.mono hb6)
    have R26 := Lib.hid (R25.out.mono hb6)
    have HSR6 := Lib.hid (HSR.out.mono hb6)
    clear hb6 R05 R25 HSR hixk hix0 hix1
    by_cases hkz : k = 0
    · subst hkz
      have hno : Hid (cmdK (PS.words s) = .inr 271) := by show _ = _; rw [← HL.out]; show (if _ then _ else _) = _; rw [if_neg (by rw [HK.out]; decide)]
      go_wp2_with (go_at_call 45; refine (kNeed_no _ _).mono ?_; rintro e w7 ⟨rfl, rfl⟩)
      exact kDoor_no (PS.words s) b 271 w w6 _ zero3 (.int .i64 0) rfl rfl rfl R06.out R26.out HB6.out HWB.out (by decide) hno.out
    · have hk0 : 0 < k := by omega
      have hk1 : 1 < k ∧ k ≤ 16 := by have := hne.out; have := HK.out; omega
      have HK1 := Lib.hid hk1
      clear hk1 hkz
      go_wp2_with (go_at_call 45; refine (kNeed_ok _ _).mono ?_; rintro e w7 ⟨rfl, hw7⟩; subst hw7)
      refine (sTrimLeft_blank s _ hsl).mono ?_
      rintro e w7 ⟨⟨t, ht, rfl⟩, hw7⟩
      subst hw7
      go_wp2_with fail
      refine (Cut_genK 32 t m _ (by have := HS.out; omega) (HMw.out _ HB6.out)).mono ?_
      rintro e w8 ⟨⟨za, zb, zc, rfl⟩, hb8⟩
      have HB8 := Lib.hid (Below.of HB6.out hb8)
      have R08 := Lib.hid (R06.out.mono hb8)
      have R28 := Lib.hid (R26.out.mono hb8)
      have HSR8 := Lib.hid (HSR6.out.mono hb8)
      clear hb8 R06 R26 HSR6
      have hcz : 1 ≤ c := by omega
      by_cases hc1 : c = 1
      · subst hc1
        have hR0 : R = [] := List.length_eq_zero_iff.1 (by omega)
        subst hR0
        have HSR9 : Hid (Strs w8 (.slice (some ⟨g, 0, none⟩) 0 0) []) := ⟨⟨_, 0, rfl, Nat.le_refl _, by omega, fun h => (by cases h), rfl, fun j hj => by simp at hj⟩, fun s hs => by cases hs⟩
        clear HSR8
        have hRd := Lib.hid (kRead_any k [] (.slice (some ⟨g, 0, none⟩) 0 0) zb m w8 HK1.out HSR9.out hRl (HMw.out w8 HB8.out))
        go_wp2_with fail
        refine hRd.out.mono ?_
        rintro e w9 ⟨hb9, ⟨t', n, v9, hr, rfl, vn, rfl, hO, ht'⟩ | ⟨hr, rfl⟩⟩
        · have hyes : Hid (cmdK (PS.words s) = .inl (k, t', n)) := by
            show _ = _
            have hkn : (kindK x).toNat = k := by rw [HK.out]; rfl
            rw [← HL.out, cmdK_cons, if_pos (by rw [HK.out]; omega), hkn, hr]
          obtain ⟨an, cn, rfl⟩ := owned_sliceK hO.1
          have q0 := R08.out.mono hb9
          have q2 := R28.out.mono hb9
          obtain ⟨rX, eX, bX, iX⟩ := par_fin (K := (k : Int)) (v := .slice an n.length cn) (t := t') q0 q2 (Below.of HB8.out hb9) HWB.out hO (by have := R28.out.lt; omega) ht'
          have d0 := q0.cell 0 _ rfl
          have d1 := q0.cell 1 _ rfl
          have d2 := q0.cell 2 _ rfl
          have e0 := q0.frozen 0
          have e1 := q0.frozen 1
          have e2 := q0.frozen 2
          have c0 := q2.cell 0 _ rfl
          have f0 := q2.frozen 0
          have RX := Lib.hid rX
          have EX := Lib.hid eX
          have BX := Lib.hid bX
          have IX := Lib.hid iX
          clear q0 q2 rX eX bX iX hO hb9 hr ht'
          go_wp2_with fail
          exact kDoor_yes (PS.words s) b w _ _ k t' n _ _ _ rfl rfl RX.out EX.out BX.out hyes.out IX.out
        · have hno : Hid (cmdK (PS.words s) = .inr 33) := by
            show _ = _
            have hkn : (kindK x).toNat = k := by rw [HK.out]; rfl
            rw [← HL.out, cmdK_cons, if_pos (by rw [HK.out]; omega), hkn, hr]
          exact kDoor_no (PS.words s) b 33 w w9 _ zero3 (.int .i64 0) rfl rfl rfl (R08.out.mono hb9) (R28.out.mono hb9) (Below.of HB8.out hb9) HWB.out (by decide) hno.out
      · have HSR9 : Hid (Strs w8 (.slice (some ⟨g, 1, none⟩) R.length (c - 1)) R) := HSR8.out
        have hc2 : ¬ c ≤ 1 := by omega
        clear HSR8
        have hRd := Lib.hid (kRead_any k R (.slice (some ⟨g, 1, none⟩) R.length (c - 1)) zb m w8 HK1.out HSR9.out hRl (HMw.out w8 HB8.out))
        go_wp2_with fail
        refine hRd.out.mono ?_
        rintro e w9 ⟨hb9, ⟨t', n, v9, hr, rfl, vn, rfl, hO, ht'⟩ | ⟨hr, rfl⟩⟩
        · have hyes : Hid (cmdK (PS.words s) = .inl (k, t', n)) := by
            show _ = _
            have hkn : (kindK x).toNat = k := by rw [HK.out]; rfl
            rw [← HL.out, cmdK_cons, if_pos (by rw [HK.out]; omega), hkn, hr]
          obtain ⟨an, cn, rfl⟩ := owned_sliceK hO.1
          have q0 := R08.out.mono hb9
          have q2 := R28.out.mono hb9
          obtain ⟨rX, eX, bX, iX⟩ := par_fin (K := (k : Int)) (v := .slice an n.length cn) (t := t') q0 q2 (Below.of HB8.out hb9) HWB.out hO (by have := R28.out.lt; omega) ht'
          have d0 := q0.cell 0 _ rfl
          have d1 := q0.cell 1 _ rfl
          have d2 := q0.cell 2 _ rfl
          have e0 := q0.frozen 0
          have e1 := q0.frozen 1
          have e2 := q0.frozen 2
          have c0 := q2.cell 0 _ rfl
          have f0 := q2.frozen 0
          have RX := Lib.hid rX
          have EX := Lib.hid eX
          have BX := Lib.hid bX
          have IX := Lib.hid iX
          clear q0 q2 rX eX bX iX hO hb9 hr ht'
          go_wp2_with fail
          exact kDoor_yes (PS.words s) b w _ _ k t' n _ _ _ rfl rfl RX.out EX.out BX.out hyes.out IX.out
        · have hno : Hid (cmdK (PS.words s) = .inr 33) := by
            show _ = _
            have hkn : (kindK x).toNat = k := by rw [HK.out]; rfl
            rw [← HL.out, cmdK_cons, if_pos (by rw [HK.out]; omega), hkn, hr]
          exact kDoor_no (PS.words s) b 33 w w9 _ zero3 (.int .i64 0) rfl rfl rfl (R08.out.mono hb9) (R28.out.mono hb9) (Below.of HB8.out hb9) HWB.out (by decide) hno.out

end Go.Proofs.YtjcaejdokillgaaDoor
