/- Contracts: lines' commands: a command of its words. -/
import Derived.Test.YtjcaejdokillgaaDoorZK1
namespace Go.Proofs.YtjcaejdokillgaaDoor
open Go.RowKit Go.Shelf
attribute [local simp] mk_get

theorem own_geK {w : World} {B k n : Nat} {e : TypeId} {v : Value} {xs : List Value} (h : w.ownsRow B e k v n xs) : ∀ q, v.ownBlock = some q → B ≤ q := fun q hq => (World.ownsRow.lt h q hq).1
theorem owned_sliceK {w : World} {B : Nat} {e : TypeId} {k n : Nat} {v : Value} {xs : List Value} (h : w.ownsRow B e k v n xs) : ∃ a c, v = .slice a n c := by
  obtain ⟨_, ⟨rfl, rfl⟩ | ⟨g, c, cur, rfl, _⟩⟩ := h
  · exact ⟨none, 0, rfl⟩
  · exact ⟨_, c, rfl⟩
theorem OwnI.past {y y' : World} {B q : Nat} {v : Value} {l : List Int} (h : OwnI y B v l) (hg : y.grownBy y' (some q)) (hq : q < B) : OwnI y' B v l :=
  ⟨World.ownsRow.kept h.1 hg (Or.inr fun e => by have := own_geK h.1 _ e; omega), h.2⟩

/-- a value that is a command -/
def IsCmd (w : World) (v : Value) (k : Int) (t : List UInt8) (l : List Int) : Prop := ∃ vn, v = .agg #[.int .i64 k, vn, .string ⟨t.toArray⟩] ∧ Ints w vn l ∧ t.length ≤ 64
/-- the same, its numbers the call's own -/
def IsCmdO (w : World) (B : Nat) (v : Value) (k : Int) (t : List UInt8) (l : List Int) : Prop := ∃ vn, v = .agg #[.int .i64 k, vn, .string ⟨t.toArray⟩] ∧ OwnI w B vn l ∧ t.length ≤ 64
theorem IsCmd.mono {w w' : World} {v : Value} {k : Int} {t : List UInt8} {l : List Int} (h : IsCmd w v k t l) (hb : Below w.heap.size w w') : IsCmd w' v k t l := by
  obtain ⟨vn, e, h1, h2⟩ := h
  exact ⟨vn, e, h1.mono hb, h2⟩

def numsP (l : List (List UInt8)) (a b : Nat) : Option (List UInt8 × List Int) := if numsOk l a b = true then some ([], l.map PR.numV) else none
/-- a command of its words: its text, its numbers -/
def readK (k : Nat) (l : List (List UInt8)) : Option (List UInt8 × List Int) :=
  if k = 3 then numsP l 0 64 else if k = 4 then numsP l 1 65 else if k = 5 ∨ k = 12 ∨ k = 15 then numsP l 1 1 else if k = 9 then (askedK l).map fun n => ([], n)
  else if k = 13 ∨ k = 14 then (bitsK l).map fun t => (t, []) else if l.length = 0 then some ([], []) else none
def ReadK (k : Nat) (l : List (List UInt8)) (w : World) (e : Ending) (w' : World) : Prop := Below w.heap.size w w' ∧
  ((∃ t n v, readK k l = some (t, n) ∧ e = .returned v ∧ IsCmdO w' w.heap.size v k t n) ∨ (readK k l = none ∧ e = .panicked (errC 33)))

/-- the command is written into the result -/
theorem cmd_fin {w W9 : World} {b B : Nat} {K : Int} {v u0 u1 u2 : Value} {t : List UInt8} {l : List Int} (S : RowL 41 W9 b [u0, u1, u2]) (hB : Below w.heap.size w W9) (hwb : w.heap.size ≤ b) (ho : OwnI W9 B v l) (hb : b < B) (ht : t.length ≤ 64) :
    RowL 41 (((W9.setCell ⟨b, 0, none⟩ (.int .i64 K)).setCell ⟨b, 1, none⟩ v).setCell ⟨b, 2, none⟩ (.string ⟨t.toArray⟩)) b [.int .i64 K, v, .string ⟨t.toArray⟩] ∧
    Below w.heap.size w (((W9.setCell ⟨b, 0, none⟩ (.int .i64 K)).setCell ⟨b, 1, none⟩ v).setCell ⟨b, 2, none⟩ (.string ⟨t.toArray⟩)) ∧
    IsCmdO (((W9.setCell ⟨b, 0, none⟩ (.int .i64 K)).setCell ⟨b, 1, none⟩ v).setCell ⟨b, 2, none⟩ (.string ⟨t.toArray⟩)) w.heap.size (.agg #[.int .i64 K, v, .string ⟨t.toArray⟩]) K t l := by
  have g0 := set_grown' W9 b 0 (.int .i64 K)
  have g1 := set_grown' (W9.setCell ⟨b, 0, none⟩ (.int .i64 K)) b 1 v
  have g2 := set_grown' ((W9.setCell ⟨b, 0, none⟩ (.int .i64 K)).setCell ⟨b, 1, none⟩ v) b 2 (.string ⟨t.toArray⟩)
  have hk : ∀ k, some b = some k → w.heap.size ≤ k := fun k e => by cases e; exact hwb
  have b0 := hB.grown g0 hB.size hk
  have b1 := b0.grown g1 b0.size hk
  have b2 := b1.grown g2 b1.size hk
  exact ⟨((S.set 0 (.int .i64 K)).set 1 v).set 2 (.string ⟨t.toArray⟩), b2, v, rfl, ⟨World.ownsRow.mono (((ho.past g0 hb).past g1 hb).past g2 hb).1 (by omega), ho.2⟩, ht⟩

set_option maxRecDepth 100000 in
set_option maxHeartbeats 32000000 in
theorem kRead_any (k : Nat) (L : List (List UInt8)) (v : Value) (rest : ByteArray) (m : Int) (w : World) (hk : 1 < k ∧ k ≤ 16) (h : Strs w v L) (hl : L.length ≤ 1048577) (hm : w.cell? ⟨0, 0, none⟩ = some (.int .i64 m)) :
    Calls Tryd.prog 50 #[.int .i64 k, v, .string rest] w fun e w' => ReadK k L w e w' := by
  obtain ⟨K, hK⟩ : ∃ K : Int, K = k := ⟨_, rfl⟩
  rw [← hK]
  obtain ⟨b, hb⟩ : ∃ b, b = w.heap.size := ⟨_, rfl⟩
  obtain ⟨V1, hV1⟩ : ∃ V, V = w.alloc (.cells #[.int .i64 0, .slice none 0 0, .string ⟨#[]⟩] 41) := ⟨_, rfl⟩
  obtain ⟨V2, hV2⟩ : ∃ V, V = V1.alloc (.cells #[.int .i64 K, .slice none 0 0, .string ⟨#[]⟩] 41) := ⟨_, rfl⟩
  have e1 : V1.heap.size = b + 1 := by rw [hV1, hb]; simp
  have e2 : V2.heap.size = b + 2 := by rw [hV2]; simp [e1]
  have b1 : Below w.heap.size w V1 := by rw [hV1]; exact (Below.refl _ _).alloc (Nat.le_refl _) _
  have b2 : Below V1.heap.size V1 V2 := by rw [hV2]; exact (Below.refl _ _).alloc (Nat.le_refl _) _
  have r1 : RowL 41 V2 b [.int .i64 0, .slice none 0 0, .string ⟨#[]⟩] := by
    have := RowL.new (T := 41) w [.int .i64 0, .slice none 0 0, .string ⟨#[]⟩]; rw [← hV1, ← hb] at this; exact this.mono b2
  have r2 : RowL 41 V2 (b + 1) [.int .i64 K, .slice none 0 0, .string ⟨#[]⟩] := by
    have := RowL.new (T := 41) V1 [.int .i64 K, .slice none 0 0, .string ⟨#[]⟩]; rw [← hV2, e1] at this; exact this
  have R1 := Lib.hid r1
  have R2 := Lib.hid r2
  have HB2 := Lib.hid (Below.of b1 b2)
  have hwb : w.heap.size ≤ b := by omega
  have HWB := Lib.hid hwb
  have hS2 := Lib.hid (h.mono (Below.of b1 b2))
  have HM2 : Hid (V2.cell? ⟨0, 0, none⟩ = some (.int .i64 m)) := ((Below.of b1 b2).cell (World.block_lt_of_cell? w _ hm)).trans hm
  have E2 := Lib.hid e2
  have HV : Hid ((w.alloc (.cells #[.int .i64 0, .slice none 0 0, .string ⟨#[]⟩] 41)).alloc (.cells #[.int .i64 K, .slice none 0 0, .string ⟨#[]⟩] 41) = V2) := by show _ = _; rw [hV2, hV1]
  have HBB := Lib.hid hb
  clear r1 r2 b1 b2 hwb h e1 e2 hV1 hV2 hb hm
  obtain h2 | h3 | h4 | h5 | h6 | h7 | h8 | h9 | h10 | h11 | h12 | h13 | h14 | h15 | h16 : k = 2 ∨ k = 3 ∨ k = 4 ∨ k = 5 ∨ k = 6 ∨ k = 7 ∨ k = 8 ∨ k = 9 ∨ k = 10 ∨ k = 11 ∨ k = 12 ∨ k = 13 ∨ k = 14 ∨ k = 15 ∨ k = 16 := by omega
  · subst h2
    obtain rfl : K = 2 := hK
    clear hk
    by_cases h0 : L.length = 0
    · have hyes : Hid (readK 2 L = some ([], [])) := by show (if L.length = 0 then _ else _) = _; rw [if_pos h0]
      obtain ⟨ao, cap, rfl, h1, h2, _⟩ := hS2.out.open_
      have hz : (L.length : Int) = 0 := by omega
      have S1 := Lib.hid R1.out
      have HB9 := Lib.hid HB2.out
      have HO9 : Hid (OwnI V2 V2.heap.size (.slice none 0 0) []) := ⟨World.ownsRow_nil _ _ _ _, fun x hx => by cases hx⟩
      clear h1 h2 h0
      go_enter Tryd.func50, Tryd.ntmps50
      go_wp2_with fail
      rw [HV.out, ← HBB.out]
      refine (kNeed_ok _ _).mono ?_
      rintro e w8 ⟨rfl, hw8⟩
      subst hw8
      have c0 := R2.out.cell 0 _ rfl
      have c1 := R2.out.cell 1 _ rfl
      have c2 := R2.out.cell 2 _ rfl
      have f1 := R2.out.frozen 2
      have d0 := R1.out.cell 0 _ rfl
      have d1 := R1.out.cell 1 _ rfl
      have d2 := R1.out.cell 2 _ rfl
      have e0 := R1.out.frozen 0
      have e1 := R1.out.frozen 1
      have e2 := R1.out.frozen 2
      go_wp2_with fail
      obtain ⟨rX, bX, iX⟩ := cmd_fin (K := 2) (v := (.slice none 0 0)) (t := ([] : List UInt8)) S1.out HB9.out HWB.out HO9.out (by have := E2.out; omega) (by decide)
      have k0 := rX.cell 0 _ rfl
      have k1 := rX.cell 1 _ rfl
      have k2 := rX.cell 2 _ rfl
      have IX := Lib.hid iX
      have BX := Lib.hid bX
      clear rX bX iX c0 c1 c2 f1 d0 d1 d2 e0 e1 e2
      refine ⟨rfl, .agg #[.int .i64 2, (.slice none 0 0), .string ⟨([] : List UInt8).toArray⟩], ?_, BX.out, .inl ⟨_, _, _, hyes.out, rfl, IX.out⟩⟩
      simp [results, Tryd.results50, go_sem, k0, k1, k2]
    · have hno : Hid (readK 2 L = none) := by show (if L.length = 0 then _ else _) = _; rw [if_neg h0]
      obtain ⟨ao, cap, rfl, h1, h2, _⟩ := hS2.out.open_
      have hz : ¬ (L.length : Int) = 0 := by omega
      have hzb : ((L.length : Int) == 0) = false := by simpa using hz
      clear h1 h2 h0
      go_enter Tryd.func50, Tryd.ntmps50
      go_wp2_with fail
      rw [HV.out]
      refine (kNeed_no _ _).mono ?_
      rintro e w8 ⟨rfl, rfl⟩
      exact ⟨rfl, HB2.out, .inr ⟨hno.out, rfl⟩⟩
  · subst h3
    obtain rfl : K = 3 := hK
    clear hk
    have hP := kNumbers_any L v 0 64 V2 hS2.out hl (by decide)
    cases hok : numsOk L 0 64 with
    | true =>
      have hP2 := Lib.hid (hP.mono fun e w' hh => NumsK.yes hh hok)
      have hyes : Hid (readK 3 L = some ([], L.map PR.numV)) := by show numsP L 0 64 = _; unfold numsP; rw [if_pos hok]
      obtain ⟨Z, hZ⟩ : ∃ Z, Z = L.map PR.numV := ⟨_, rfl⟩
      rw [← hZ] at hP2 hyes
      clear hP hok hZ
      go_enter Tryd.func50, Tryd.ntmps50
      go_wp2_with fail
      rw [HV.out, ← HBB.out]
      refine hP2.out.mono ?_
      rintro e w8 ⟨v8, rfl, ho8, hb8⟩
      have q1 := R1.out.mono hb8
      have q2 := R2.out.mono hb8
      obtain ⟨a8, c8, rfl⟩ := owned_sliceK ho8.1
      have hg1 := set_grown' w8 (b + 1) 1 (.slice a8 Z.length c8)
      have s2 := q2.set 1 (.slice a8 Z.length c8)
      have s1 := q1.grown hg1 (fun e => by have := Option.some.inj e; omega)
      have B9 := (Below.of HB2.out hb8).grown hg1 (by have := HB2.out.size; have := hb8.size; omega) (fun k e => by cases e; have := HWB.out; omega)
      have O9 := ho8.past hg1 (by have := E2.out; omega)
      have c0 := q2.cell 0 _ rfl
      have c1 := q2.cell 1 _ rfl
      have c2 := q2.cell 2 _ rfl
      have f1 := q2.frozen 1
      have d0 := q1.cell 0 _ rfl
      have d1 := q1.cell 1 _ rfl
      have d2 := q1.cell 2 _ rfl
      have e0 := q1.frozen 0
      have e1 := q1.frozen 1
      have e2 := q1.frozen 2
      have S1 := Lib.hid s1
      have HB9 := Lib.hid B9
      have HO9 := Lib.hid O9
      clear q1 q2 hg1 s1 s2 B9 O9 ho8 hb8
      go_wp2_with fail
      obtain ⟨rX, bX, iX⟩ := cmd_fin (K := 3) (v := (.slice a8 Z.length c8)) (t := ([] : List UInt8)) S1.out HB9.out HWB.out HO9.out (by have := E2.out; omega) (by decide)
      have k0 := rX.cell 0 _ rfl
      have k1 := rX.cell 1 _ rfl
      have k2 := rX.cell 2 _ rfl
      have IX := Lib.hid iX
      have BX := Lib.hid bX
      clear rX bX iX c0 c1 c2 f1 d0 d1 d2 e0 e1 e2
      refine ⟨rfl, .agg #[.int .i64 3, (.slice a8 Z.length c8), .string ⟨([] : List UInt8).toArray⟩], ?_, BX.out, .inl ⟨_, _, _, hyes.out, rfl, IX.out⟩⟩
      simp [results, Tryd.results50, go_sem, k0, k1, k2]
    | false =>
      have hP2 := Lib.hid (hP.mono fun e w' hh => NumsK.no hh hok)
      have hno : Hid (readK 3 L = none) := by show numsP L 0 64 = _; unfold numsP; rw [if_neg (by rw [hok]; simp)]
      clear hP hok
      go_enter Tryd.func50, Tryd.ntmps50
      go_wp2_with fail
      rw [HV.out]
      refine hP2.out.mono ?_
      rintro e w8 ⟨rfl, hb8⟩
      exact ⟨rfl, Below.of HB2.out hb8, .inr ⟨hno.out, rfl⟩⟩
  · subst h4
    obtain rfl : K = 4 := hK
    clear hk
    have hP := kNumbers_any L v 1 65 V2 hS2.out hl (by decide)
    cases hok : numsOk L 1 65 with
    | true =>
      have hP2 := Lib.hid (hP.mono fun e w' hh => NumsK.yes hh hok)
      have hyes : Hid (readK 4 L = some ([], L.map PR.numV)) := by show numsP L 1 65 = _; unfold numsP; rw [if_pos hok]
      obtain ⟨Z, hZ⟩ : ∃ Z, Z = L.map PR.numV := ⟨_, rfl⟩
      rw [← hZ] at hP2 hyes
      clear hP hok hZ
      go_enter Tryd.func50, Tryd.ntmps50
      go_wp2_with fail
      rw [HV.out, ← HBB.out]
      refine hP2.out.mono ?_
      rintro e w8 ⟨v8, rfl, ho8, hb8⟩
      have q1 := R1.out.mono hb8
      have q2 := R2.out.mono hb8
      obtain ⟨a8, c8, rfl⟩ := owned_sliceK ho8.1
      have hg1 := set_grown' w8 (b + 1) 1 (.slice a8 Z.length c8)
      have s2 := q2.set 1 (.slice a8 Z.length c8)
      have s1 := q1.grown hg1 (fun e => by have := Option.some.inj e; omega)
      have B9 := (Below.of HB2.out hb8).grown hg1 (by have := HB2.out.size; have := hb8.size; omega) (fun k e => by cases e; have := HWB.out; omega)
      have O9 := ho8.past hg1 (by have := E2.out; omega)
      have c0 := q2.cell 0 _ rfl
      have c1 := q2.cell 1 _ rfl
      have c2 := q2.cell 2 _ rfl
      have f1 := q2.frozen 1
      have d0 := q1.cell 0 _ rfl
      have d1 := q1.cell 1 _ rfl
      have d2 := q1.cell 2 _ rfl
      have e0 := q1.frozen 0
      have e1 := q1.frozen 1
      have e2 := q1.frozen 2
      have S1 := Lib.hid s1
      have HB9 := Lib.hid B9
      have HO9 := Lib.hid O9
      clear q1 q2 hg1 s1 s2 B9 O9 ho8 hb8
      go_wp2_with fail
      obtain ⟨rX, bX, iX⟩ := cmd_fin (K := 4) (v := (.slice a8 Z.length c8)) (t := ([] : List UInt8)) S1.out HB9.out HWB.out HO9.out (by have := E2.out; omega) (by decide)
      have k0 := rX.cell 0 _ rfl
      have k1 := rX.cell 1 _ rfl
      have k2 := rX.cell 2 _ rfl
      have IX := Lib.hid iX
      have BX := Lib.hid bX
      clear rX bX iX c0 c1 c2 f1 d0 d1 d2 e0 e1 e2
      refine ⟨rfl, .agg #[.int .i64 4, (.slice a8 Z.length c8), .string ⟨([] : List UInt8).toArray⟩], ?_, BX.out, .inl ⟨_, _, _, hyes.out, rfl, IX.out⟩⟩
      simp [results, Tryd.results50, go_sem, k0, k1, k2]
    | false =>
      have hP2 := Lib.hid (hP.mono fun e w' hh => NumsK.no hh hok)
      have hno : Hid (readK 4 L = none) := by show numsP L 1 65 = _; unfold numsP; rw [if_neg (by rw [hok]; simp)]
      clear hP hok
      go_enter Tryd.func50, Tryd.ntmps50
      go_wp2_with fail
      rw [HV.out]
      refine hP2.out.mono ?_
      rintro e w8 ⟨rfl, hb8⟩
      exact ⟨rfl, Below.of HB2.out hb8, .inr ⟨hno.out, rfl⟩⟩
  · subst h5
    obtain rfl : K = 5 := hK
    clear hk
    have hP := kNumbers_any L v 1 1 V2 hS2.out hl (by decide)
    cases hok : numsOk L 1 1 with
    | true =>
      have hP2 := Lib.hid (hP.mono fun e w' hh => NumsK.yes hh hok)
      have hyes : Hid (readK 5 L = some ([], L.map PR.numV)) := by show numsP L 1 1 = _; unfold numsP; rw [if_pos hok]
      obtain ⟨Z, hZ⟩ : ∃ Z, Z = L.map PR.numV := ⟨_, rfl⟩
      rw [← hZ] at hP2 hyes
      clear hP hok hZ
      go_enter Tryd.func50, Tryd.ntmps50
      go_wp2_with fail
      rw [HV.out, ← HBB.out]
      refine hP2.out.mono ?_
      rintro e w8 ⟨v8, rfl, ho8, hb8⟩
      have q1 := R1.out.mono hb8
      have q2 := R2.out.mono hb8
      obtain ⟨a8, c8, rfl⟩ := owned_sliceK ho8.1
      have hg1 := set_grown' w8 (b + 1) 1 (.slice a8 Z.length c8)
      have s2 := q2.set 1 (.slice a8 Z.length c8)
      have s1 := q1.grown hg1 (fun e => by have := Option.some.inj e; omega)
      have B9 := (Below.of HB2.out hb8).grown hg1 (by have := HB2.out.size; have := hb8.size; omega) (fun k e => by cases e; have := HWB.out; omega)
      have O9 := ho8.past hg1 (by have := E2.out; omega)
      have c0 := q2.cell 0 _ rfl
      have c1 := q2.cell 1 _ rfl
      have c2 := q2.cell 2 _ rfl
      have f1 := q2.frozen 1
      have d0 := q1.cell 0 _ rfl
      have d1 := q1.cell 1 _ rfl
      have d2 := q1.cell 2 _ rfl
      have e0 := q1.frozen 0
      have e1 := q1.frozen 1
      have e2 := q1.frozen 2
      have S1 := Lib.hid s1
      have HB9 := Lib.hid B9
      have HO9 := Lib.hid O9
      clear q1 q2 hg1 s1 s2 B9 O9 ho8 hb8
      go_wp2_with fail
      obtain ⟨rX, bX, iX⟩ := cmd_fin (K := 5) (v := (.slice a8 Z.length c8)) (t := ([] : List UInt8)) S1.out HB9.out HWB.out HO9.out (by have := E2.out; omega) (by decide)
      have k0 := rX.cell 0 _ rfl
      have k1 := rX.cell 1 _ rfl
      have k2 := rX.cell 2 _ rfl
      have IX := Lib.hid iX
      have BX := Lib.hid bX
      clear rX bX iX c0 c1 c2 f1 d0 d1 d2 e0 e1 e2
      refine ⟨rfl, .agg #[.int .i64 5, (.slice a8 Z.length c8), .string ⟨([] : List UInt8).toArray⟩], ?_, BX.out, .inl ⟨_, _, _, hyes.out, rfl, IX.out⟩⟩
      simp [results, Tryd.results50, go_sem, k0, k1, k2]
    | false =>
      have hP2 := Lib.hid (hP.mono fun e w' hh => NumsK.no hh hok)
      have hno : Hid (readK 5 L = none) := by show numsP L 1 1 = _; unfold numsP; rw [if_neg (by rw [hok]; simp)]
      clear hP hok
      go_enter Tryd.func50, Tryd.ntmps50
      go_wp2_with fail
      rw [HV.out]
      refine hP2.out.mono ?_
      rintro e w8 ⟨rfl, hb8⟩
      exact ⟨rfl, Below.of HB2.out hb8, .inr ⟨hno.out, rfl⟩⟩
  · subst h6
    obtain rfl : K = 6 := hK
    clear hk
    by_cases h0 : L.length = 0
    · have hyes : Hid (readK 6 L = some ([], [])) := by show (if L.length = 0 then _ else _) = _; rw [if_pos h0]
      obtain ⟨ao, cap, rfl, h1, h2, _⟩ := hS2.out.open_
      have hz : (L.length : Int) = 0 := by omega
      have S1 := Lib.hid R1.out
      have HB9 := Lib.hid HB2.out
      have HO9 : Hid (OwnI V2 V2.heap.size (.slice none 0 0) []) := ⟨World.ownsRow_nil _ _ _ _, fun x hx => by cases hx⟩
      clear h1 h2 h0
      go_enter Tryd.func50, Tryd.ntmps50
      go_wp2_with fail
      rw [HV.out, ← HBB.out]
      refine (kNeed_ok _ _).mono ?_
      rintro e w8 ⟨rfl, hw8⟩
      subst hw8
      have c0 := R2.out.cell 0 _ rfl
      have c1 := R2.out.cell 1 _ rfl
      have c2 := R2.out.cell 2 _ rfl
      have f1 := R2.out.frozen 2
      have d0 := R1.out.cell 0 _ rfl
      have d1 := R1.out.cell 1 _ rfl
      have d2 := R1.out.cell 2 _ rfl
      have e0 := R1.out.frozen 0
      have e1 := R1.out.frozen 1
      have e2 := R1.out.frozen 2
      go_wp2_with fail
      obtain ⟨rX, bX, iX⟩ := cmd_fin (K := 6) (v := (.slice none 0 0)) (t := ([] : List UInt8)) S1.out HB9.out HWB.out HO9.out (by have := E2.out; omega) (by decide)
      have k0 := rX.cell 0 _ rfl
      have k1 := rX.cell 1 _ rfl
      have k2 := rX.cell 2 _ rfl
      have IX := Lib.hid iX
      have BX := Lib.hid bX
      clear rX bX iX c0 c1 c2 f1 d0 d1 d2 e0 e1 e2
      refine ⟨rfl, .agg #[.int .i64 6, (.slice none 0 0), .string ⟨([] : List UInt8).toArray⟩], ?_, BX.out, .inl ⟨_, _, _, hyes.out, rfl, IX.out⟩⟩
      simp [results, Tryd.results50, go_sem, k0, k1, k2]
    · have hno : Hid (readK 6 L = none) := by show (if L.length = 0 then _ else _) = _; rw [if_neg h0]
      obtain ⟨ao, cap, rfl, h1, h2, _⟩ := hS2.out.open_
      have hz : ¬ (L.length : Int) = 0 := by omega
      have hzb : ((L.length : Int) == 0) = false := by simpa using hz
      clear h1 h2 h0
      go_enter Tryd.func50, Tryd.ntmps50
      go_wp2_with fail
      rw [HV.out]
      refine (kNeed_no _ _).mono ?_
      rintro e w8 ⟨rfl, rfl⟩
      exact ⟨rfl, HB2.out, .inr ⟨hno.out, rfl⟩⟩
  · subst h7
    obtain rfl : K = 7 := hK
    clear hk
    by_cases h0 : L.length = 0
    · have hyes : Hid (readK 7 L = some ([], [])) := by show (if L.length = 0 then _ else _) = _; rw [if_pos h0]
      obtain ⟨ao, cap, rfl, h1, h2, _⟩ := hS2.out.open_
      have hz : (L.length : Int) = 0 := by omega
      have S1 := Lib.hid R1.out
      have HB9 := Lib.hid HB2.out
      have HO9 : Hid (OwnI V2 V2.heap.size (.slice none 0 0) []) := ⟨World.ownsRow_nil _ _ _ _, fun x hx => by cases hx⟩
      clear h1 h2 h0
      go_enter Tryd.func50, Tryd.ntmps50
      go_wp2_with fail
      rw [HV.out, ← HBB.out]
      refine (kNeed_ok _ _).mono ?_
      rintro e w8 ⟨rfl, hw8⟩
      subst hw8
      have c0 := R2.out.cell 0 _ rfl
      have c1 := R2.out.cell 1 _ rfl
      have c2 := R2.out.cell 2 _ rfl
      have f1 := R2.out.frozen 2
      have d0 := R1.out.cell 0 _ rfl
      have d1 := R1.out.cell 1 _ rfl
      have d2 := R1.out.cell 2 _ rfl
      have e0 := R1.out.frozen 0
      have e1 := R1.out.frozen 1
      have e2 := R1.out.frozen 2
      go_wp2_with fail
      obtain ⟨rX, bX, iX⟩ := cmd_fin (K := 7) (v := (.slice none 0 0)) (t := ([] : List UInt8)) S1.out HB9.out HWB.out HO9.out (by have := E2.out; omega) (by decide)
      have k0 := rX.cell 0 _ rfl
      have k1 := rX.cell 1 _ rfl
      have k2 := rX.cell 2 _ rfl
      have IX := Lib.hid iX
      have BX := Lib.hid bX
      clear rX bX iX c0 c1 c2 f1 d0 d1 d2 e0 e1 e2
      refine ⟨rfl, .agg #[.int .i64 7, (.slice none 0 0), .string ⟨([] : List UInt8).toArray⟩], ?_, BX.out, .inl ⟨_, _, _, hyes.out, rfl, IX.out⟩⟩
      simp [results, Tryd.results50, go_sem, k0, k1, k2]
    · have hno : Hid (readK 7 L = none) := by show (if L.length = 0 then _ else _) = _; rw [if_neg h0]
      obtain ⟨ao, cap, rfl, h1, h2, _⟩ := hS2.out.open_
      have hz : ¬ (L.length : Int) = 0 := by omega
      have hzb : ((L.length : Int) == 0) = false := by simpa using hz
      clear h1 h2 h0
      go_enter Tryd.func50, Tryd.ntmps50
      go_wp2_with fail
      rw [HV.out]
      refine (kNeed_no _ _).mono ?_
      rintro e w8 ⟨rfl, rfl⟩
      exact ⟨rfl, HB2.out, .inr ⟨hno.out, rfl⟩⟩
  · subst h8
    obtain rfl : K = 8 := hK
    clear hk
    by_cases h0 : L.length = 0
    · have hyes : Hid (readK 8 L = some ([], [])) := by show (if L.length = 0 then _ else _) = _; rw [if_pos h0]
      obtain ⟨ao, cap, rfl, h1, h2, _⟩ := hS2.out.open_
      have hz : (L.length : Int) = 0 := by omega
      have S1 := Lib.hid R1.out
      have HB9 := Lib.hid HB2.out
      have HO9 : Hid (OwnI V2 V2.heap.size (.slice none 0 0) []) := ⟨World.ownsRow_nil _ _ _ _, fun x hx => by cases hx⟩
      clear h1 h2 h0
      go_enter Tryd.func50, Tryd.ntmps50
      go_wp2_with fail
      rw [HV.out, ← HBB.out]
      refine (kNeed_ok _ _).mono ?_
      rintro e w8 ⟨rfl, hw8⟩
      subst hw8
      have c0 := R2.out.cell 0 _ rfl
      have c1 := R2.out.cell 1 _ rfl
      have c2 := R2.out.cell 2 _ rfl
      have f1 := R2.out.frozen 2
      have d0 := R1.out.cell 0 _ rfl
      have d1 := R1.out.cell 1 _ rfl
      have d2 := R1.out.cell 2 _ rfl
      have e0 := R1.out.frozen 0
      have e1 := R1.out.frozen 1
      have e2 := R1.out.frozen 2
      go_wp2_with fail
      obtain ⟨rX, bX, iX⟩ := cmd_fin (K := 8) (v := (.slice none 0 0)) (t := ([] : List UInt8)) S1.out HB9.out HWB.out HO9.out (by have := E2.out; omega) (by decide)
      have k0 := rX.cell 0 _ rfl
      have k1 := rX.cell 1 _ rfl
      have k2 := rX.cell 2 _ rfl
      have IX := Lib.hid iX
      have BX := Lib.hid bX
      clear rX bX iX c0 c1 c2 f1 d0 d1 d2 e0 e1 e2
      refine ⟨rfl, .agg #[.int .i64 8, (.slice none 0 0), .string ⟨([] : List UInt8).toArray⟩], ?_, BX.out, .inl ⟨_, _, _, hyes.out, rfl, IX.out⟩⟩
      simp [results, Tryd.results50, go_sem, k0, k1, k2]
    · have hno : Hid (readK 8 L = none) := by show (if L.length = 0 then _ else _) = _; rw [if_neg h0]
      obtain ⟨ao, cap, rfl, h1, h2, _⟩ := hS2.out.open_
      have hz : ¬ (L.length : Int) = 0 := by omega
      have hzb : ((L.length : Int) == 0) = false := by simpa using hz
      clear h1 h2 h0
      go_enter Tryd.func50, Tryd.ntmps50
      go_wp2_with fail
      rw [HV.out]
      refine (kNeed_no _ _).mono ?_
      rintro e w8 ⟨rfl, rfl⟩
      exact ⟨rfl, HB2.out, .inr ⟨hno.out, rfl⟩⟩
  · subst h9
    obtain rfl : K = 9 := hK
    clear hk
    have hP := kAsked_any L v m V2 hS2.out HM2.out
    cases hbk : askedK L with
    | none =>
      have hno : Hid (readK 9 L = none) := by show (askedK L).map _ = _; rw [hbk]; rfl
      have hP2 : Hid (Calls Tryd.prog 86 #[v] V2 fun e w' => e = .panicked (errC 33) ∧ Below V2.heap.size V2 w') := hP.mono fun e w' hh => by
        obtain ⟨hb, ⟨t, _, h1, _⟩ | ⟨_, rfl⟩⟩ := hh
        · rw [hbk] at h1; cases h1
        · exact ⟨rfl, hb⟩
      clear hP hbk
      go_enter Tryd.func50, Tryd.ntmps50
      go_wp2_with fail
      rw [HV.out]
      refine hP2.out.mono ?_
      rintro e w8 ⟨rfl, hb8⟩
      exact ⟨rfl, Below.of HB2.out hb8, .inr ⟨hno.out, rfl⟩⟩
    | some Z =>
      have hyes : Hid (readK 9 L = some ([], Z)) := by show (askedK L).map _ = _; rw [hbk]; rfl
      have hP2 : Hid (Calls Tryd.prog 86 #[v] V2 fun e w' => ∃ v, e = .returned v ∧ OwnI w' V2.heap.size v Z ∧ Below V2.heap.size V2 w') := hP.mono fun e w' hh => by
        obtain ⟨hb, ⟨t, u, h1, rfl, ho⟩ | ⟨h1, _⟩⟩ := hh
        · rw [hbk] at h1; obtain rfl := Option.some.inj h1; exact ⟨u, rfl, ho, hb⟩
        · rw [hbk] at h1; cases h1
      clear hP hbk
      go_enter Tryd.func50, Tryd.ntmps50
      go_wp2_with fail
      rw [HV.out, ← HBB.out]
      refine hP2.out.mono ?_
      rintro e w8 ⟨v8, rfl, ho8, hb8⟩
      have q1 := R1.out.mono hb8
      have q2 := R2.out.mono hb8
      obtain ⟨a8, c8, rfl⟩ := owned_sliceK ho8.1
      have hg1 := set_grown' w8 (b + 1) 1 (.slice a8 Z.length c8)
      have s2 := q2.set 1 (.slice a8 Z.length c8)
      have s1 := q1.grown hg1 (fun e => by have := Option.some.inj e; omega)
      have B9 := (Below.of HB2.out hb8).grown hg1 (by have := HB2.out.size; have := hb8.size; omega) (fun k e => by cases e; have := HWB.out; omega)
      have O9 := ho8.past hg1 (by have := E2.out; omega)
      have c0 := q2.cell 0 _ rfl
      have c1 := q2.cell 1 _ rfl
      have c2 := q2.cell 2 _ rfl
      have f1 := q2.frozen 1
      have d0 := q1.cell 0 _ rfl
      have d1 := q1.cell 1 _ rfl
      have d2 := q1.cell 2 _ rfl
      have e0 := q1.frozen 0
      have e1 := q1.frozen 1
      have e2 := q1.frozen 2
      have S1 := Lib.hid s1
      have HB9 := Lib.hid B9
      have HO9 := Lib.hid O9
      clear q1 q2 hg1 s1 s2 B9 O9 ho8 hb8
      go_wp2_with fail
      obtain ⟨rX, bX, iX⟩ := cmd_fin (K := 9) (v := (.slice a8 Z.length c8)) (t := ([] : List UInt8)) S1.out HB9.out HWB.out HO9.out (by have := E2.out; omega) (by decide)
      have k0 := rX.cell 0 _ rfl
      have k1 := rX.cell 1 _ rfl
      have k2 := rX.cell 2 _ rfl
      have IX := Lib.hid iX
      have BX := Lib.hid bX
      clear rX bX iX c0 c1 c2 f1 d0 d1 d2 e0 e1 e2
      refine ⟨rfl, .agg #[.int .i64 9, (.slice a8 Z.length c8), .string ⟨([] : List UInt8).toArray⟩], ?_, BX.out, .inl ⟨_, _, _, hyes.out, rfl, IX.out⟩⟩
      simp [results, Tryd.results50, go_sem, k0, k1, k2]
  · subst h10
    obtain rfl : K = 10 := hK
    clear hk
    by_cases h0 : L.length = 0
    · have hyes : Hid (readK 10 L = some ([], [])) := by show (if L.length = 0 then _ else _) = _; rw [if_pos h0]
      obtain ⟨ao, cap, rfl, h1, h2, _⟩ := hS2.out.open_
      have hz : (L.length : Int) = 0 := by omega
      have S1 := Lib.hid R1.out
      have HB9 := Lib.hid HB2.out
      have HO9 : Hid (OwnI V2 V2.heap.size (.slice none 0 0) []) := ⟨World.ownsRow_nil _ _ _ _, fun x hx => by cases hx⟩
      clear h1 h2 h0
      go_enter Tryd.func50, Tryd.ntmps50
      go_wp2_with fail
      rw [HV.out, ← HBB.out]
      refine (kNeed_ok _ _).mono ?_
      rintro e w8 ⟨rfl, hw8⟩
      subst hw8
      have c0 := R2.out.cell 0 _ rfl
      have c1 := R2.out.cell 1 _ rfl
      have c2 := R2.out.cell 2 _ rfl
      have f1 := R2.out.frozen 2
      have d0 := R1.out.cell 0 _ rfl
      have d1 := R1.out.cell 1 _ rfl
      have d2 := R1.out.cell 2 _ rfl
      have e0 := R1.out.frozen 0
      have e1 := R1.out.frozen 1
      have e2 := R1.out.frozen 2
      go_wp2_with fail
      obtain ⟨rX, bX, iX⟩ := cmd_fin (K := 10) (v := (.slice none 0 0)) (t := ([] : List UInt8)) S1.out HB9.out HWB.out HO9.out (by have := E2.out; omega) (by decide)
      have k0 := rX.cell 0 _ rfl
      have k1 := rX.cell 1 _ rfl
      have k2 := rX.cell 2 _ rfl
      have IX := Lib.hid iX
      have BX := Lib.hid bX
      clear rX bX iX c0 c1 c2 f1 d0 d1 d2 e0 e1 e2
      refine ⟨rfl, .agg #[.int .i64 10, (.slice none 0 0), .string ⟨([] : List UInt8).toArray⟩], ?_, BX.out, .inl ⟨_, _, _, hyes.out, rfl, IX.out⟩⟩
      simp [results, Tryd.results50, go_sem, k0, k1, k2]
    · have hno : Hid (readK 10 L = none) := by show (if L.length = 0 then _ else _) = _; rw [if_neg h0]
      obtain ⟨ao, cap, rfl, h1, h2, _⟩ := hS2.out.open_
      have hz : ¬ (L.length : Int) = 0 := by omega
      have hzb : ((L.length : Int) == 0) = false := by simpa using hz
      clear h1 h2 h0
      go_enter Tryd.func50, Tryd.ntmps50
      go_wp2_with fail
      rw [HV.out]
      refine (kNeed_no _ _).mono ?_
      rintro e w8 ⟨rfl, rfl⟩
      exact ⟨rfl, HB2.out, .inr ⟨hno.out, rfl⟩⟩
  · subst h11
    obtain rfl : K = 11 := hK
    clear hk
    by_cases h0 : L.length = 0
    · have hyes : Hid (readK 11 L = some ([], [])) := by show (if L.length = 0 then _ else _) = _; rw [if_pos h0]
      obtain ⟨ao, cap, rfl, h1, h2, _⟩ := hS2.out.open_
      have hz : (L.length : Int) = 0 := by omega
      have S1 := Lib.hid R1.out
      have HB9 := Lib.hid HB2.out
      have HO9 : Hid (OwnI V2 V2.heap.size (.slice none 0 0) []) := ⟨World.ownsRow_nil _ _ _ _, fun x hx => by cases hx⟩
      clear h1 h2 h0
      go_enter Tryd.func50, Tryd.ntmps50
      go_wp2_with fail
      rw [HV.out, ← HBB.out]
      refine (kNeed_ok _ _).mono ?_
      rintro e w8 ⟨rfl, hw8⟩
      subst hw8
      have c0 := R2.out.cell 0 _ rfl
      have c1 := R2.out.cell 1 _ rfl
      have c2 := R2.out.cell 2 _ rfl
      have f1 := R2.out.frozen 2
      have d0 := R1.out.cell 0 _ rfl
      have d1 := R1.out.cell 1 _ rfl
      have d2 := R1.out.cell 2 _ rfl
      have e0 := R1.out.frozen 0
      have e1 := R1.out.frozen 1
      have e2 := R1.out.frozen 2
      go_wp2_with fail
      obtain ⟨rX, bX, iX⟩ := cmd_fin (K := 11) (v := (.slice none 0 0)) (t := ([] : List UInt8)) S1.out HB9.out HWB.out HO9.out (by have := E2.out; omega) (by decide)
      have k0 := rX.cell 0 _ rfl
      have k1 := rX.cell 1 _ rfl
      have k2 := rX.cell 2 _ rfl
      have IX := Lib.hid iX
      have BX := Lib.hid bX
      clear rX bX iX c0 c1 c2 f1 d0 d1 d2 e0 e1 e2
      refine ⟨rfl, .agg #[.int .i64 11, (.slice none 0 0), .string ⟨([] : List UInt8).toArray⟩], ?_, BX.out, .inl ⟨_, _, _, hyes.out, rfl, IX.out⟩⟩
      simp [results, Tryd.results50, go_sem, k0, k1, k2]
    · have hno : Hid (readK 11 L = none) := by show (if L.length = 0 then _ else _) = _; rw [if_neg h0]
      obtain ⟨ao, cap, rfl, h1, h2, _⟩ := hS2.out.open_
      have hz : ¬ (L.length : Int) = 0 := by omega
      have hzb : ((L.length : Int) == 0) = false := by simpa using hz
      clear h1 h2 h0
      go_enter Tryd.func50, Tryd.ntmps50
      go_wp2_with fail
      rw [HV.out]
      refine (kNeed_no _ _).mono ?_
      rintro e w8 ⟨rfl, rfl⟩
      exact ⟨rfl, HB2.out, .inr ⟨hno.out, rfl⟩⟩
  · subst h12
    obtain rfl : K = 12 := hK
    clear hk
    have hP := kNumbers_any L v 1 1 V2 hS2.out hl (by decide)
    cases hok : numsOk L 1 1 with
    | true =>
      have hP2 := Lib.hid (hP.mono fun e w' hh => NumsK.yes hh hok)
      have hyes : Hid (readK 12 L = some ([], L.map PR.numV)) := by show numsP L 1 1 = _; unfold numsP; rw [if_pos hok]
      obtain ⟨Z, hZ⟩ : ∃ Z, Z = L.map PR.numV := ⟨_, rfl⟩
      rw [← hZ] at hP2 hyes
      clear hP hok hZ
      go_enter Tryd.func50, Tryd.ntmps50
      go_wp2_with fail
      rw [HV.out, ← HBB.out]
      refine hP2.out.mono ?_
      rintro e w8 ⟨v8, rfl, ho8, hb8⟩
      have q1 := R1.out.mono hb8
      have q2 := R2.out.mono hb8
      obtain ⟨a8, c8, rfl⟩ := owned_sliceK ho8.1
      have hg1 := set_grown' w8 (b + 1) 1 (.slice a8 Z.length c8)
      have s2 := q2.set 1 (.slice a8 Z.length c8)
      have s1 := q1.grown hg1 (fun e => by have := Option.some.inj e; omega)
      have B9 := (Below.of HB2.out hb8).grown hg1 (by have := HB2.out.size; have := hb8.size; omega) (fun k e => by cases e; have := HWB.out; omega)
      have O9 := ho8.past hg1 (by have := E2.out; omega)
      have c0 := q2.cell 0 _ rfl
      have c1 := q2.cell 1 _ rfl
      have c2 := q2.cell 2 _ rfl
      have f1 := q2.frozen 1
      have d0 := q1.cell 0 _ rfl
      have d1 := q1.cell 1 _ rfl
      have d2 := q1.cell 2 _ rfl
      have e0 := q1.frozen 0
      have e1 := q1.frozen 1
      have e2 := q1.frozen 2
      have S1 := Lib.hid s1
      have HB9 := Lib.hid B9
      have HO9 := Lib.hid O9
      clear q1 q2 hg1 s1 s2 B9 O9 ho8 hb8
      go_wp2_with fail
      obtain ⟨rX, bX, iX⟩ := cmd_fin (K := 12) (v := (.slice a8 Z.length c8)) (t := ([] : List UInt8)) S1.out HB9.out HWB.out HO9.out (by have := E2.out; omega) (by decide)
      have k0 := rX.cell 0 _ rfl
      have k1 := rX.cell 1 _ rfl
      have k2 := rX.cell 2 _ rfl
      have IX := Lib.hid iX
      have BX := Lib.hid bX
      clear rX bX iX c0 c1 c2 f1 d0 d1 d2 e0 e1 e2
      refine ⟨rfl, .agg #[.int .i64 12, (.slice a8 Z.length c8), .string ⟨([] : List UInt8).toArray⟩], ?_, BX.out, .inl ⟨_, _, _, hyes.out, rfl, IX.out⟩⟩
      simp [results, Tryd.results50, go_sem, k0, k1, k2]
    | false =>
      have hP2 := Lib.hid (hP.mono fun e w' hh => NumsK.no hh hok)
      have hno : Hid (readK 12 L = none) := by show numsP L 1 1 = _; unfold numsP; rw [if_neg (by rw [hok]; simp)]
      clear hP hok
      go_enter Tryd.func50, Tryd.ntmps50
      go_wp2_with fail
      rw [HV.out]
      refine hP2.out.mono ?_
      rintro e w8 ⟨rfl, hb8⟩
      exact ⟨rfl, Below.of HB2.out hb8, .inr ⟨hno.out, rfl⟩⟩
  · subst h13
    obtain rfl : K = 13 := hK
    clear hk
    have hP := kBits_any L v V2 hS2.out
    cases hbk : bitsK L with
    | none =>
      have hno : Hid (readK 13 L = none) := by show (bitsK L).map _ = _; rw [hbk]; rfl
      have hP2 : Hid (Calls Tryd.prog 87 #[v] V2 fun e w' => e = .panicked (errC 33) ∧ Below V2.heap.size V2 w') := hP.mono fun e w' hh => by
        obtain ⟨hb, ⟨t, h1, _⟩ | ⟨_, rfl⟩⟩ := hh
        · rw [hbk] at h1; cases h1
        · exact ⟨rfl, hb⟩
      clear hP hbk
      go_enter Tryd.func50, Tryd.ntmps50
      go_wp2_with fail
      rw [HV.out]
      refine hP2.out.mono ?_
      rintro e w8 ⟨rfl, hb8⟩
      exact ⟨rfl, Below.of HB2.out hb8, .inr ⟨hno.out, rfl⟩⟩
    | some t =>
      have hyes : Hid (readK 13 L = some (t, [])) := by show (bitsK L).map _ = _; rw [hbk]; rfl
      have hP2 : Hid (Calls Tryd.prog 87 #[v] V2 fun e w' => e = .returned (.string ⟨t.toArray⟩) ∧ t.length ≤ 64 ∧ Below V2.heap.size V2 w') := hP.mono fun e w' hh => by
        obtain ⟨hb, ⟨t', h1, rfl, ht⟩ | ⟨h1, _⟩⟩ := hh
        · rw [hbk] at h1; obtain rfl := Option.some.inj h1; exact ⟨rfl, ht, hb⟩
        · rw [hbk] at h1; cases h1
      clear hP hbk
      go_enter Tryd.func50, Tryd.ntmps50
      go_wp2_with fail
      rw [HV.out, ← HBB.out]
      refine hP2.out.mono ?_
      rintro e w8 ⟨rfl, ht, hb8⟩
      have q1 := R1.out.mono hb8
      have q2 := R2.out.mono hb8
      have hg1 := set_grown' w8 (b + 1) 2 (.string ⟨t.toArray⟩)
      have S1 := Lib.hid (q1.grown hg1 (fun e => by have := Option.some.inj e; omega))
      have HB9 := Lib.hid ((Below.of HB2.out hb8).grown hg1 (by have := HB2.out.size; have := hb8.size; omega) (fun k e => by cases e; have := HWB.out; omega))
      have HO9 : Hid (OwnI (w8.setCell ⟨b + 1, 2, none⟩ (.string ⟨t.toArray⟩)) V2.heap.size (.slice none 0 0) []) := ⟨World.ownsRow_nil _ _ _ _, fun x hx => by cases hx⟩
      have c0 := q2.cell 0 _ rfl
      have c1 := q2.cell 1 _ rfl
      have c2 := q2.cell 2 _ rfl
      have f1 := q2.frozen 2
      have d0 := q1.cell 0 _ rfl
      have d1 := q1.cell 1 _ rfl
      have d2 := q1.cell 2 _ rfl
      have e0 := q1.frozen 0
      have e1 := q1.frozen 1
      have e2 := q1.frozen 2
      have HT := Lib.hid ht
      clear q1 q2 hg1 hb8 ht
      go_wp2_with fail
      obtain ⟨rX, bX, iX⟩ := cmd_fin (K := 13) (v := (.slice none 0 0)) (t := t) S1.out HB9.out HWB.out HO9.out (by have := E2.out; omega) HT.out
      have k0 := rX.cell 0 _ rfl
      have k1 := rX.cell 1 _ rfl
      have k2 := rX.cell 2 _ rfl
      have IX := Lib.hid iX
      have BX := Lib.hid bX
      clear rX bX iX c0 c1 c2 f1 d0 d1 d2 e0 e1 e2
      refine ⟨rfl, .agg #[.int .i64 13, (.slice none 0 0), .string ⟨t.toArray⟩], ?_, BX.out, .inl ⟨_, _, _, hyes.out, rfl, IX.out⟩⟩
      simp [results, Tryd.results50, go_sem, k0, k1, k2]
  · subst h14
    obtain rfl : K = 14 := hK
    clear hk
    have hP := kBits_any L v V2 hS2.out
    cases hbk : bitsK L with
    | none =>
      have hno : Hid (readK 14 L = none) := by show (bitsK L).map _ = _; rw [hbk]; rfl
      have hP2 : Hid (Calls Tryd.prog 87 #[v] V2 fun e w' => e = .panicked (errC 33) ∧ Below V2.heap.size V2 w') := hP.mono fun e w' hh => by
        obtain ⟨hb, ⟨t, h1, _⟩ | ⟨_, rfl⟩⟩ := hh
        · rw [hbk] at h1; cases h1
        · exact ⟨rfl, hb⟩
      clear hP hbk
      go_enter Tryd.func50, Tryd.ntmps50
      go_wp2_with fail
      rw [HV.out]
      refine hP2.out.mono ?_
      rintro e w8 ⟨rfl, hb8⟩
      exact ⟨rfl, Below.of HB2.out hb8, .inr ⟨hno.out, rfl⟩⟩
    | some t =>
      have hyes : Hid (readK 14 L = some (t, [])) := by show (bitsK L).map _ = _; rw [hbk]; rfl
      have hP2 : Hid (Calls Tryd.prog 87 #[v] V2 fun e w' => e = .returned (.string ⟨t.toArray⟩) ∧ t.length ≤ 64 ∧ Below V2.heap.size V2 w') := hP.mono fun e w' hh => by
        obtain ⟨hb, ⟨t', h1, rfl, ht⟩ | ⟨h1, _⟩⟩ := hh
        · rw [hbk] at h1; obtain rfl := Option.some.inj h1; exact ⟨rfl, ht, hb⟩
        · rw [hbk] at h1; cases h1
      clear hP hbk
      go_enter Tryd.func50, Tryd.ntmps50
      go_wp2_with fail
      rw [HV.out, ← HBB.out]
      refine hP2.out.mono ?_
      rintro e w8 ⟨rfl, ht, hb8⟩
      have q1 := R1.out.mono hb8
      have q2 := R2.out.mono hb8
      have hg1 := set_grown' w8 (b + 1) 2 (.string ⟨t.toArray⟩)
      have S1 := Lib.hid (q1.grown hg1 (fun e => by have := Option.some.inj e; omega))
      have HB9 := Lib.hid ((Below.of HB2.out hb8).grown hg1 (by have := HB2.out.size; have := hb8.size; omega) (fun k e => by cases e; have := HWB.out; omega))
      have HO9 : Hid (OwnI (w8.setCell ⟨b + 1, 2, none⟩ (.string ⟨t.toArray⟩)) V2.heap.size (.slice none 0 0) []) := ⟨World.ownsRow_nil _ _ _ _, fun x hx => by cases hx⟩
      have c0 := q2.cell 0 _ rfl
      have c1 := q2.cell 1 _ rfl
      have c2 := q2.cell 2 _ rfl
      have f1 := q2.frozen 2
      have d0 := q1.cell 0 _ rfl
      have d1 := q1.cell 1 _ rfl
      have d2 := q1.cell 2 _ rfl
      have e0 := q1.frozen 0
      have e1 := q1.frozen 1
      have e2 := q1.frozen 2
      have HT := Lib.hid ht
      clear q1 q2 hg1 hb8 ht
      go_wp2_with fail
      obtain ⟨rX, bX, iX⟩ := cmd_fin (K := 14) (v := (.slice none 0 0)) (t := t) S1.out HB9.out HWB.out HO9.out (by have := E2.out; omega) HT.out
      have k0 := rX.cell 0 _ rfl
      have k1 := rX.cell 1 _ rfl
      have k2 := rX.cell 2 _ rfl
      have IX := Lib.hid iX
      have BX := Lib.hid bX
      clear rX bX iX c0 c1 c2 f1 d0 d1 d2 e0 e1 e2
      refine ⟨rfl, .agg #[.int .i64 14, (.slice none 0 0), .string ⟨t.toArray⟩], ?_, BX.out, .inl ⟨_, _, _, hyes.out, rfl, IX.out⟩⟩
      simp [results, Tryd.results50, go_sem, k0, k1, k2]
  · subst h15
    obtain rfl : K = 15 := hK
    clear hk
    have hP := kNumbers_any L v 1 1 V2 hS2.out hl (by decide)
    cases hok : numsOk L 1 1 with
    | true =>
      have hP2 := Lib.hid (hP.mono fun e w' hh => NumsK.yes hh hok)
      have hyes : Hid (readK 15 L = some ([], L.map PR.numV)) := by show numsP L 1 1 = _; unfold numsP; rw [if_pos hok]
      obtain ⟨Z, hZ⟩ : ∃ Z, Z = L.map PR.numV := ⟨_, rfl⟩
      rw [← hZ] at hP2 hyes
      clear hP hok hZ
      go_enter Tryd.func50, Tryd.ntmps50
      go_wp2_with fail
      rw [HV.out, ← HBB.out]
      refine hP2.out.mono ?_
      rintro e w8 ⟨v8, rfl, ho8, hb8⟩
      have q1 := R1.out.mono hb8
      have q2 := R2.out.mono hb8
      obtain ⟨a8, c8, rfl⟩ := owned_sliceK ho8.1
      have hg1 := set_grown' w8 (b + 1) 1 (.slice a8 Z.length c8)
      have s2 := q2.set 1 (.slice a8 Z.length c8)
      have s1 := q1.grown hg1 (fun e => by have := Option.some.inj e; omega)
      have B9 := (Below.of HB2.out hb8).grown hg1 (by have := HB2.out.size; have := hb8.size; omega) (fun k e => by cases e; have := HWB.out; omega)
      have O9 := ho8.past hg1 (by have := E2.out; omega)
      have c0 := q2.cell 0 _ rfl
      have c1 := q2.cell 1 _ rfl
      have c2 := q2.cell 2 _ rfl
      have f1 := q2.frozen 1
      have d0 := q1.cell 0 _ rfl
      have d1 := q1.cell 1 _ rfl
      have d2 := q1.cell 2 _ rfl
      have e0 := q1.frozen 0
      have e1 := q1.frozen 1
      have e2 := q1.frozen 2
      have S1 := Lib.hid s1
      have HB9 := Lib.hid B9
      have HO9 := Lib.hid O9
      clear q1 q2 hg1 s1 s2 B9 O9 ho8 hb8
      go_wp2_with fail
      obtain ⟨rX, bX, iX⟩ := cmd_fin (K := 15) (v := (.slice a8 Z.length c8)) (t := ([] : List UInt8)) S1.out HB9.out HWB.out HO9.out (by have := E2.out; omega) (by decide)
      have k0 := rX.cell 0 _ rfl
      have k1 := rX.cell 1 _ rfl
      have k2 := rX.cell 2 _ rfl
      have IX := Lib.hid iX
      have BX := Lib.hid bX
      clear rX bX iX c0 c1 c2 f1 d0 d1 d2 e0 e1 e2
      refine ⟨rfl, .agg #[.int .i64 15, (.slice a8 Z.length c8), .string ⟨([] : List UInt8).toArray⟩], ?_, BX.out, .inl ⟨_, _, _, hyes.out, rfl, IX.out⟩⟩
      simp [results, Tryd.results50, go_sem, k0, k1, k2]
    | false =>
      have hP2 := Lib.hid (hP.mono fun e w' hh => NumsK.no hh hok)
      have hno : Hid (readK 15 L = none) := by show numsP L 1 1 = _; unfold numsP; rw [if_neg (by rw [hok]; simp)]
      clear hP hok
      go_enter Tryd.func50, Tryd.ntmps50
      go_wp2_with fail
      rw [HV.out]
      refine hP2.out.mono ?_
      rintro e w8 ⟨rfl, hb8⟩
      exact ⟨rfl, Below.of HB2.out hb8, .inr ⟨hno.out, rfl⟩⟩
  · subst h16
    obtain rfl : K = 16 := hK
    clear hk
    by_cases h0 : L.length = 0
    · have hyes : Hid (readK 16 L = some ([], [])) := by show (if L.length = 0 then _ else _) = _; rw [if_pos h0]
      obtain ⟨ao, cap, rfl, h1, h2, _⟩ := hS2.out.open_
      have hz : (L.length : Int) = 0 := by omega
      have S1 := Lib.hid R1.out
      have HB9 := Lib.hid HB2.out
      have HO9 : Hid (OwnI V2 V2.heap.size (.slice none 0 0) []) := ⟨World.ownsRow_nil _ _ _ _, fun x hx => by cases hx⟩
      clear h1 h2 h0
      go_enter Tryd.func50, Tryd.ntmps50
      go_wp2_with fail
      rw [HV.out, ← HBB.out]
      refine (kNeed_ok _ _).mono ?_
      rintro e w8 ⟨rfl, hw8⟩
      subst hw8
      have c0 := R2.out.cell 0 _ rfl
      have c1 := R2.out.cell 1 _ rfl
      have c2 := R2.out.cell 2 _ rfl
      have f1 := R2.out.frozen 2
      have d0 := R1.out.cell 0 _ rfl
      have d1 := R1.out.cell 1 _ rfl
      have d2 := R1.out.cell 2 _ rfl
      have e0 := R1.out.frozen 0
      have e1 := R1.out.frozen 1
      have e2 := R1.out.frozen 2
      go_wp2_with fail
      obtain ⟨rX, bX, iX⟩ := cmd_fin (K := 16) (v := (.slice none 0 0)) (t := ([] : List UInt8)) S1.out HB9.out HWB.out HO9.out (by have := E2.out; omega) (by decide)
      have k0 := rX.cell 0 _ rfl
      have k1 := rX.cell 1 _ rfl
      have k2 := rX.cell 2 _ rfl
      have IX := Lib.hid iX
      have BX := Lib.hid bX
      clear rX bX iX c0 c1 c2 f1 d0 d1 d2 e0 e1 e2
      refine ⟨rfl, .agg #[.int .i64 16, (.slice none 0 0), .string ⟨([] : List UInt8).toArray⟩], ?_, BX.out, .inl ⟨_, _, _, hyes.out, rfl, IX.out⟩⟩
      simp [results, Tryd.results50, go_sem, k0, k1, k2]
    · have hno : Hid (readK 16 L = none) := by show (if L.length = 0 then _ else _) = _; rw [if_neg h0]
      obtain ⟨ao, cap, rfl, h1, h2, _⟩ := hS2.out.open_
      have hz : ¬ (L.length : Int) = 0 := by omega
      have hzb : ((L.length : Int) == 0) = false := by simpa using hz
      clear h1 h2 h0
      go_enter Tryd.func50, Tryd.ntmps50
      go_wp2_with fail
      rw [HV.out]
      refine (kNeed_no _ _).mono ?_
      rintro e w8 ⟨rfl, rfl⟩
      exact ⟨rfl, HB2.out, .inr ⟨hno.out, rfl⟩⟩

end Go.Proofs.YtjcaejdokillgaaDoor
