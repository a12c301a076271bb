/- Contracts: sim.First, sim.Initial. -/
import Derived.Test.YtpkaoabpifeigaaGreatDoorWalkM4
namespace Go.Proofs.YtpkaoabpifeigaaGreatDoor
open Go.RowKit Go.Shelf
attribute [local simp] mk_get

/-- what a latch is at first -/
def rst (lit reset : Int) (y : UInt8) : UInt8 := if reset = lit then y else if reset = 1 then 49 else 48

theorem zip_map_eq {α : Type} (f : α × UInt8 → UInt8) : ∀ (l : List α) (s : List UInt8), l.length = s.length → ((l.zip s).map f = s ↔ ∀ p ∈ l.zip s, f p = p.2)
  | [], [], _ => by simp
  | [], _ :: _, h => by simp at h
  | _ :: _, [], h => by simp at h
  | a :: l, b :: s, h => by
    have ih := zip_map_eq f l s (by simpa using h)
    simp only [List.zip_cons_cons, List.map_cons, List.cons.injEq, List.mem_cons]
    rw [ih]
    constructor
    · rintro ⟨h1, h2⟩ p (rfl | hp)
      · exact h1
      · exact h2 p hp
    · intro h
      exact ⟨h _ (Or.inl rfl), fun p hp => h p (Or.inr hp)⟩

def firstE (c : PC.Circ) (fr : List UInt8) : Int := if PC.chk c = false then 9 else if PC.bitsOk fr c.latches.length = false then 5 else 0
def firstR (c : PC.Circ) (fr : List UInt8) : List UInt8 := (c.latches.zip fr).map fun p => rst p.1.lit p.1.reset p.2
def firstS (c : PC.Circ) (fr : List UInt8) : List UInt8 := if firstE c fr = 0 then firstR c fr else []

theorem initial_first (c : PC.Circ) (h : PC.Right c) (st : List UInt8) (hb : PC.bitsOk st c.latches.length = true) : (firstR c st == st) = PC.initial c st := by
  have hm := PC.bitsOk_mem hb
  rw [PC.initial, hb, Bool.true_and, Bool.eq_iff_iff, beq_iff_eq, List.all_eq_true, firstR, zip_map_eq _ _ _ hm.2.symm]
  constructor
  · intro hh p hp
    have h1 := hh p hp
    have h2 := hm.1 _ (List.of_mem_zip hp).2
    have h3 := h.latReset _ (List.of_mem_zip hp).1
    unfold rst at h1
    by_cases e : p.1.reset = p.1.lit
    · simp [e]
    · rw [if_neg e] at h1
      by_cases e1 : p.1.reset = 1
      · rw [if_pos e1] at h1
        simp [e1, ← h1]
      · rw [if_neg e1] at h1
        simp [e1, ← h1]
  · intro hh p hp
    have h1 := hh p hp
    have h2 := hm.1 _ (List.of_mem_zip hp).2
    unfold rst
    by_cases e : p.1.reset = p.1.lit
    · rw [if_pos e]
    · rw [if_neg e]
      by_cases e1 : p.1.reset = 1
      · rw [if_pos e1]
        rcases h2 with h2 | h2
        · rw [h2] at h1
          have e2 : (1 : Int) ≠ p.1.lit := fun x => e (e1.trans x)
          simp [e1, e2] at h1
        · exact h2.symm
      · rw [if_neg e1]
        rcases h2 with h2 | h2
        · exact h2.symm
        · rw [h2] at h1
          simp [e, e1] at h1

set_option maxHeartbeats 1000000 in
theorem reset_any (lit next reset : Int) (y : UInt8) (w : World) (h : reset = 0 ∨ reset = 1 ∨ reset = lit) :
    Calls Tryz.prog 91 #[.agg #[.int .i64 lit, .int .i64 next, .int .i64 reset], .int .u8 (y.toNat : Int)] w fun e w' => e = .returned (.int .u8 ((rst lit reset y).toNat : Int)) ∧ Below w.heap.size w w' := by
  by_cases e : reset = lit
  · have e' : (reset == lit) = true := by simpa using e
    have er : rst lit reset y = y := by unfold rst; rw [if_pos e]
    rw [er]
    clear er h
    subst e
    go_enter Tryz.func91, Tryz.ntmps91
    go_wp2
    go_ret
    exact ⟨rfl, (Below.refl _ _).alloc (Nat.le_refl _) _⟩
  · have e' : (reset == lit) = false := by simpa using e
    have h2 : reset = 0 ∨ reset = 1 := by
      rcases h with h | h | h
      · exact Or.inl h
      · exact Or.inr h
      · exact absurd h e
    rcases h2 with rfl | rfl
    · have er : rst lit 0 y = 48 := by unfold rst; rw [if_neg e, if_neg (by decide)]
      rw [er]
      clear er h
      go_enter Tryz.func91, Tryz.ntmps91
      go_wp2
      go_ret
      exact ⟨rfl, (Below.refl _ _).alloc (Nat.le_refl _) _⟩
    · have er : rst lit 1 y = 49 := by unfold rst; rw [if_neg e, if_pos rfl]
      rw [er]
      clear er h
      go_enter Tryz.func91, Tryz.ntmps91
      go_wp2
      go_ret
      exact ⟨rfl, (Below.refl _ _).alloc (Nat.le_refl _) _⟩

set_option maxRecDepth 100000 in
set_option maxHeartbeats 4000000 in
theorem simFirst_any (c : PC.Circ) (vc : Value) (st : List UInt8) (w : World) (h : IsCirc w vc c) (hs : st.length ≤ 9223372036854775807) :
    Calls Tryz.prog 66 #[vc, .string ⟨st.toArray⟩] w fun e w' => e = .returned (.tuple #[.string ⟨(firstS c st).toArray⟩, .int .i64 (firstE c st)]) ∧ Below w.heap.size w w' := by
  have hCk : ∀ w1, Below w.heap.size w w1 → _ := fun w1 hb => cCheck_any c vc w1 (h.mono hb)
  rw [PC.pchk_eq] at hCk
  obtain ⟨vi, vl, vo, vb, vv, va, vn, rfl, hp, hm⟩ := h
  obtain ⟨al, capl, rfl, hl1, hl2, hl3⟩ := hp.latches.open_
  clear hp
  have hB1 := fun w1 => simBits_any st c.latches.length w1 hs (by omega)
  have HL := Lib.hid hl3
  clear hl3
  have hb0 : Below w.heap.size w (w.alloc (.cells #[.int .i64 c.max, vi, .slice al c.latches.length capl, vo, vb, vv, va, vn] 27)) := (Below.refl _ _).alloc (Nat.le_refl _) _
  have hbx0 := Lib.hid (Box8.new w (.int .i64 c.max) vi (.slice al c.latches.length capl) vo vb vv va vn 27)
  obtain ⟨VE, hVE⟩ : ∃ x, x = firstE c st := ⟨_, rfl⟩
  obtain ⟨NS, hNS⟩ : ∃ x, x = firstS c st := ⟨_, rfl⟩
  rw [← hVE, ← hNS]
  have HVE := Lib.hid hVE
  have HNS := Lib.hid hNS
  clear hVE hNS
  go_enter Tryz.func66, Tryz.ntmps66
  go_wp2_with fail
  refine (hCk _ (by exact hb0)).mono ?_
  rintro e w0 ⟨rfl, hb1⟩
  have hb00 := Lib.hid (Below.of hb0 hb1)
  have hbx1 := Lib.hid (hbx0.out.mono hb1)
  clear hb0 hb1 hbx0 hCk
  cases hck : PC.chk c with
  | false =>
    have e1 : VE = 9 := by rw [HVE.out, firstE, if_pos hck]
    have e2 : NS = [] := by rw [HNS.out, firstS, ← HVE.out, e1]; rfl
    subst e1
    subst e2
    clear hck HVE HNS
    go_wp2_with fail
    go_ret2
    exact ⟨rfl, hb00.out⟩
  | true =>
    have hR := Lib.hid (PC.right_of c hck)
    have HCK := Lib.hid hck
    clear hck
    rw [if_pos rfl]
    obtain ⟨q0, q1, q2, q3, q4, q5, q6, q7⟩ := hbx1.out
    go_wp2_with fail
    refine (hB1 _).mono ?_
    rintro e w1 ⟨rfl, hb2⟩
    have hb01 := Lib.hid (Below.of hb00.out hb2)
    have hbx2 := Lib.hid (hbx1.out.mono hb2)
    clear hb00 hb2 hbx1 hB1 q0 q1 q2 q3 q4 q5 q6 q7
    cases d1 : PC.bitsOk st c.latches.length with
    | false =>
      have e1 : VE = 5 := by rw [HVE.out, firstE, if_neg (by rw [HCK.out]; decide), if_pos d1]
      have e2 : NS = [] := by rw [HNS.out, firstS, ← HVE.out, e1]; rfl
      subst e1
      subst e2
      clear d1 HVE HNS
      go_wp2_with fail
      go_ret2
      exact ⟨rfl, hb01.out⟩
    | true =>
      have e1 : VE = 0 := by rw [HVE.out, firstE, if_neg (by rw [HCK.out]; decide), if_neg (by rw [d1]; decide)]
      have hNS0 : Hid (NS = (c.latches.zip st).map fun p => rst p.1.lit p.1.reset p.2) := by show _ = _; rw [HNS.out, firstS, ← HVE.out, if_pos e1]; rfl
      have hsl : st.length = c.latches.length := (PC.bitsOk_mem d1).2
      have hNl : NS.length = c.latches.length := by rw [hNS0.out, List.length_map, List.length_zip]; omega
      have hll := hR.out.lats
      have HSL := Lib.hid hsl
      subst e1
      clear d1 HVE HNS hsl
      obtain ⟨q0, q1, q2, q3, q4, q5, q6, q7⟩ := hbx2.out
      have hbs1 : w.heap.size < w1.heap.size := World.block_lt_of_cell? w1 _ q0
      have r2 := past1 q2
      go_wp2_with fail
      go_loopg [8, 9, 24] c.latches.length (fun gg s8 s9 s24 wr => ∃ k : Nat, k ≤ c.latches.length ∧ c.latches.length - k ≤ gg ∧ s24 = .int .i64 k ∧ Hid (Lib.IsBuilderF 111 5 w1.heap.size w1.heap.size (Lib.byteCells (NS.take k)) wr) ∧ Below w1.heap.size w1 wr)
      case atStart => exact ⟨0, Nat.zero_le _, by omega, rfl, builder_new _ _ _, (Below.refl _ _).alloc (Nat.le_refl _) _⟩
      case round =>
        clear q0 q1 q2 q3 q4 q5 q6 q7 r2
        obtain ⟨k, hk, hg, rfl, hbd, hbr⟩ := hrel
        by_cases hlt : k < c.latches.length
        · have hmea : ∀ g : Nat, c.latches.length - k ≤ g → c.latches.length - (k + 1) < g := fun g h => by omega
          obtain ⟨b, off, rfl, hbs', _, c0, c1, c2⟩ := HL.out k hlt
          have hlti : k < st.length := by rw [HSL.out]; exact hlt
          have hbwr := Below.of hb01.out hbr
          have c0 := (hbwr.cell hbs').trans c0
          have c1 := (hbwr.cell hbs').trans c1
          have c2 := (hbwr.cell hbs').trans c2
          have hrr := hR.out.latReset _ (List.getElem_mem hlt)
          have hnx : Hid (NS[k]'(by omega) = rst c.latches[k].lit c.latches[k].reset st[k]) := by
            show _ = _
            simp only [hNS0.out, List.getElem_map, List.getElem_zip]
          generalize hx : c.latches[k] = x at *
          clear hx
          obtain ⟨x, xn, xr⟩ := x
          simp only at hrr c0 c1 c2 hnx
          obtain ⟨y, hy⟩ : ∃ y, st[k] = y := ⟨_, rfl⟩
          rw [hy] at hnx
          have hltz : (k : Int) < (c.latches.length : Int) := by omega
          have hltiz : (k : Int) < (st.length : Int) := by omega
          have hn0 : (wr.alloc (.cells #[.int .i64 x, .int .i64 xn, .int .i64 xr] 38)).cell? ⟨wr.heap.size, 0, none⟩ = some (.int .i64 x) := by rw [World.cell?_alloc_mark]; rfl
          have hn1 : (wr.alloc (.cells #[.int .i64 x, .int .i64 xn, .int .i64 xr] 38)).cell? ⟨wr.heap.size, 1, none⟩ = some (.int .i64 xn) := by rw [World.cell?_alloc_mark]; rfl
          have hn2 : (wr.alloc (.cells #[.int .i64 x, .int .i64 xn, .int .i64 xr] 38)).cell? ⟨wr.heap.size, 2, none⟩ = some (.int .i64 xr) := by rw [World.cell?_alloc_mark]; rfl
          have hbdW := Lib.hid (hbd.out.alloc (.cells #[.int .i64 x, .int .i64 xn, .int .i64 xr] 38))
          have hbW := Lib.hid (hbr.alloc hbr.size (.cells #[.int .i64 x, .int .i64 xn, .int .i64 xr] 38)).drew
          obtain ⟨W, hW⟩ : ∃ W, W = wr.alloc (.cells #[.int .i64 x, .int .i64 xn, .int .i64 xr] 38) := ⟨_, rfl⟩
          rw [← hW] at hn0 hn1 hn2 hbdW hbW
          have HW := Lib.hid hW
          clear hW
          have hbdD : Hid (Lib.IsBuilderF 111 5 w1.heap.size w1.heap.size (Lib.byteCells (NS.take k)) W.drew) := hbdW.out
          have hrs := Lib.hid (reset_any x xn xr y W.drew hrr)
          have hwb : Hid (∀ W1, Lib.IsBuilderF 111 5 w1.heap.size w1.heap.size (Lib.byteCells (NS.take k)) W1 → _) := fun W1 h1 => Any.Builder_WriteByte_k Tryz.lays167 Tryz.Builder_Extra_167 w1.heap.size w1.heap.size (Lib.byteCells (NS.take k)) ((rst x xr y).toNat : Int) W1 h1 (by rw [Lib.byteCells_length, List.length_take]; omega) (h1.elim (fun h => Nat.le_of_lt h.lt) (fun h => Nat.le_of_lt h.lt))
          have hbt := Lib.hid (byteCells_take NS k (by omega))
          go_wp2_with fail
          rw [← HW.out]
          go_still_tail 4, (by kernel_rfl)
          change wpList _ _ _ _ _ W.drew
          go_wp2_with fail
          refine hrs.out.mono ?_
          rintro e w4 ⟨rfl, hb4⟩
          have hbd4 := builder_mono hbdD.out hb4
          go_wp2_with (go_at_call 71; refine (hwb.out _ (by exact hbd4)).mono ?_; rintro e w5 ⟨rfl, hB5, hb5, _⟩)
          have hB6 : Hid (Lib.IsBuilderF 111 5 w1.heap.size w1.heap.size (Lib.byteCells (NS.take (k + 1))) w5) := by
            rw [hbt.out, hnx.out]
            exact .inr hB5
          have hb6 := (Below.of hbW.out hb4).trans hb5
          clear hB5 hbd4
          go_roundg (c.latches.length - (k + 1))
          case measure => exact hmea _ hg
          case rel => exact ⟨k + 1, by omega, by omega, by go_num, hB6, hb6⟩
        · have hltz : ¬ (k : Int) < (c.latches.length : Int) := by omega
          obtain rfl : k = c.latches.length := by omega
          have hBs : w1.heap.size ≤ wr.heap.size := hbr.size
          have hsr := hbd.out
          rw [← hNl, List.take_length] at hsr
          have hstr := Lib.hid (Tryz.Builder_String_any_k w1.heap.size w1.heap.size NS wr hsr hBs)
          clear hsr
          go_wp2_with (go_at_call 72; refine hstr.out.mono ?_; rintro e w5 ⟨rfl, _, hb5, _⟩)
          go_ret2
          exact ⟨rfl, Below.of hb01.out (hbr.trans hb5)⟩

end Go.Proofs.YtpkaoabpifeigaaGreatDoor
