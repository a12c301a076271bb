/- Contracts: sim.True, sim.Next. -/
import Derived.Test.YtpkaoabpifeigaaGreatDoorWalkM3
namespace Go.Proofs.YtpkaoabpifeigaaGreatDoor
open Go.RowKit Go.Shelf
attribute [local simp] mk_get

theorem Octs_conv (w : World) (l : List UInt8) (c : Nat) (e : TypeId) (fr : Nat × Nat) {c' : Nat} (h : l.length ≤ 9223372036854775807) :
    Octs (w.alloc (.cells (bytesRow ⟨l.toArray⟩ c) e fr)) (.slice (some ⟨w.heap.size, 0, none⟩) l.length c') l := by
  refine ⟨_, _, rfl, h, fun j hj => ⟨w.heap.size, 0, rfl, by simp, ?_⟩⟩
  rw [Nat.zero_add, World.cell?_alloc_mark, bytesRow_at _ _ _ (by simpa using hj)]
  simp

theorem Octs.drew {w : World} {v : Value} {l : List UInt8} (h : Octs w v l) : Octs w.drew v l := h

theorem builder_mono {T e : TypeId} {B b : Nat} {bs : List Value} {w w' : World} (h : Lib.IsBuilderF T e B b bs w) (hb : Below w.heap.size w w') : Lib.IsBuilderF T e B b bs w' := by
  have hg : w.grownBy w' none := ⟨hb.os, hb.tape, hb.output, hb.size, fun k hk _ => hb.block k hk⟩
  have hm : ∀ p, Lib.BuilderAtF T e B b p bs w → Lib.BuilderAtF T e B b p bs w' := fun p h => by
    have hl := h.lt
    obtain ⟨h1, v, h2, h3, h4⟩ := h
    exact ⟨h1, v, by rw [hb.block b hl]; exact h2, h3.kept hg (by cases v.ownBlock <;> simp), h4⟩
  exact h.elim (fun x => .inl (hm _ x)) (fun x => .inr (hm _ x))

theorem builder_new (w : World) (T e : TypeId) : Lib.IsBuilderF T e w.heap.size w.heap.size [] (w.alloc (.cells #[.pointer none, .slice none 0 0] T)) :=
  .inl ⟨Nat.le_refl _, .slice none 0 0, heap_alloc_new w _, World.ownsRowF_nil _ _ _ _, by simp [Value.ownBlock]⟩

theorem bitB_49 (b : Bool) : (((PC.bitB b).toNat : Int) == 49) = b := by cases b <;> rfl

set_option maxHeartbeats 1000000 in
theorem simTrue_any (m : List UInt8) (l : Int) (w : World) (hb : ∀ b ∈ m, b = 48 ∨ b = 49) (hr : rng l) (hm : m.length ≤ 9223372036854775807) :
    Calls Tryz.prog 70 #[.string ⟨m.toArray⟩, .int .i64 l] w fun e w' => e = .returned (.bool (PC.tru m l)) ∧ Below w.heap.size w w' := by
  have kb := fun w s => run_bytes_of_string (P := Tryz.prog) w 9 142 5 s Tryz.underlying9 Tryz.underlying142 Tryz.underlying5
  have hof : ∀ v w, Octs w v m → _ := fun v w hv => bof_any m l v w hv hb hr
  cases hT : PC.tru m l with
  | true =>
    rw [hT] at hof
    go_enter Tryz.func70, Tryz.ntmps70
    go_wp2_with (go_at_call 99; refine (hof _ _ (by exact (Octs_conv _ _ _ _ _ hm).drew)).mono ?_; rintro e w' ⟨rfl, rfl⟩)
    go_ret
    exact ⟨rfl, (((Below.refl _ _).alloc (Nat.le_refl _) _).drew)⟩
  | false =>
    rw [hT] at hof
    go_enter Tryz.func70, Tryz.ntmps70
    go_wp2_with (go_at_call 99; refine (hof _ _ (by exact (Octs_conv _ _ _ _ _ hm).drew)).mono ?_; rintro e w' ⟨rfl, rfl⟩)
    go_ret
    exact ⟨rfl, (((Below.refl _ _).alloc (Nat.le_refl _) _).drew)⟩

/-- the bits that a call has converted, at whatever capacity -/
def Conv (w : World) (b : Nat) (l : List UInt8) : Prop := ∀ cap, Octs w (.slice (some ⟨b, 0, none⟩) l.length cap) l

theorem Conv.below {w w' : World} {B b : Nat} {l : List UInt8} (h : Conv w b l) (hb : Below B w w') (h0 : b < B) : Conv w' b l := fun cap => by
  obtain ⟨ao, cap', e, h1, h2⟩ := h cap
  cases e
  refine ⟨_, _, rfl, h1, fun j hj => ?_⟩
  obtain ⟨b', off, e, h3, h4⟩ := h2 j hj
  cases e
  exact ⟨_, _, rfl, Nat.lt_of_lt_of_le h3 hb.size, (hb.cell h0).trans h4⟩

theorem Conv.of (w : World) (l : List UInt8) (c : Nat) (e : TypeId) (fr : Nat × Nat) (o : Obj) (h : l.length ≤ 9223372036854775807) : Conv (((w.alloc (.cells (bytesRow ⟨l.toArray⟩ c) e fr)).alloc o).drew) w.heap.size l := fun _ =>
  ((Octs_conv w l c e fr h).mono ((Below.refl _ _).alloc (Nat.le_refl _) o)).drew

theorem byteCells_take (l : List UInt8) (k : Nat) (h : k < l.length) : Lib.byteCells (l.take (k + 1)) = Lib.byteCells (l.take k) ++ [.int .u8 (l[k].toNat : Int)] := by
  rw [List.take_succ_eq_append_getElem h, Lib.byteCells, List.map_append]; rfl

/-- the state behind, as sim tells it -/
def nextS (c : PC.Circ) (st inp : List UInt8) : List UInt8 := if PC.valuesE c st inp = 0 then PC.nexts c (PC.vals c st inp) else []

set_option maxRecDepth 100000 in
set_option maxHeartbeats 4000000 in
theorem simNext_any (c : PC.Circ) (vc : Value) (st inp : List UInt8) (w : World) (h : IsCirc w vc c) (hs : st.length ≤ 9223372036854775807) (hi : inp.length ≤ 9223372036854775807) :
    Calls Tryz.prog 69 #[vc, .string ⟨st.toArray⟩, .string ⟨inp.toArray⟩] w fun e w' => e = .returned (.tuple #[.string ⟨(nextS c st inp).toArray⟩, .int .i64 (PC.valuesE c st inp)]) ∧ Below w.heap.size w w' := by
  have hVal := Lib.hid fun w1 (hb : Below w.heap.size w w1) => simValues_any c vc st inp w1 (h.mono hb) hs hi
  obtain ⟨vi, vl, vo, vb, vv, va, vn, rfl, hp, hm⟩ := h
  obtain ⟨al, capl, rfl, hl1, hl2, hl3⟩ := hp.latches.open_
  clear hp
  have HL := Lib.hid hl3
  clear hl3
  have hb0 : Below w.heap.size w (w.alloc (.cells #[.int .i64 c.max, vi, .slice al c.latches.length capl, vo, vb, vv, va, vn] 27)) := (Below.refl _ _).alloc (Nat.le_refl _) _
  have hbx0 := Lib.hid (Box8.new w (.int .i64 c.max) vi (.slice al c.latches.length capl) vo vb vv va vn 27)
  obtain ⟨VE, hVE⟩ : ∃ x, x = PC.valuesE c st inp := ⟨_, rfl⟩
  obtain ⟨VS, hVS⟩ : ∃ x, x = PC.valuesS c st inp := ⟨_, rfl⟩
  obtain ⟨NS, hNS⟩ : ∃ x, x = nextS c st inp := ⟨_, rfl⟩
  rw [← hVE, ← hVS] at hVal
  rw [← hVE, ← hNS]
  have HVE := Lib.hid hVE
  have HVS := Lib.hid hVS
  have HNS := Lib.hid hNS
  clear hVE hVS hNS
  go_enter Tryz.func69, Tryz.ntmps69
  go_wp2_with fail
  refine (hVal.out _ (by exact hb0)).mono ?_
  rintro e w1 ⟨rfl, hb1⟩
  have hb01 := Lib.hid (Below.of hb0 hb1)
  have hbx1 := Lib.hid (hbx0.out.mono hb1)
  clear hb0 hb1 hbx0 hVal
  by_cases hz : VE = 0
  · have hc := PC.chk_of_valuesE c st inp (HVE.out.symm.trans hz)
    have hR := Lib.hid (PC.right_of c hc.1)
    have hVS0 : Hid (VS = PC.vals c st inp) := by show _ = _; rw [HVS.out, PC.valuesS, ← HVE.out, hz]; rfl
    have hVb : Hid (∀ b ∈ VS, b = 48 ∨ b = 49) := by
      rw [hVS0.out]
      exact PC.vals_bits c st inp (PC.bitsOk_mem hc.2.1).1 (PC.bitsOk_mem hc.2.2).1
    have hNS0 : Hid (NS = c.latches.map fun x => PC.bitB (PC.tru VS x.next)) := by
      show _ = _
      rw [HNS.out, nextS, ← HVE.out, if_pos hz, hVS0.out]; rfl
    have hVl : VS.length ≤ 9223372036854775807 := by rw [hVS0.out, PC.vals_length]; have := hR.out.max1; omega
    have hNl : NS.length = c.latches.length := by rw [hNS0.out, List.length_map]
    have hll := hR.out.lats
    clear hc
    subst hz
    obtain ⟨q0, q1, q2, q3, q4, q5, q6, q7⟩ := hbx1.out
    have hbs1 : w.heap.size < w1.heap.size := World.block_lt_of_cell? w1 _ q0
    have r2 := past2 q2
    have kb := fun w s => run_bytes_of_string (P := Tryz.prog) w 9 142 5 s Tryz.underlying9 Tryz.underlying142 Tryz.underlying5
    go_wp2_with fail
    go_loopg [13, 29] c.latches.length (fun gg s13 s29 wr => ∃ k : Nat, k ≤ c.latches.length ∧ c.latches.length - k ≤ gg ∧ s29 = .int .i64 k ∧ Hid (Conv wr w1.heap.size VS) ∧ Hid (Lib.IsBuilderF 111 5 (w1.heap.size + 1) (w1.heap.size + 1) (Lib.byteCells (NS.take k)) wr) ∧ Below w1.heap.size w1 wr)
    case atStart =>
      refine ⟨0, Nat.zero_le _, by omega, rfl, ?_, ?_, ?_⟩
      · exact Conv.of _ _ _ _ _ _ hVl
      · have h := fun o c e fr => builder_new (w1.alloc (.cells (bytesRow o c) e fr)) 111 5
        simp only [World.size_alloc] at h
        exact h _ _ _ _
      · exact (((Below.refl _ _).alloc (Nat.le_refl _) _).alloc (by simp) _).drew
    case round =>
      clear q0 q1 q2 q3 q4 q5 q6 q7 r2 kb
      obtain ⟨k, hk, hg, rfl, hcv, hbd, hbr⟩ := hrel
      by_cases hlt : k < c.latches.length
      · have hmea : ∀ g : Nat, c.latches.length - k ≤ g → c.latches.length - (k + 1) < g := fun g h => by omega
        obtain ⟨b, off, rfl, hbs', ⟨_, hnr, _⟩, c0, c1, c2⟩ := HL.out k hlt
        have hbwr := Below.of hb01.out hbr
        have c0 := (hbwr.cell hbs').trans c0
        have c1 := (hbwr.cell hbs').trans c1
        have c2 := (hbwr.cell hbs').trans c2
        have hnx : Hid (NS[k]'(by omega) = PC.bitB (PC.tru VS c.latches[k].next)) := by
          show _ = _
          simp only [hNS0.out, List.getElem_map]
        generalize hx : c.latches[k] = x at *
        clear hx
        obtain ⟨x, xn, xr⟩ := x
        simp only at hnr c0 c1 c2 hnx
        have hltz : (k : Int) < (c.latches.length : Int) := by omega
        have hn1 : (wr.alloc (.cells #[.int .i64 x, .int .i64 xn, .int .i64 xr] 38)).cell? ⟨wr.heap.size, 1, none⟩ = some (.int .i64 xn) := by rw [World.cell?_alloc_mark]; rfl
        have hcW : Hid (Conv (wr.alloc (.cells #[.int .i64 x, .int .i64 xn, .int .i64 xr] 38)) w1.heap.size VS) := fun cap => (hcv.out cap).mono ((Below.refl _ _).alloc (Nat.le_refl _) _)
        have hbdW := Lib.hid (hbd.out.alloc (.cells #[.int .i64 x, .int .i64 xn, .int .i64 xr] 38))
        have hbW := Lib.hid (hbr.alloc hbr.size (.cells #[.int .i64 x, .int .i64 xn, .int .i64 xr] 38))
        obtain ⟨W, hW⟩ : ∃ W, W = wr.alloc (.cells #[.int .i64 x, .int .i64 xn, .int .i64 xr] 38) := ⟨_, rfl⟩
        rw [← hW] at hn1 hcW hbdW hbW
        have HW := Lib.hid hW
        clear hW
        have hof : Hid (∀ cap, _) := fun cap => bof_any VS xn _ W (hcW.out cap) hVb.out hnr
        have hBs : w1.heap.size + 1 ≤ W.heap.size := hbdW.out.elim (fun h => Nat.le_of_lt h.lt) (fun h => Nat.le_of_lt h.lt)
        have hwb := Lib.hid (Any.Builder_WriteByte_k Tryz.lays167 Tryz.Builder_Extra_167 (w1.heap.size + 1) (w1.heap.size + 1) (Lib.byteCells (NS.take k)) ((PC.bitB (PC.tru VS xn)).toNat : Int) W hbdW.out (by rw [Lib.byteCells_length, List.length_take]; omega) hBs)
        have hbt := Lib.hid (byteCells_take NS k (by omega))
        go_wp2_with fail
        rw [← HW.out]
        go_wp2_with (first | (go_at_call 99; refine (hof.out _).mono ?_; rintro e w4 ⟨rfl, rfl⟩) | (go_at_call 71; refine hwb.out.mono ?_; rintro e w5 ⟨rfl, hB5, hb5, _⟩))
        have hB6 : Hid (Lib.IsBuilderF 111 5 (w1.heap.size + 1) (w1.heap.size + 1) (Lib.byteCells (NS.take (k + 1))) w5) := by
          rw [hbt.out, hnx.out]
          exact .inr hB5
        have hc6 : Hid (Conv w5 w1.heap.size VS) := hcW.out.below hb5 (by omega)
        have hb6 := hbW.out.trans (hb5.mono (Nat.le_succ _))
        clear hB5
        go_roundg (c.latches.length - (k + 1))
        case measure => exact hmea _ hg
        case rel => exact ⟨k + 1, by omega, by omega, by go_num, hc6, hB6, hb6⟩
      · have hltz : ¬ (k : Int) < (c.latches.length : Int) := by omega
        obtain rfl : k = c.latches.length := by omega
        have hBs : w1.heap.size + 1 ≤ wr.heap.size := hbd.out.elim (fun h => Nat.le_of_lt h.lt) (fun h => Nat.le_of_lt h.lt)
        have hsr := hbd.out
        rw [← hNl, List.take_length] at hsr
        have hstr := Lib.hid (Tryz.Builder_String_any_k (w1.heap.size + 1) (w1.heap.size + 1) NS wr hsr hBs)
        clear hsr
        go_wp2_with (go_at_call 72; refine hstr.out.mono ?_; rintro e w5 ⟨rfl, _, hb5, _⟩)
        go_ret2
        exact ⟨rfl, Below.of hb01.out (hbr.trans (hb5.mono (Nat.le_succ _)))⟩
  · have hz1 : (VE == 0) = false := by simpa using hz
    have hz2 : (VE != 0) = true := by simpa using hz
    have e2 : NS = [] := by rw [HNS.out, nextS, ← HVE.out, if_neg hz]
    subst e2
    go_wp2_with fail
    go_ret2
    exact ⟨rfl, hb01.out⟩

end Go.Proofs.YtpkaoabpifeigaaGreatDoor
