/- Contract: a circuit put in order. -/
import Derived.Test.YtjcaejdokillgaaWalkO3
import Derived.Test.YtjcaejdokillgaaLibW
import Derived.Test.YtjcaejdokillgaaWalkA4
namespace Go.Proofs.Ytjcaejdokillgaa
open Go.RowKit Go.Shelf
attribute [local simp] mk_get

def noC0 : PC.Circ := ⟨0, [], [], [], [], [], [], []⟩
theorem noC0_is (w : World) : IsCirc w (.agg #[.int .i64 0, .slice none 0 0, .slice none 0 0, .slice none 0 0, .slice none 0 0, .slice none 0 0, .slice none 0 0, .slice none 0 0]) noC0 := by
  have hI : Ints w (.slice none 0 0) [] := ⟨Cells.nil _ _, fun x hx => by cases hx⟩
  exact ⟨_, _, _, _, _, _, _, rfl, ⟨hI, ⟨Cells.nil _ _, fun x hx => by cases hx⟩, hI, hI, hI, ⟨Cells.nil _ _, fun x hx => by cases hx⟩, ⟨Cells.nil _ _, fun x hx => by cases hx⟩⟩, by unfold rng; decide⟩
def CircE (w : World) (E : Int) (D : PC.Circ) (e : Ending) (w' : World) : Prop := ∃ u, e = .returned (.tuple #[u, .int .i64 E]) ∧ IsCirc w' u D ∧ Below w.heap.size w w'
theorem OwnI.slice {w : World} {B : Nat} {v : Value} {l : List Int} (h : OwnI w B v l) : ∃ ao cap, v = .slice ao l.length cap := by
  obtain ⟨_, ⟨rfl, h0⟩ | ⟨g, cap, cur, rfl, _⟩⟩ := h.1
  · exact ⟨none, 0, by rw [h0]⟩
  · exact ⟨_, _, rfl⟩
theorem OwnI.kept {T : TypeId} {w w' : World} {B q : Nat} {v : Value} {l : List Int} {cs : List Value} (h : OwnI w B v l) (hg : w.grownBy w' (some q)) (hq : RowL T w q cs) (hne : 3 ≠ T) : OwnI w' B v l :=
  ⟨h.1.kept hg (Or.inr fun e => hq.other h.1 hne e.symm), h.2⟩
theorem owned_slice {w : World} {B : Nat} {e : TypeId} {k : Nat} {v : Value} {n : Nat} {xs : List Value} (h : w.ownsRow B e k v n xs) : ∃ ao cap, v = .slice ao n cap := by
  obtain ⟨_, ⟨rfl, h0⟩ | ⟨g, cap, cur, rfl, _⟩⟩ := h
  · exact ⟨none, 0, by rw [h0]⟩
  · exact ⟨_, _, rfl⟩
theorem owns_other {T : TypeId} {w w' : World} {B q k : Nat} {e : TypeId} {v : Value} {m : Nat} {xs cs : List Value} (h : w.ownsRow B e k v m xs) (hg : w.grownBy w' (some q)) (hq : RowL T w q cs) (hne : e ≠ T) : w'.ownsRow B e k v m xs :=
  h.kept hg (Or.inr fun x => hq.other h hne x.symm)
theorem cells_of_row3 {y : World} {g : Nat} {a b d : Value} {T : TypeId} (h : y.heap[g]? = some (.cells #[a, b, d] T (0, 0))) : Cells y 3 (.slice (some ⟨g, 0, none⟩) 1 1) 1 [a, b, d] := by
  refine ⟨_, _, rfl, Nat.le_refl _, by omega, (fun h => by cases h), rfl, fun j hj => ⟨g, 0, rfl, (Array.getElem?_eq_some_iff.1 h).1, ?_⟩⟩
  rw [Nat.zero_add, cell_of_row y g j _ _ _ h]
  have : j < 3 := hj
  simp [this]
theorem grownBy_drew' {w w' : World} {r : Option Nat} (h : w.grownBy w' r) : w.grownBy w'.drew r := ⟨h.os, h.tape, h.output, h.size, h.block⟩

def orLat (c : PC.Circ) (x : PC.Lat) : PC.Lat := ⟨PA.ol c x.lit, PA.ol c x.next, PA.ol c x.reset⟩
def orGat (c : PC.Circ) (a : PC.Gat) : PC.Gat := ⟨PA.ol c a.lit, max (PA.ol c a.left) (PA.ol c a.right), min (PA.ol c a.left) (PA.ol c a.right)⟩

set_option maxRecDepth 100000 in
set_option maxHeartbeats 8000000 in
theorem aOrder_any (c : PC.Circ) (vc : Value) (w : World) (h : IsCirc w vc c) :
    Calls Try.prog 12 #[vc] w (CircE w (if PC.chk c then 0 else 9) (if PC.chk c then PA.orderC c else noC0)) := by
  have hIC := Lib.hid h
  obtain ⟨E, hE⟩ : ∃ E : Int, E = if PC.chk c then 0 else 9 := ⟨_, rfl⟩
  obtain ⟨D, hD⟩ : ∃ D : PC.Circ, D = if PC.chk c then PA.orderC c else noC0 := ⟨_, rfl⟩
  rw [← hE, ← hD]
  have eE := Lib.hid hE
  have eD := Lib.hid hD
  clear hE hD
  obtain ⟨ai, capi, al, capl, ao_, capo, ab, capb, av, capv, aa, capa, an, capn, rfl, hp⟩ := row_slices h
  have HP := Lib.hid hp
  clear hp h
  have hb0 := Lib.hid (((Below.refl w.heap.size w).alloc (Nat.le_refl _) (.cells #[.int .i64 c.max, .slice ai c.inputs.length capi, .slice al c.latches.length capl, .slice ao_ c.outputs.length capo, .slice ab c.bads.length capb, .slice av c.invars.length capv, .slice aa c.ands.length capa, .slice an c.names.length capn] 27)).alloc (by simp) (.cells #[.int .i64 0, .slice none 0 0, .slice none 0 0, .slice none 0 0, .slice none 0 0, .slice none 0 0, .slice none 0 0, .slice none 0 0] 27))
  have hbx := ((RowL.new (T := 27) w [.int .i64 c.max, .slice ai c.inputs.length capi, .slice al c.latches.length capl, .slice ao_ c.outputs.length capo, .slice ab c.bads.length capb, .slice av c.invars.length capv, .slice aa c.ands.length capa, .slice an c.names.length capn]).mono ((Below.refl _ _).alloc (Nat.le_refl _) (.cells #[.int .i64 0, .slice none 0 0, .slice none 0 0, .slice none 0 0, .slice none 0 0, .slice none 0 0, .slice none 0 0, .slice none 0 0] 27)))
  have hrz := RowL.new (T := 27) (w.alloc (.cells #[.int .i64 c.max, .slice ai c.inputs.length capi, .slice al c.latches.length capl, .slice ao_ c.outputs.length capo, .slice ab c.bads.length capb, .slice av c.invars.length capv, .slice aa c.ands.length capa, .slice an c.names.length capn] 27)) [.int .i64 0, .slice none 0 0, .slice none 0 0, .slice none 0 0, .slice none 0 0, .slice none 0 0, .slice none 0 0, .slice none 0 0]
  rw [World.size_alloc] at hrz
  have HBX := Lib.hid hbx
  have HRZ := Lib.hid hrz
  clear hbx hrz
  obtain ⟨W0, hW0⟩ : ∃ W0, W0 = (w.alloc (.cells #[.int .i64 c.max, .slice ai c.inputs.length capi, .slice al c.latches.length capl, .slice ao_ c.outputs.length capo, .slice ab c.bads.length capb, .slice av c.invars.length capv, .slice aa c.ands.length capa, .slice an c.names.length capn] 27)).alloc (.cells #[.int .i64 0, .slice none 0 0, .slice none 0 0, .slice none 0 0, .slice none 0 0, .slice none 0 0, .slice none 0 0, .slice none 0 0] 27) := ⟨_, rfl⟩
  rw [← hW0] at hb0 HBX HRZ
  have hCk := Lib.hid (cCheck_any c _ _ (hIC.out.mono hb0.out))
  have hpc := Lib.hid (PC.pchk_eq c)
  have x0 := HBX.out.cell 0 _ rfl
  have x1 := HBX.out.cell 1 _ rfl
  have x2 := HBX.out.cell 2 _ rfl
  have x3 := HBX.out.cell 3 _ rfl
  have x4 := HBX.out.cell 4 _ rfl
  have x5 := HBX.out.cell 5 _ rfl
  have x6 := HBX.out.cell 6 _ rfl
  have x7 := HBX.out.cell 7 _ rfl
  rw [hW0] at x0 x1 x2 x3 x4 x5 x6 x7
  have HW0 := Lib.hid hW0
  clear hW0
  go_enter Try.func12, Try.ntmps12
  go_wp2_with fail
  rw [← HW0.out]
  refine hCk.out.mono ?_
  rintro e w1 ⟨rfl, hb1⟩
  clear x0 x1 x2 x3 x4 x5 x6 x7
  have hB1 := Lib.hid (Below.of hb0.out hb1)
  have HBX1 := Lib.hid (HBX.out.mono hb1)
  have HRZ1 := Lib.hid (HRZ.out.mono hb1)
  rw [hpc.out]
  clear hCk hb1 HBX HRZ hb0 hpc HW0
  cases hck : PC.chk c with
  | false =>
    have eE : Hid (E = 9) := by show _ = _; rw [eE.out, hck]; rfl
    have eD : Hid (D = noC0) := by show _ = _; rw [eD.out, hck]; rfl
    clear hck
    simp only [Bool.false_eq_true, if_false]
    obtain ⟨⟨k0, k1, k2, k3, k4, k5, k6, k7, k8, k9, k10, k11, k12, k13, k14, k15⟩, hR, hG⟩ := (HRZ1.out).put8 (.int .i64 0) (.slice none 0 0) (.slice none 0 0) (.slice none 0 0) (.slice none 0 0) (.slice none 0 0) (.slice none 0 0) (.slice none 0 0)
    have HG := Lib.hid hG
    have q0 := hR.cell 0 _ rfl
    have q1 := hR.cell 1 _ rfl
    have q2 := hR.cell 2 _ rfl
    have q3 := hR.cell 3 _ rfl
    have q4 := hR.cell 4 _ rfl
    have q5 := hR.cell 5 _ rfl
    have q6 := hR.cell 6 _ rfl
    have q7 := hR.cell 7 _ rfl
    unfold set8 at q0 q1 q2 q3 q4 q5 q6 q7
    clear hR hG
    go_wp2_with fail
    refine bodyPost_ret (v := .tuple #[.agg #[.int .i64 0, .slice none 0 0, .slice none 0 0, .slice none 0 0, .slice none 0 0, .slice none 0 0, .slice none 0 0, .slice none 0 0], .int .i64 9]) (by simp [results, Try.results12, go_sem, q0, q1, q2, q3, q4, q5, q6, q7]) rfl ?_
    exact ⟨_, by rw [eE.out], by rw [eD.out]; exact noC0_is _, hB1.out.grown HG.out hB1.out.size fun k e => by cases e; exact Nat.le_succ _⟩
  | true =>
    have HRT := Lib.hid (PC.right_of c hck)
    have hnn := Lib.hid (PA.names_ok hck)
    have eE : Hid (E = 0) := by show _ = _; rw [eE.out, hck]; rfl
    have eD : Hid (D = PA.orderC c) := by show _ = _; rw [eD.out, hck]; rfl
    simp only [if_true]
    clear hck
    have hNb := Lib.hid (aNumbered_any c _ w1 (hIC.out.mono hB1.out) HRT.out)
    have x0 := HBX1.out.cell 0 _ rfl
    have x1 := HBX1.out.cell 1 _ rfl
    have x2 := HBX1.out.cell 2 _ rfl
    have x3 := HBX1.out.cell 3 _ rfl
    have x4 := HBX1.out.cell 4 _ rfl
    have x5 := HBX1.out.cell 5 _ rfl
    have x6 := HBX1.out.cell 6 _ rfl
    have x7 := HBX1.out.cell 7 _ rfl
    go_wp2_with fail
    refine hNb.out.mono ?_
    rintro e W1 ⟨vo, rfl, hO, hb2⟩
    clear x0 x1 x2 x3 x4 x5 x6 x7
    have hO := Lib.hid hO
    have HB := Lib.hid (Below.of hB1.out hb2)
    have HBX2 := Lib.hid (HBX1.out.mono hb2)
    have HRZ2 := Lib.hid (HRZ1.out.mono hb2)
    have hdf := Lib.hid (defs_few c HRT.out)
    clear hb2 hB1 HBX1 HRZ1 hNb
    have Hpc : Hid (∀ y, Below W1.heap.size W1 y → y.cell? ⟨w.heap.size, 1, none⟩ = some (.slice ai c.inputs.length capi) ∧ y.cell? ⟨w.heap.size, 3, none⟩ = some (.slice ao_ c.outputs.length capo) ∧ y.cell? ⟨w.heap.size, 4, none⟩ = some (.slice ab c.bads.length capb) ∧ y.cell? ⟨w.heap.size, 5, none⟩ = some (.slice av c.invars.length capv) ∧ y.cell? ⟨w.heap.size, 7, none⟩ = some (.slice an c.names.length capn)) := fun y hy =>
      ⟨(HBX2.out.mono hy).cell 1 _ rfl, (HBX2.out.mono hy).cell 3 _ rfl, (HBX2.out.mono hy).cell 4 _ rfl, (HBX2.out.mono hy).cell 5 _ rfl, (HBX2.out.mono hy).cell 7 _ rfl⟩
    have hall : Hid (∀ l : List Int, (∀ x ∈ l, PC.known c x = true) → ∀ x ∈ l, 0 ≤ x ∧ x ≤ 2 * c.max + 1) := fun l h x hx => PC.known_range c HRT.out x (h x hx)
    have HAI : Hid (∀ y, Below W1.heap.size W1 y → _) := fun y hy => aAll_any c HRT.out c.inputs vo (.slice ai c.inputs.length capi) y (hO.out.mono hy) (HP.out.inputs.mono (Below.of HB.out hy)) (fun x hx => by have := HRT.out.defs x (PC.mem_defs_in c x hx); omega) HRT.out.ins
    have HAO : Hid (∀ y, Below W1.heap.size W1 y → _) := fun y hy => aAll_any c HRT.out c.outputs vo (.slice ao_ c.outputs.length capo) y (hO.out.mono hy) (HP.out.outputs.mono (Below.of HB.out hy)) (hall.out _ HRT.out.outK) HRT.out.outs
    have HAB : Hid (∀ y, Below W1.heap.size W1 y → _) := fun y hy => aAll_any c HRT.out c.bads vo (.slice ab c.bads.length capb) y (hO.out.mono hy) (HP.out.bads.mono (Below.of HB.out hy)) (hall.out _ HRT.out.badK) HRT.out.bads
    have HAV : Hid (∀ y, Below W1.heap.size W1 y → _) := fun y hy => aAll_any c HRT.out c.invars vo (.slice av c.invars.length capv) y (hO.out.mono hy) (HP.out.invars.mono (Below.of HB.out hy)) (hall.out _ HRT.out.invK) HRT.out.invs
    have HCN : Hid (∀ y, Below W1.heap.size W1 y → _) := fun y hy => CloneN_any c.names (.slice an c.names.length capn) y (HP.out.names.mono (Below.of HB.out hy)) (by have := hnn.out.1; omega)
    obtain ⟨DL, hDL⟩ : ∃ DL : Int, DL = (c.defs.length : Int) := ⟨_, rfl⟩
    rw [← hDL]
    have HDL := Lib.hid hDL
    clear hDL
    go_wp2_with fail
    refine wp_region_makes 22 [isV (.int .i64 DL), isV vo, isV (.pointer (some ⟨w.heap.size, 1, none⟩)), isV (.slice ai c.inputs.length capi), (fun v y => OwnI y W1.heap.size v (c.inputs.map (PA.ol c))), isV vo, isV (.pointer (some ⟨w.heap.size, 3, none⟩)), isV (.slice ao_ c.outputs.length capo), (fun v y => OwnI y W1.heap.size v (c.outputs.map (PA.ol c))), isV vo, isV (.pointer (some ⟨w.heap.size, 4, none⟩)), isV (.slice ab c.bads.length capb), (fun v y => OwnI y W1.heap.size v (c.bads.map (PA.ol c))), isV vo, isV (.pointer (some ⟨w.heap.size, 5, none⟩)), isV (.slice av c.invars.length capv), (fun v y => OwnI y W1.heap.size v (c.invars.map (PA.ol c))), isV (.pointer (some ⟨w.heap.size, 7, none⟩)), isV (.slice an c.names.length capn), (fun v y => OwnN y W1.heap.size v c.names),
      (fun v y => ∃ u1 u3 u4 u5 u7, v = .agg #[.int .i64 DL, u1, .slice none 0 0, u3, u4, u5, .slice none 0 0, u7] ∧ OwnI y W1.heap.size u1 (c.inputs.map (PA.ol c)) ∧ OwnI y W1.heap.size u3 (c.outputs.map (PA.ol c)) ∧ OwnI y W1.heap.size u4 (c.bads.map (PA.ol c)) ∧ OwnI y W1.heap.size u5 (c.invars.map (PA.ol c)) ∧ OwnN y W1.heap.size u7 c.names),
      (fun v y => ∃ q, v = .pointer (some ⟨q, 0, none⟩) ∧ W1.heap.size ≤ q ∧ RowL 27 y q [.int .i64 0, .slice none 0 0, .slice none 0 0, .slice none 0 0, .slice none 0 0, .slice none 0 0, .slice none 0 0, .slice none 0 0])]
      [some 25, some 26, some 27, some 28, some 29, some 30, some 31, some 32, some 33, some 34, some 35, some 36, some 37, some 38, some 39, some 40, some 41, some 42, some 43, some 44, some 45, some 7] (by kernel_rfl) (by kernel_rfl) rfl (by
        intro g hg
        simp only [List.mem_cons, List.mem_nil_iff, or_false] at hg
        rcases hg with rfl | rfl | rfl | rfl | rfl | rfl | rfl | rfl | rfl | rfl | rfl | rfl | rfl | rfl | rfl | rfl | rfl | rfl | rfl | rfl | rfl | rfl <;> first
          | exact isV_keeps _ | exact fun _ _ _ hb h => OwnI.mono h hb | exact fun _ _ _ hb h => owns_below' h hb | exact fun _ _ _ hb ⟨u1, u3, u4, u5, u7, e, h1, h2, h3, h4, h5⟩ => ⟨u1, u3, u4, u5, u7, e, h1.mono hb, h2.mono hb, h3.mono hb, h4.mono hb, owns_below' h5 hb⟩ | exact fun _ _ _ hb ⟨q, e, h1, h2⟩ => ⟨q, e, h1, h2.mono hb⟩) ?_ ?_
    · refine ⟨fun vs y hy hd => ?_, fun vs y hy hd => ?_, fun vs y hy hd => ?_, fun vs y hy hd => ?_, fun vs y hy hd => ?_, fun vs y hy hd => ?_, fun vs y hy hd => ?_, fun vs y hy hd => ?_, fun vs y hy hd => ?_, fun vs y hy hd => ?_, fun vs y hy hd => ?_, fun vs y hy hd => ?_, fun vs y hy hd => ?_, fun vs y hy hd => ?_, fun vs y hy hd => ?_, fun vs y hy hd => ?_, fun vs y hy hd => ?_, fun vs y hy hd => ?_, fun vs y hy hd => ?_, fun vs y hy hd => ?_, fun vs y hy hd => ?_, fun vs y hy hd => ?_, trivial⟩
      · (simp only [opens]; try simp only [Nat.reduceAdd])
        go_wp2_with fail
        exact ⟨_, rfl, Below.refl _ _, rfl⟩
      · (simp only [opens]; try simp only [Nat.reduceAdd])
        go_wp2_with fail
        exact ⟨_, rfl, Below.refl _ _, rfl⟩
      · (simp only [opens]; try simp only [Nat.reduceAdd])
        go_wp2_with fail
        exact ⟨_, rfl, Below.refl _ _, rfl⟩
      · obtain ⟨c1_, c3_, c4_, c5_, c7_⟩ := Hpc.out y hy
        have g0 : vs 2 = .pointer (some ⟨w.heap.size, 1, none⟩) := hd 2 (by decide) (by kernel_rfl)
        (simp only [opens]; try simp only [Nat.reduceAdd])
        rw [g0]
        go_wp2_with fail
        exact ⟨_, rfl, Below.refl _ _, rfl⟩
      · have g0 : vs 1 = vo := hd 1 (by decide) (by kernel_rfl)
        have g1 : vs 3 = .slice ai c.inputs.length capi := hd 3 (by decide) (by kernel_rfl)
        have hX := Lib.hid (HAI.out y hy)
        (simp only [opens]; try simp only [Nat.reduceAdd])
        rw [g0, g1]
        go_wp2_with (go_at_call 25; refine hX.out.mono ?_; rintro e w4 ⟨u, rfl, hown, hb4⟩)
        exact ⟨_, rfl, hb4, hown.base hy.size⟩
      · (simp only [opens]; try simp only [Nat.reduceAdd])
        go_wp2_with fail
        exact ⟨_, rfl, Below.refl _ _, rfl⟩
      · (simp only [opens]; try simp only [Nat.reduceAdd])
        go_wp2_with fail
        exact ⟨_, rfl, Below.refl _ _, rfl⟩
      · obtain ⟨c1_, c3_, c4_, c5_, c7_⟩ := Hpc.out y hy
        have g0 : vs 6 = .pointer (some ⟨w.heap.size, 3, none⟩) := hd 6 (by decide) (by kernel_rfl)
        (simp only [opens]; try simp only [Nat.reduceAdd])
        rw [g0]
        go_wp2_with fail
        exact ⟨_, rfl, Below.refl _ _, rfl⟩
      · have g0 : vs 5 = vo := hd 5 (by decide) (by kernel_rfl)
        have g1 : vs 7 = .slice ao_ c.outputs.length capo := hd 7 (by decide) (by kernel_rfl)
        have hX := Lib.hid (HAO.out y hy)
        (simp only [opens]; try simp only [Nat.reduceAdd])
        rw [g0, g1]
        go_wp2_with (go_at_call 25; refine hX.out.mono ?_; rintro e w4 ⟨u, rfl, hown, hb4⟩)
        exact ⟨_, rfl, hb4, hown.base hy.size⟩
      · (simp only [opens]; try simp only [Nat.reduceAdd])
        go_wp2_with fail
        exact ⟨_, rfl, Below.refl _ _, rfl⟩
      · (simp only [opens]; try simp only [Nat.reduceAdd])
        go_wp2_with fail
        exact ⟨_, rfl, Below.refl _ _, rfl⟩
      · obtain ⟨c1_, c3_, c4_, c5_, c7_⟩ := Hpc.out y hy
        have g0 : vs 10 = .pointer (some ⟨w.heap.size, 4, none⟩) := hd 10 (by decide) (by kernel_rfl)
        (simp only [opens]; try simp only [Nat.reduceAdd])
        rw [g0]
        go_wp2_with fail
        exact ⟨_, rfl, Below.refl _ _, rfl⟩
      · have g0 : vs 9 = vo := hd 9 (by decide) (by kernel_rfl)
        have g1 : vs 11 = .slice ab c.bads.length capb := hd 11 (by decide) (by kernel_rfl)
        have hX := Lib.hid (HAB.out y hy)
        (simp only [opens]; try simp only [Nat.reduceAdd])
        rw [g0, g1]
        go_wp2_with (go_at_call 25; refine hX.out.mono ?_; rintro e w4 ⟨u, rfl, hown, hb4⟩)
        exact ⟨_, rfl, hb4, hown.base hy.size⟩
      · (simp only [opens]; try simp only [Nat.reduceAdd])
        go_wp2_with fail
        exact ⟨_, rfl, Below.refl _ _, rfl⟩
      · (simp only [opens]; try simp only [Nat.reduceAdd])
        go_wp2_with fail
        exact ⟨_, rfl, Below.refl _ _, rfl⟩
      · obtain ⟨c1_, c3_, c4_, c5_, c7_⟩ := Hpc.out y hy
        have g0 : vs 14 = .pointer (some ⟨w.heap.size, 5, none⟩) := hd 14 (by decide) (by kernel_rfl)
        (simp only [opens]; try simp only [Nat.reduceAdd])
        rw [g0]
        go_wp2_with fail
        exact ⟨_, rfl, Below.refl _ _, rfl⟩
      · have g0 : vs 13 = vo := hd 13 (by decide) (by kernel_rfl)
        have g1 : vs 15 = .slice av c.invars.length capv := hd 15 (by decide) (by kernel_rfl)
        have hX := Lib.hid (HAV.out y hy)
        (simp only [opens]; try simp only [Nat.reduceAdd])
        rw [g0, g1]
        go_wp2_with (go_at_call 25; refine hX.out.mono ?_; rintro e w4 ⟨u, rfl, hown, hb4⟩)
        exact ⟨_, rfl, hb4, hown.base hy.size⟩
      · (simp only [opens]; try simp only [Nat.reduceAdd])
        go_wp2_with fail
        exact ⟨_, rfl, Below.refl _ _, rfl⟩
      · obtain ⟨c1_, c3_, c4_, c5_, c7_⟩ := Hpc.out y hy
        have g0 : vs 17 = .pointer (some ⟨w.heap.size, 7, none⟩) := hd 17 (by decide) (by kernel_rfl)
        (simp only [opens]; try simp only [Nat.reduceAdd])
        rw [g0]
        go_wp2_with fail
        exact ⟨_, rfl, Below.refl _ _, rfl⟩
      · have g1 : vs 18 = .slice an c.names.length capn := hd 18 (by decide) (by kernel_rfl)
        have hX := Lib.hid (HCN.out y hy)
        (simp only [opens]; try simp only [Nat.reduceAdd])
        rw [g1]
        go_wp2_with (go_at_call 26; refine hX.out.mono ?_; rintro e w4 ⟨u, rfl, hown, hb4⟩)
        exact ⟨_, rfl, hb4, World.ownsRow.mono hown hy.size⟩
      · have g0 : vs 0 = .int .i64 DL := hd 0 (by decide) (by kernel_rfl)
        have g1 : OwnI y W1.heap.size (vs 4) (c.inputs.map (PA.ol c)) := hd 4 (by decide) (by kernel_rfl)
        have g3 : OwnI y W1.heap.size (vs 8) (c.outputs.map (PA.ol c)) := hd 8 (by decide) (by kernel_rfl)
        have g4 : OwnI y W1.heap.size (vs 12) (c.bads.map (PA.ol c)) := hd 12 (by decide) (by kernel_rfl)
        have g5 : OwnI y W1.heap.size (vs 16) (c.invars.map (PA.ol c)) := hd 16 (by decide) (by kernel_rfl)
        have g7 : OwnN y W1.heap.size (vs 19) c.names := hd 19 (by decide) (by kernel_rfl)
        (simp only [opens]; try simp only [Nat.reduceAdd])
        rw [g0]
        generalize vs 4 = x1 at *
        generalize vs 8 = x3 at *
        generalize vs 12 = x4 at *
        generalize vs 16 = x5 at *
        generalize vs 19 = x7 at *
        have G := Lib.hid (And.intro g1 (And.intro g3 (And.intro g4 (And.intro g5 g7))))
        obtain ⟨_, _, rfl⟩ := g1.slice
        obtain ⟨_, _, rfl⟩ := g3.slice
        obtain ⟨_, _, rfl⟩ := g4.slice
        obtain ⟨_, _, rfl⟩ := g5.slice
        obtain ⟨_, _, rfl⟩ := owned_slice g7
        clear g1 g3 g4 g5 g7 hd
        go_wp2_with fail
        exact ⟨_, rfl, Below.refl _ _, _, _, _, _, _, rfl, by simpa using G.out⟩
      · simp only [opens]
        go_wp2_with fail
        exact ⟨_, rfl, (Below.refl _ _).alloc (Nat.le_refl _) _, _, rfl, hy.size, RowL.new y _⟩
    intro vs y hy hf
    obtain ⟨u1, u3, u4, u5, u7, g0, o1, o3, o4, o5, o7⟩ : ∃ u1 u3 u4 u5 u7, vs 20 = .agg #[.int .i64 DL, u1, .slice none 0 0, u3, u4, u5, .slice none 0 0, u7] ∧ OwnI y W1.heap.size u1 (c.inputs.map (PA.ol c)) ∧ OwnI y W1.heap.size u3 (c.outputs.map (PA.ol c)) ∧ OwnI y W1.heap.size u4 (c.bads.map (PA.ol c)) ∧ OwnI y W1.heap.size u5 (c.invars.map (PA.ol c)) ∧ OwnN y W1.heap.size u7 c.names := hf 20 (by decide)
    obtain ⟨q, g2, hq, hrow⟩ : ∃ q, vs 21 = .pointer (some ⟨q, 0, none⟩) ∧ W1.heap.size ≤ q ∧ RowL 27 y q [.int .i64 0, .slice none 0 0, .slice none 0 0, .slice none 0 0, .slice none 0 0, .slice none 0 0, .slice none 0 0, .slice none 0 0] := hf 21 (by decide)
    (simp only [opens]; try simp only [Nat.reduceAdd])
    rw [g0, g2]
    obtain ⟨a1, c1, e1⟩ := o1.slice
    rw [List.length_map] at e1
    subst e1
    obtain ⟨a3, c3, e3⟩ := o3.slice
    rw [List.length_map] at e3
    subst e3
    obtain ⟨a4, c4, e4⟩ := o4.slice
    rw [List.length_map] at e4
    subst e4
    obtain ⟨a5, c5, e5⟩ := o5.slice
    rw [List.length_map] at e5
    subst e5
    obtain ⟨a7, c7, rfl⟩ := owned_slice o7
    obtain ⟨⟨k0, k1, k2, k3, k4, k5, k6, k7, k8, k9, k10, k11, k12, k13, k14, k15⟩, hR, hG⟩ := hrow.put8 (.int .i64 DL) (.slice a1 c.inputs.length c1) (.slice none 0 0) (.slice a3 c.outputs.length c3) (.slice a4 c.bads.length c4) (.slice a5 c.invars.length c5) (.slice none 0 0) (.slice a7 c.names.length c7)
    have O1 := Lib.hid (o1.kept hG hrow (by decide))
    have O3 := Lib.hid (o3.kept hG hrow (by decide))
    have O4 := Lib.hid (o4.kept hG hrow (by decide))
    have O5 := Lib.hid (o5.kept hG hrow (by decide))
    have O7 := Lib.hid (owns_other o7 hG hrow (by decide))
    obtain ⟨V, hV⟩ : ∃ V, V = set8 y q (.int .i64 DL) (.slice a1 c.inputs.length c1) (.slice none 0 0) (.slice a3 c.outputs.length c3) (.slice a4 c.bads.length c4) (.slice a5 c.invars.length c5) (.slice none 0 0) (.slice a7 c.names.length c7) := ⟨_, rfl⟩
    rw [← hV] at hR hG O1 O3 O4 O5 O7
    unfold set8 at hV
    have HV := Lib.hid hV
    have hVb := Lib.hid ((Below.of HB.out hy).grown hG (Below.of HB.out hy).size fun k e => by cases e; exact Nat.le_trans HB.out.size hq)
    have hV1 : Hid (Below W1.heap.size W1 V) := hy.grown hG hy.size fun k e => by cases e; exact hq
    have hq1 := HBX2.out.lt
    have hq2 := HRZ2.out.lt
    have HBXV := Lib.hid ((HBX2.out.mono hy).grown hG (fun e => by have := Option.some.inj e; omega))
    have HRZV := Lib.hid ((HRZ2.out.mono hy).grown hG (fun e => by have := Option.some.inj e; omega))
    have HRV := Lib.hid hR
    have hnq : Hid (w.heap.size ≠ q ∧ w.heap.size + 1 ≠ q ∧ W1.heap.size ≤ q ∧ w.heap.size ≤ q) := ⟨by omega, by omega, by omega, by omega⟩
    clear hV hR hG o1 o3 o4 o5 o7 g0 g2 hf hq hrow hq1 hq2 HAI HAO HAB HAV HCN hall Hpc HRZ2 HBX2 hy HB
    have p2 := HBXV.out.cell 2 _ rfl
    rw [HV.out] at p2
    go_wp2_with fail
    rw [← HV.out]
    clear p2 k0 k1 k2 k3 k4 k5 k6 k7 k8 k9 k10 k11 k12 k13 k14 k15
    go_loopg [49] c.latches.length (fun gg s49 wr => ∃ (k : Nat) (u : Value), k ≤ c.latches.length ∧ c.latches.length - k ≤ gg ∧ s49 = .int .i64 k ∧ Hid (V.grownBy wr (some q)) ∧ Hid (RowL 27 wr q [.int .i64 DL, .slice a1 c.inputs.length c1, u, .slice a3 c.outputs.length c3, .slice a4 c.bads.length c4, .slice a5 c.invars.length c5, .slice none 0 0, .slice a7 c.names.length c7]) ∧ Hid (wr.ownsRow V.heap.size 36 3 u k (((c.latches.take k).map (orLat c)).flatMap latCells)))
    case atStart => exact ⟨0, .slice none 0 0, Nat.zero_le _, by omega, rfl, World.grownBy.refl _ _, HRV.out, World.ownsRow_nil _ _ _ _⟩
    case round =>
      obtain ⟨k, u, hk, hg, rfl, hgr, hrow, hown⟩ := hrel
      have HB := Lib.hid (below_grown hVb.out hgr.out hVb.out.size hnq.out.2.2.2)
      by_cases hlt : k < c.latches.length
      · have hmea : ∀ g : Nat, c.latches.length - k ≤ g → c.latches.length - (k + 1) < g := fun g h => by omega
        obtain ⟨b, off, rfl, hbs, _, z0, z1, z2⟩ := HP.out.latches.at_ k hlt
        have z0 := (HB.out.cell hbs).trans z0
        have z1 := (HB.out.cell hbs).trans z1
        have z2 := (HB.out.cell hbs).trans z2
        have htk : Hid ((((c.latches.take (k + 1)).map (orLat c)).flatMap latCells) = (((c.latches.take k).map (orLat c)).flatMap latCells) ++ latCells (orLat c c.latches[k])) := by
          show _ = _
          rw [List.take_succ_eq_append_getElem hlt, List.map_append, List.flatMap_append]; simp
        have hxr : Hid ((0 ≤ c.latches[k].lit ∧ c.latches[k].lit ≤ 2 * c.max + 1) ∧ (0 ≤ c.latches[k].next ∧ c.latches[k].next ≤ 2 * c.max + 1) ∧ 0 ≤ c.latches[k].reset ∧ c.latches[k].reset ≤ 2 * c.max + 1) := by
          have h1 := HRT.out.defs _ (PC.mem_defs_lat c _ (List.getElem_mem hlt))
          have h2 := PC.known_range c HRT.out _ (HRT.out.latNext _ (List.getElem_mem hlt))
          have h3 := HRT.out.latReset _ (List.getElem_mem hlt)
          exact ⟨⟨by omega, by omega⟩, ⟨by omega, by omega⟩, by omega, by omega⟩
        generalize c.latches[k] = x at *
        obtain ⟨xl, xn, xr⟩ := x
        simp only at z0 z1 z2 hxr htk
        obtain ⟨au, cu, rfl⟩ := owned_slice hown.out
        have hltz : (k : Int) < (c.latches.length : Int) := by omega
        have hC : ∃ D : World → Prop, D = fun y => V.grownBy y (some q) ∧ RowL 27 y q [.int .i64 DL, .slice a1 c.inputs.length c1, .slice au k cu, .slice a3 c.outputs.length c3, .slice a4 c.bads.length c4, .slice a5 c.invars.length c5, .slice none 0 0, .slice a7 c.names.length c7] ∧ RowL 36 y wr.heap.size [.int .i64 xl, .int .i64 xn, .int .i64 xr] ∧ wr.heap.size < y.heap.size := ⟨_, rfl⟩
        obtain ⟨D', hC⟩ := hC
        have HC := Lib.hid hC
        obtain ⟨X, hX⟩ : ∃ X, X = wr.alloc (.cells #[.int .i64 xl, .int .i64 xn, .int .i64 xr] 36) := ⟨_, rfl⟩
        have hbX : Below wr.heap.size wr X := by rw [hX]; exact (Below.refl _ _).alloc (Nat.le_refl _) _
        have hCX : Hid (D' X) := by
          show D' X
          rw [hC]
          exact ⟨grownBy_below hgr.out hbX, hrow.out.mono hbX, by rw [hX]; exact RowL.new wr _, by rw [hX]; simp⟩
        have hownX := Lib.hid (owns_below' hown.out hbX)
        have hsX : Hid (X.heap.size = wr.heap.size + 1) := by show _ = _; rw [hX]; simp
        have HX := Lib.hid hX
        clear hX hC hbX
        have Hpc : Hid (∀ y, D' y → y.cell? ⟨q, 2, none⟩ = some (.slice au k cu) ∧ y.cell? ⟨wr.heap.size, 0, none⟩ = some (.int .i64 xl) ∧ y.cell? ⟨wr.heap.size, 1, none⟩ = some (.int .i64 xn) ∧ y.cell? ⟨wr.heap.size, 2, none⟩ = some (.int .i64 xr)) := fun y hy => by
          rw [HC.out] at hy
          obtain ⟨h1, h2, h3, _⟩ := hy
          exact ⟨h2.cell 2 _ rfl, h3.cell 0 _ rfl, h3.cell 1 _ rfl, h3.cell 2 _ rfl⟩
        have HOy : Hid (∀ y, D' y → Ints y vo (tab c)) := fun y hy => by
          rw [HC.out] at hy
          exact hO.out.mono (below_grown hV1.out hy.1 hV1.out.size hnq.out.2.2.1)
        have HL_xl : Hid (∀ y, D' y → _) := fun y hy => aLit_any c HRT.out xl vo y (HOy.out y hy) hxr.out.1.1 hxr.out.1.2
        have HL_xn : Hid (∀ y, D' y → _) := fun y hy => aLit_any c HRT.out xn vo y (HOy.out y hy) hxr.out.2.1.1 hxr.out.2.1.2
        have HL_xr : Hid (∀ y, D' y → _) := fun y hy => aLit_any c HRT.out xr vo y (HOy.out y hy) hxr.out.2.2.1 hxr.out.2.2.2
        have hne : Hid (some wr.heap.size ≠ (Value.slice au k cu).ownBlock) := fun e => by have := (hown.out.lt _ e.symm).2; omega
        have hnq2 : Hid (some q ≠ (Value.slice au k cu).ownBlock) := hrow.out.other hown.out (by decide)
        have hkr := (show k ≤ 1000000 from by have := HRT.out.lats; omega)
        have hk1 : Hid (k + 1 ≤ c.latches.length) := hlt
        have htk' : Hid ((((c.latches.take (k + 1)).map (orLat c)).flatMap latCells) = (((c.latches.take k).map (orLat c)).flatMap latCells) ++ [.int .i64 (PA.ol c xl), .int .i64 (PA.ol c xn), .int .i64 (PA.ol c xr)]) := htk.out
        generalize PA.ol c xl = yl at *
        generalize PA.ol c xn = yn at *
        generalize PA.ol c xr = yr at *
        clear hk hlt hrow hgr hown htk
        go_wp2_with fail
        rw [← HX.out]
        clear z0 z1 z2 hltz
        refine wp_region_write 18 16 [isV (.pointer (some ⟨q, 2, none⟩)), isV (.slice au k cu), isV vo, isV (.pointer (some ⟨wr.heap.size, 0, none⟩)), isV (.int .i64 xl), isV (.int .i64 yl), isV vo, isV (.pointer (some ⟨wr.heap.size, 1, none⟩)), isV (.int .i64 xn), isV (.int .i64 yn), isV vo, isV (.pointer (some ⟨wr.heap.size, 2, none⟩)), isV (.int .i64 xr), isV (.int .i64 yr), isV (.agg #[.int .i64 yl, .int .i64 yn, .int .i64 yr]), (fun v y => ∃ g, v = .slice (some ⟨g, 0, none⟩) 1 1 ∧ X.heap.size ≤ g ∧ y.heap[g]? = some (.cells #[.int .i64 yl, .int .i64 yn, .int .i64 yr] 36 (0, 0))), (fun v y => y.ownsRow V.heap.size 36 3 v (k + 1) ((((c.latches.take k).map (orLat c)).flatMap latCells) ++ [.int .i64 yl, .int .i64 yn, .int .i64 yr])), isV (.pointer (some ⟨q, 2, none⟩))]
          (fun b y => D' y ∧ (b = false → y.ownsRow V.heap.size 36 3 (.slice au k cu) k (((c.latches.take k).map (orLat c)).flatMap latCells))) [some 53, some 54, some 55, some 56, some 57, some 58, some 59, some 60, some 61, some 62, some 63, some 64, some 65, some 66, some 67, some 68, some 69, some 70] (by decide) (by kernel_rfl) (by kernel_rfl) rfl (by
            intro g hg
            simp only [List.mem_cons, List.mem_nil_iff, or_false] at hg
            rcases hg with rfl | rfl | rfl | rfl | rfl | rfl | rfl | rfl | rfl | rfl | rfl | rfl | rfl | rfl | rfl | rfl | rfl | rfl <;> first
              | exact isV_keeps _ | exact fun _ _ _ hb h => owns_below' h hb | exact fun _ _ _ hb ⟨g, e, h1, h2⟩ => ⟨g, e, h1, (hb.block g (Array.getElem?_eq_some_iff.1 h2).1).trans h2⟩)
          (by have := hCX.out; rw [HC.out] at this ⊢; exact ⟨⟨grownBy_drew' this.1, this.2.1, this.2.2.1, this.2.2.2⟩, fun _ => hownX.out⟩)
          (fun b y y' hb ⟨hy, ho⟩ => ⟨by rw [HC.out] at hy ⊢; exact ⟨grownBy_below hy.1 hb, hy.2.1.mono hb, hy.2.2.1.mono hb, Nat.lt_of_lt_of_le hy.2.2.2 hb.size⟩, fun e => owns_below' (ho e) hb⟩) ?_ ?_
        · refine ⟨fun b vs y hb hy hd => ?_, fun b vs y hb hy hd => ?_, fun b vs y hb hy hd => ?_, fun b vs y hb hy hd => ?_, fun b vs y hb hy hd => ?_, fun b vs y hb hy hd => ?_, fun b vs y hb hy hd => ?_, fun b vs y hb hy hd => ?_, fun b vs y hb hy hd => ?_, fun b vs y hb hy hd => ?_, fun b vs y hb hy hd => ?_, fun b vs y hb hy hd => ?_, fun b vs y hb hy hd => ?_, fun b vs y hb hy hd => ?_, fun b vs y hb hy hd => ?_, fun b vs y hb hy hd => ?_, fun b vs y hb hy hd => ?_, fun b vs y hb hy hd => ?_, trivial⟩
          · (simp only [opens]; try simp only [Nat.reduceAdd])
            go_wp2_with fail
            exact ⟨_, rfl, rfl, Below.refl _ _⟩
          · obtain ⟨k0, x0, x1, x2⟩ := Hpc.out y hy.1
            have g0 : vs 0 = .pointer (some ⟨q, 2, none⟩) := hd 0 (by decide) (by kernel_rfl)
            (simp only [opens]; try simp only [Nat.reduceAdd])
            rw [g0]
            go_wp2_with fail
            exact ⟨_, rfl, rfl, Below.refl _ _⟩
          · (simp only [opens]; try simp only [Nat.reduceAdd])
            go_wp2_with fail
            exact ⟨_, rfl, rfl, Below.refl _ _⟩
          · (simp only [opens]; try simp only [Nat.reduceAdd])
            go_wp2_with fail
            exact ⟨_, rfl, rfl, Below.refl _ _⟩
          · obtain ⟨k0, x0, x1, x2⟩ := Hpc.out y hy.1
            have g0 : vs 3 = .pointer (some ⟨wr.heap.size, 0, none⟩) := hd 3 (by decide) (by kernel_rfl)
            (simp only [opens]; try simp only [Nat.reduceAdd])
            rw [g0]
            go_wp2_with fail
            exact ⟨_, rfl, rfl, Below.refl _ _⟩
          · have g0 : vs 2 = vo := hd 2 (by decide) (by kernel_rfl)
            have g1 : vs 4 = .int .i64 xl := hd 4 (by decide) (by kernel_rfl)
            have hZ := Lib.hid (HL_xl.out y hy.1)
            (simp only [opens]; try simp only [Nat.reduceAdd])
            rw [g0, g1]
            go_wp2_with (go_at_call 27; refine hZ.out.mono ?_; rintro e w4 ⟨rfl, hb4⟩)
            exact ⟨_, rfl, rfl, hb4⟩
          · (simp only [opens]; try simp only [Nat.reduceAdd])
            go_wp2_with fail
            exact ⟨_, rfl, rfl, Below.refl _ _⟩
          · (simp only [opens]; try simp only [Nat.reduceAdd])
            go_wp2_with fail
            exact ⟨_, rfl, rfl, Below.refl _ _⟩
          · obtain ⟨k0, x0, x1, x2⟩ := Hpc.out y hy.1
            have g0 : vs 7 = .pointer (some ⟨wr.heap.size, 1, none⟩) := hd 7 (by decide) (by kernel_rfl)
            (simp only [opens]; try simp only [Nat.reduceAdd])
            rw [g0]
            go_wp2_with fail
            exact ⟨_, rfl, rfl, Below.refl _ _⟩
          · have g0 : vs 6 = vo := hd 6 (by decide) (by kernel_rfl)
            have g1 : vs 8 = .int .i64 xn := hd 8 (by decide) (by kernel_rfl)
            have hZ := Lib.hid (HL_xn.out y hy.1)
            (simp only [opens]; try simp only [Nat.reduceAdd])
            rw [g0, g1]
            go_wp2_with (go_at_call 27; refine hZ.out.mono ?_; rintro e w4 ⟨rfl, hb4⟩)
            exact ⟨_, rfl, rfl, hb4⟩
          · (simp only [opens]; try simp only [Nat.reduceAdd])
            go_wp2_with fail
            exact ⟨_, rfl, rfl, Below.refl _ _⟩
          · (simp only [opens]; try simp only [Nat.reduceAdd])
            go_wp2_with fail
            exact ⟨_, rfl, rfl, Below.refl _ _⟩
          · obtain ⟨k0, x0, x1, x2⟩ := Hpc.out y hy.1
            have g0 : vs 11 = .pointer (some ⟨wr.heap.size, 2, none⟩) := hd 11 (by decide) (by kernel_rfl)
            (simp only [opens]; try simp only [Nat.reduceAdd])
            rw [g0]
            go_wp2_with fail
            exact ⟨_, rfl, rfl, Below.refl _ _⟩
          · have g0 : vs 10 = vo := hd 10 (by decide) (by kernel_rfl)
            have g1 : vs 12 = .int .i64 xr := hd 12 (by decide) (by kernel_rfl)
            have hZ := Lib.hid (HL_xr.out y hy.1)
            (simp only [opens]; try simp only [Nat.reduceAdd])
            rw [g0, g1]
            go_wp2_with (go_at_call 27; refine hZ.out.mono ?_; rintro e w4 ⟨rfl, hb4⟩)
            exact ⟨_, rfl, rfl, hb4⟩
          · have g0 : vs 5 = .int .i64 yl := hd 5 (by decide) (by kernel_rfl)
            have g1 : vs 9 = .int .i64 yn := hd 9 (by decide) (by kernel_rfl)
            have g2 : vs 13 = .int .i64 yr := hd 13 (by decide) (by kernel_rfl)
            (simp only [opens]; try simp only [Nat.reduceAdd])
            rw [g0, g1, g2]
            go_wp2_with fail
            exact ⟨_, rfl, rfl, Below.refl _ _⟩
          · have g0 : vs 14 = .agg #[.int .i64 yl, .int .i64 yn, .int .i64 yr] := hd 14 (by decide) (by kernel_rfl)
            have hsy : X.heap.size ≤ y.heap.size := by have := hsX.out; have hy := hy.1; rw [HC.out] at hy; have := hy.2.2.2; omega
            (simp only [opens]; try simp only [Nat.reduceAdd])
            rw [g0]
            go_wp2_with fail
            exact ⟨_, rfl, ⟨_, rfl, hsy, heap_alloc_new y _⟩, (Below.refl _ _).alloc (Nat.le_refl _) _⟩
          · have g0 : vs 1 = .slice au k cu := hd 1 (by decide) (by kernel_rfl)
            obtain ⟨g, g2, g3, g4⟩ : ∃ g, vs 15 = .slice (some ⟨g, 0, none⟩) 1 1 ∧ X.heap.size ≤ g ∧ y.heap[g]? = some (.cells #[.int .i64 yl, .int .i64 yn, .int .i64 yr] 36 (0, 0)) := hd 15 (by decide) (by kernel_rfl)
            have hcl := Lib.hid (cells_of_row3 g4)
            have hO' := Lib.hid (hy.2 (hb rfl))
            have hCy := Lib.hid hy.1
            clear hy
            (simp only [opens]; try simp only [Nat.reduceAdd])
            rw [g0, g2]
            refine app_cells rfl _ _ 23 rfl 36 3 24 (.agg #[.int .i64 0, .int .i64 0, .int .i64 0]) Try.underlying23 infoLat rfl (by decide) (w0 := y) (B0 := V.heap.size) rfl hO'.out (Below.refl _ _) (Nat.le_refl _) (by have h := hCy.out; rw [HC.out] at h; exact h.1.size) rfl hcl.out (by intro u hu; simp only [List.mem_cons, List.mem_nil_iff, or_false] at hu; rcases hu with rfl | rfl | rfl <;> rfl) (by omega) (by omega) ?_
            intro v3 w3 hown3 _ _ hgr3
            refine ⟨_, rfl, hown3, ⟨?_, fun e => by cases e⟩, ?_⟩
            · have h := hCy.out
              rw [HC.out] at h ⊢
              exact ⟨grownBy_two h.1 hgr3 fun j e => Or.inl (hO'.out.lt j e).1, h.2.1.grown hgr3 hnq2.out, h.2.2.1.grown hgr3 hne.out, Nat.lt_of_lt_of_le h.2.2.2 hgr3.size⟩
            · intro j hj hj1 hf
              obtain rfl | rfl | rfl | rfl | rfl | rfl | rfl | rfl | rfl | rfl | rfl | rfl | rfl | rfl | rfl | rfl | rfl := (by omega : j = 0 ∨ j = 1 ∨ j = 2 ∨ j = 3 ∨ j = 4 ∨ j = 5 ∨ j = 6 ∨ j = 7 ∨ j = 8 ∨ j = 9 ∨ j = 10 ∨ j = 11 ∨ j = 12 ∨ j = 13 ∨ j = 14 ∨ j = 15 ∨ j = 17)
              all_goals first | exact hf | skip
              obtain ⟨g', e1, e2, e3⟩ := hf
              refine ⟨g', e1, e2, (hgr3.block g' (Array.getElem?_eq_some_iff.1 e3).1 fun e => ?_).trans e3⟩
              have := (hownX.out.lt g' e.symm).2
              omega
          · (simp only [opens]; try simp only [Nat.reduceAdd])
            go_wp2_with fail
            exact ⟨_, rfl, rfl, Below.refl _ _⟩
        intro vs y hy hf
        have g0 : vs 17 = .pointer (some ⟨q, 2, none⟩) := hf 17 (by decide)
        have g1 : y.ownsRow V.heap.size 36 3 (vs 16) (k + 1) ((((c.latches.take k).map (orLat c)).flatMap latCells) ++ [.int .i64 yl, .int .i64 yn, .int .i64 yr]) := hf 16 (by decide)
        have hy := hy.1
        rw [HC.out] at hy
        have g2 : y.ownsRow V.heap.size 36 3 (vs 16) (k + 1) (((c.latches.take (k + 1)).map (orLat c)).flatMap latCells) := by rw [htk'.out]; exact g1
        (simp only [opens]; try simp only [Nat.reduceAdd])
        rw [g0]
        generalize vs 16 = u9 at *
        clear g1 hf
        have G2 := Lib.hid g2
        obtain ⟨a9, c9, rfl⟩ := owned_slice g2
        have hcq := hy.2.1.cell 2 _ rfl
        have hfq := hy.2.1.frozen 2
        have hR9 := Lib.hid (hy.2.1.set 2 (.slice a9 (k + 1) c9))
        have hG9 := set_grown' y q 2 (.slice a9 (k + 1) c9)
        have hO9 := Lib.hid (G2.out.kept hG9 (Or.inr fun e => hy.2.1.other G2.out (by decide) e.symm))
        have hG9 := Lib.hid (grownBy_two hy.1 hG9 fun j e => Or.inr (Option.some.inj e).symm)
        clear hy g2 G2
        go_wp2_with fail
        go_roundg (c.latches.length - (k + 1))
        case measure => exact hmea _ hg
        case rel => exact ⟨k + 1, _, hk1.out, Nat.le_refl _, by go_num, hG9.out, hR9.out, hO9.out⟩
      · have hltz : ¬ (k : Int) < (c.latches.length : Int) := by omega
        obtain rfl : k = c.latches.length := by omega
        have hown := hown.out
        rw [List.take_length] at hown
        obtain ⟨Y, hY⟩ : ∃ Y, Y = wr := ⟨_, rfl⟩
        subst hY
        obtain ⟨a2, c2, rfl⟩ := owned_slice hown
        have HRY := hrow
        have hYb := HB
        have hY1 : Hid (Below W1.heap.size W1 Y) := below_grown hV1.out hgr.out hV1.out.size hnq.out.2.2.1
        have HBXY := Lib.hid (HBXV.out.grown hgr.out fun e => hnq.out.1 (Option.some.inj e))
        have HRZY := Lib.hid (HRZV.out.grown hgr.out fun e => hnq.out.2.1 (Option.some.inj e))
        have O1Y := Lib.hid (O1.out.kept hgr.out HRV.out (by decide))
        have O3Y := Lib.hid (O3.out.kept hgr.out HRV.out (by decide))
        have O4Y := Lib.hid (O4.out.kept hgr.out HRV.out (by decide))
        have O5Y := Lib.hid (O5.out.kept hgr.out HRV.out (by decide))
        have O7Y := Lib.hid (owns_other O7.out hgr.out HRV.out (by decide))
        have HLY := Lib.hid hown
        have p6 := HBXY.out.cell 6 _ rfl
        clear hown hk hg hlt hgr hrow HB HBXV HRZV O1 O3 O4 O5 O7 HRV HV hVb HBXY hV1
        go_wp2_with fail
        clear p6
        go_loopg [75] c.ands.length (fun gg s75 wr => ∃ (k : Nat) (u : Value), k ≤ c.ands.length ∧ c.ands.length - k ≤ gg ∧ s75 = .int .i64 k ∧ Hid (Y.grownBy wr (some q)) ∧ Hid (RowL 27 wr q [.int .i64 DL, .slice a1 c.inputs.length c1, .slice a2 c.latches.length c2, .slice a3 c.outputs.length c3, .slice a4 c.bads.length c4, .slice a5 c.invars.length c5, u, .slice a7 c.names.length c7]) ∧ Hid (wr.ownsRow Y.heap.size 38 3 u k (((c.ands.take k).map (orGat c)).flatMap gatCells)))
        case atStart => exact ⟨0, .slice none 0 0, Nat.zero_le _, by omega, rfl, World.grownBy.refl _ _, HRY.out, World.ownsRow_nil _ _ _ _⟩
        case round =>
          obtain ⟨k, u, hk, hg, rfl, hgr, hrow, hown⟩ := hrel
          have HB := Lib.hid (below_grown hYb.out hgr.out hYb.out.size hnq.out.2.2.2)
          by_cases hlt : k < c.ands.length
          · have hmea : ∀ g : Nat, c.ands.length - k ≤ g → c.ands.length - (k + 1) < g := fun g h => by omega
            obtain ⟨b, off, rfl, hbs, _, z0, z1, z2⟩ := HP.out.ands.at_ k hlt
            have z0 := (HB.out.cell hbs).trans z0
            have z1 := (HB.out.cell hbs).trans z1
            have z2 := (HB.out.cell hbs).trans z2
            have htk : Hid ((((c.ands.take (k + 1)).map (orGat c)).flatMap gatCells) = (((c.ands.take k).map (orGat c)).flatMap gatCells) ++ gatCells (orGat c c.ands[k])) := by
              show _ = _
              rw [List.take_succ_eq_append_getElem hlt, List.map_append, List.flatMap_append]; simp
            have hxr : Hid ((0 ≤ c.ands[k].lit ∧ c.ands[k].lit ≤ 2 * c.max + 1) ∧ (0 ≤ c.ands[k].left ∧ c.ands[k].left ≤ 2 * c.max + 1) ∧ 0 ≤ c.ands[k].right ∧ c.ands[k].right ≤ 2 * c.max + 1) := by
              have h1 := HRT.out.defs _ (PC.mem_defs_gat c _ (List.getElem_mem hlt))
              obtain ⟨_, _, h3, h4⟩ := HRT.out.gats _ (List.getElem_mem hlt)
              have h3 := PC.known_range c HRT.out _ h3
              have h4 := PC.known_range c HRT.out _ h4
              exact ⟨⟨by omega, by omega⟩, ⟨by omega, by omega⟩, by omega, by omega⟩
            generalize c.ands[k] = x at *
            obtain ⟨xl, xn, xr⟩ := x
            simp only at z0 z1 z2 hxr htk
            obtain ⟨au, cu, rfl⟩ := owned_slice hown.out
            have hltz : (k : Int) < (c.ands.length : Int) := by omega
            have hC : ∃ D : World → Prop, D = fun y => Y.grownBy y (some q) ∧ RowL 27 y q [.int .i64 DL, .slice a1 c.inputs.length c1, .slice a2 c.latches.length c2, .slice a3 c.outputs.length c3, .slice a4 c.bads.length c4, .slice a5 c.invars.length c5, .slice au k cu, .slice a7 c.names.length c7] ∧ RowL 38 y wr.heap.size [.int .i64 xl, .int .i64 xn, .int .i64 xr] ∧ wr.heap.size < y.heap.size := ⟨_, rfl⟩
            obtain ⟨D', hC⟩ := hC
            have HC := Lib.hid hC
            obtain ⟨X, hX⟩ : ∃ X, X = wr.alloc (.cells #[.int .i64 xl, .int .i64 xn, .int .i64 xr] 38) := ⟨_, rfl⟩
            have hbX : Below wr.heap.size wr X := by rw [hX]; exact (Below.refl _ _).alloc (Nat.le_refl _) _
            have hCX : Hid (D' X) := by
              show D' X
              rw [hC]
              exact ⟨grownBy_below hgr.out hbX, hrow.out.mono hbX, by rw [hX]; exact RowL.new wr _, by rw [hX]; simp⟩
            have hownX := Lib.hid (owns_below' hown.out hbX)
            have HX := Lib.hid hX
            clear hX hC hbX
            have hDb : Hid (∀ y y', D' y → Below y.heap.size y y' → D' y') := fun y y' hy hb => by
              rw [HC.out] at hy ⊢
              exact ⟨grownBy_below hy.1 hb, hy.2.1.mono hb, hy.2.2.1.mono hb, Nat.lt_of_lt_of_le hy.2.2.2 hb.size⟩
            have Hpc : Hid (∀ y, D' y → y.cell? ⟨q, 6, none⟩ = some (.slice au k cu) ∧ y.cell? ⟨wr.heap.size, 0, none⟩ = some (.int .i64 xl) ∧ y.cell? ⟨wr.heap.size, 1, none⟩ = some (.int .i64 xn) ∧ y.cell? ⟨wr.heap.size, 2, none⟩ = some (.int .i64 xr)) := fun y hy => by
              rw [HC.out] at hy
              obtain ⟨h1, h2, h3, _⟩ := hy
              exact ⟨h2.cell 6 _ rfl, h3.cell 0 _ rfl, h3.cell 1 _ rfl, h3.cell 2 _ rfl⟩
            have HOy : Hid (∀ y, D' y → Ints y vo (tab c)) := fun y hy => by
              rw [HC.out] at hy
              exact hO.out.mono (below_grown hY1.out hy.1 hY1.out.size hnq.out.2.2.1)
            have HL_xl : Hid (∀ y, D' y → _) := fun y hy => aLit_any c HRT.out xl vo y (HOy.out y hy) hxr.out.1.1 hxr.out.1.2
            have HL_xn : Hid (∀ y, D' y → _) := fun y hy => aLit_any c HRT.out xn vo y (HOy.out y hy) hxr.out.2.1.1 hxr.out.2.1.2
            have HL_xr : Hid (∀ y, D' y → _) := fun y hy => aLit_any c HRT.out xr vo y (HOy.out y hy) hxr.out.2.2.1 hxr.out.2.2.2
            have hne : Hid (some wr.heap.size ≠ (Value.slice au k cu).ownBlock) := fun e => by have := (hown.out.lt _ e.symm).2; omega
            have hnq2 : Hid (some q ≠ (Value.slice au k cu).ownBlock) := hrow.out.other hown.out (by decide)
            have hkr := (show k ≤ 1000000 from by have := PC.ands_len c HRT.out; omega)
            have hk1 : Hid (k + 1 ≤ c.ands.length) := hlt
            have htk' : Hid ((((c.ands.take (k + 1)).map (orGat c)).flatMap gatCells) = (((c.ands.take k).map (orGat c)).flatMap gatCells) ++ [.int .i64 (PA.ol c xl), .int .i64 (max (PA.ol c xn) (PA.ol c xr)), .int .i64 (min (PA.ol c xn) (PA.ol c xr))]) := htk.out
            generalize PA.ol c xl = yl at *
            generalize PA.ol c xn = yn at *
            generalize PA.ol c xr = yr at *
            have l1 : ∀ x : Later X, _ := fun x => (Hpc.out x.at_ (hDb.out _ _ hCX.out x.below)).2.2.1
            have l2 : ∀ x : Later X, _ := fun x => (Hpc.out x.at_ (hDb.out _ _ hCX.out x.below)).2.2.2
            have m1 : ∀ x : Later X, _ := fun x => HL_xn.out x.at_ (hDb.out _ _ hCX.out x.below)
            have m2 : ∀ x : Later X, _ := fun x => HL_xr.out x.at_ (hDb.out _ _ hCX.out x.below)
            have hlX : Hid (wr.heap.size < X.heap.size) := by have := hCX.out; rw [HC.out] at this; exact this.2.2.2
            clear hk hlt hrow hgr hown htk
            go_wp2_with fail
            rw [← HX.out]
            clear z0 z1 z2 hltz
            refine wp_region_later (by kernel_rfl) (by kernel_rfl) ?_; (repeat (go_big_quiet_step ((first | (go_at_call 27; with_reducible exact Calls.later (m1 _)) | (go_at_call 27; with_reducible exact Calls.later (m2 _)))))); refine wpQuiet_nil ?_; rintro w3 ⟨⟨_, hb3⟩, rfl⟩
            clear l1 l2 m1 m2
            have hC3 := Lib.hid (hDb.out _ _ hCX.out hb3)
            have hown3' := Lib.hid (owns_below' hownX.out hb3)
            obtain ⟨X3, hX3⟩ : ∃ Z, Z = w3 := ⟨_, rfl⟩
            subst hX3
            have hl3 : Hid (wr.heap.size < X3.heap.size) := Nat.lt_of_lt_of_le hlX.out hb3.size
            clear hb3 hCX hownX hlX HX
            go_wp2_with fail
            refine wp_region_write 16 14 [isV (.pointer (some ⟨q, 6, none⟩)), isV (.slice au k cu), isV vo, isV (.pointer (some ⟨wr.heap.size, 0, none⟩)), isV (.int .i64 xl), isV (.int .i64 yl), isV (.int .i64 yn), isV (.int .i64 yr), isV (.int .i64 (max yn yr)), isV (.int .i64 yn), isV (.int .i64 yr), isV (.int .i64 (min yn yr)), isV (.agg #[.int .i64 yl, .int .i64 (max yn yr), .int .i64 (min yn yr)]), (fun v y => ∃ g, v = .slice (some ⟨g, 0, none⟩) 1 1 ∧ wr.heap.size < g ∧ y.heap[g]? = some (.cells #[.int .i64 yl, .int .i64 (max yn yr), .int .i64 (min yn yr)] 38 (0, 0)) ∧ X3.heap.size ≤ g), (fun v y => y.ownsRow Y.heap.size 38 3 v (k + 1) ((((c.ands.take k).map (orGat c)).flatMap gatCells) ++ [.int .i64 yl, .int .i64 (max yn yr), .int .i64 (min yn yr)])), isV (.pointer (some ⟨q, 6, none⟩))]
              (fun b y => (D' y ∧ X3.heap.size ≤ y.heap.size) ∧ (b = false → y.ownsRow Y.heap.size 38 3 (.slice au k cu) k (((c.ands.take k).map (orGat c)).flatMap gatCells))) [some 87, some 88, some 89, some 90, some 91, some 92, some 93, some 94, some 95, some 96, some 97, some 98, some 99, some 100, some 101, some 102] (by decide) (by kernel_rfl) (by kernel_rfl) rfl (by
                intro g hg
                simp only [List.mem_cons, List.mem_nil_iff, or_false] at hg
                rcases hg with rfl | rfl | rfl | rfl | rfl | rfl | rfl | rfl | rfl | rfl | rfl | rfl | rfl | rfl | rfl | rfl <;> first
                  | exact isV_keeps _ | exact fun _ _ _ hb h => owns_below' h hb | exact fun _ _ _ hb ⟨g, e, h1, h2, h3⟩ => ⟨g, e, h1, (hb.block g (Array.getElem?_eq_some_iff.1 h2).1).trans h2, h3⟩)
              ⟨⟨by have := hC3.out; rw [HC.out] at this ⊢; exact ⟨grownBy_drew' this.1, this.2.1, this.2.2.1, this.2.2.2⟩, Nat.le_refl _⟩, fun _ => hown3'.out⟩
              (fun b y y' hb ⟨hy, ho⟩ => ⟨⟨hDb.out _ _ hy.1 hb, Nat.le_trans hy.2 hb.size⟩, fun e => owns_below' (ho e) hb⟩) ?_ ?_
            · refine ⟨fun b vs y hb hy hd => ?_, fun b vs y hb hy hd => ?_, fun b vs y hb hy hd => ?_, fun b vs y hb hy hd => ?_, fun b vs y hb hy hd => ?_, fun b vs y hb hy hd => ?_, fun b vs y hb hy hd => ?_, fun b vs y hb hy hd => ?_, fun b vs y hb hy hd => ?_, fun b vs y hb hy hd => ?_, fun b vs y hb hy hd => ?_, fun b vs y hb hy hd => ?_, fun b vs y hb hy hd => ?_, fun b vs y hb hy hd => ?_, fun b vs y hb hy hd => ?_, fun b vs y hb hy hd => ?_, trivial⟩
              · (simp only [opens]; try simp only [Nat.reduceAdd])
                go_wp2_with fail
                exact ⟨_, rfl, rfl, Below.refl _ _⟩
              · obtain ⟨k0, x0, x1, x2⟩ := Hpc.out y hy.1.1
                have g0 : vs 0 = .pointer (some ⟨q, 6, none⟩) := hd 0 (by decide) (by kernel_rfl)
                (simp only [opens]; try simp only [Nat.reduceAdd])
                rw [g0]
                go_wp2_with fail
                exact ⟨_, rfl, rfl, Below.refl _ _⟩
              · (simp only [opens]; try simp only [Nat.reduceAdd])
                go_wp2_with fail
                exact ⟨_, rfl, rfl, Below.refl _ _⟩
              · (simp only [opens]; try simp only [Nat.reduceAdd])
                go_wp2_with fail
                exact ⟨_, rfl, rfl, Below.refl _ _⟩
              · obtain ⟨k0, x0, x1, x2⟩ := Hpc.out y hy.1.1
                have g0 : vs 3 = .pointer (some ⟨wr.heap.size, 0, none⟩) := hd 3 (by decide) (by kernel_rfl)
                (simp only [opens]; try simp only [Nat.reduceAdd])
                rw [g0]
                go_wp2_with fail
                exact ⟨_, rfl, rfl, Below.refl _ _⟩
              · have g0 : vs 2 = vo := hd 2 (by decide) (by kernel_rfl)
                have g1 : vs 4 = .int .i64 xl := hd 4 (by decide) (by kernel_rfl)
                have hZ := Lib.hid (HL_xl.out y hy.1.1)
                (simp only [opens]; try simp only [Nat.reduceAdd])
                rw [g0, g1]
                go_wp2_with (go_at_call 27; refine hZ.out.mono ?_; rintro e w4 ⟨rfl, hb4⟩)
                exact ⟨_, rfl, rfl, hb4⟩
              · (simp only [opens]; try simp only [Nat.reduceAdd])
                go_wp2_with fail
                exact ⟨_, rfl, rfl, Below.refl _ _⟩
              · (simp only [opens]; try simp only [Nat.reduceAdd])
                go_wp2_with fail
                exact ⟨_, rfl, rfl, Below.refl _ _⟩
              · have g0 : vs 6 = .int .i64 yn := hd 6 (by decide) (by kernel_rfl)
                have g1 : vs 7 = .int .i64 yr := hd 7 (by decide) (by kernel_rfl)
                (simp only [opens]; try simp only [Nat.reduceAdd])
                rw [g0, g1]
                go_wp2_with fail
                exact ⟨_, rfl, by first | rfl, Below.refl _ _⟩
              · (simp only [opens]; try simp only [Nat.reduceAdd])
                go_wp2_with fail
                exact ⟨_, rfl, rfl, Below.refl _ _⟩
              · (simp only [opens]; try simp only [Nat.reduceAdd])
                go_wp2_with fail
                exact ⟨_, rfl, rfl, Below.refl _ _⟩
              · have g0 : vs 9 = .int .i64 yn := hd 9 (by decide) (by kernel_rfl)
                have g1 : vs 10 = .int .i64 yr := hd 10 (by decide) (by kernel_rfl)
                (simp only [opens]; try simp only [Nat.reduceAdd])
                rw [g0, g1]
                go_wp2_with fail
                exact ⟨_, rfl, by first | rfl, Below.refl _ _⟩
              · have g0 : vs 5 = .int .i64 yl := hd 5 (by decide) (by kernel_rfl)
                have g1 : vs 8 = .int .i64 (max yn yr) := hd 8 (by decide) (by kernel_rfl)
                have g2 : vs 11 = .int .i64 (min yn yr) := hd 11 (by decide) (by kernel_rfl)
                (simp only [opens]; try simp only [Nat.reduceAdd])
                rw [g0, g1, g2]
                go_wp2_with fail
                exact ⟨_, rfl, rfl, Below.refl _ _⟩
              · have g0 : vs 12 = .agg #[.int .i64 yl, .int .i64 (max yn yr), .int .i64 (min yn yr)] := hd 12 (by decide) (by kernel_rfl)
                have hsy := hy.1.2
                have hl := hl3.out
                (simp only [opens]; try simp only [Nat.reduceAdd])
                rw [g0]
                go_wp2_with fail
                exact ⟨_, rfl, ⟨_, rfl, by omega, heap_alloc_new y _, hsy⟩, (Below.refl _ _).alloc (Nat.le_refl _) _⟩
              · have g0 : vs 1 = .slice au k cu := hd 1 (by decide) (by kernel_rfl)
                obtain ⟨g, g2, g3, g4, _⟩ : ∃ g, vs 13 = .slice (some ⟨g, 0, none⟩) 1 1 ∧ wr.heap.size < g ∧ y.heap[g]? = some (.cells #[.int .i64 yl, .int .i64 (max yn yr), .int .i64 (min yn yr)] 38 (0, 0)) ∧ X3.heap.size ≤ g := hd 13 (by decide) (by kernel_rfl)
                have hcl := Lib.hid (cells_of_row3 g4)
                have hO' := Lib.hid (hy.2 (hb rfl))
                have hCy := Lib.hid hy.1.1
                have hCs := Lib.hid hy.1.2
                clear hy
                (simp only [opens]; try simp only [Nat.reduceAdd])
                rw [g0, g2]
                refine app_cells rfl _ _ 24 rfl 38 3 24 (.agg #[.int .i64 0, .int .i64 0, .int .i64 0]) Try.underlying24 infoGat rfl (by decide) (w0 := y) (B0 := Y.heap.size) rfl hO'.out (Below.refl _ _) (Nat.le_refl _) (by have h := hCy.out; rw [HC.out] at h; exact h.1.size) rfl hcl.out (by intro u hu; simp only [List.mem_cons, List.mem_nil_iff, or_false] at hu; rcases hu with rfl | rfl | rfl <;> rfl) (by omega) (by omega) ?_
                intro v3 w3 hown3 _ _ hgr3
                refine ⟨_, rfl, hown3, ⟨⟨?_, Nat.le_trans hCs.out hgr3.size⟩, fun e => by cases e⟩, ?_⟩
                · have h := hCy.out
                  rw [HC.out] at h ⊢
                  exact ⟨grownBy_two h.1 hgr3 fun j e => Or.inl (hO'.out.lt j e).1, h.2.1.grown hgr3 hnq2.out, h.2.2.1.grown hgr3 hne.out, Nat.lt_of_lt_of_le h.2.2.2 hgr3.size⟩
                · intro j hj hj1 hf
                  obtain rfl | rfl | rfl | rfl | rfl | rfl | rfl | rfl | rfl | rfl | rfl | rfl | rfl | rfl | rfl := (by omega : j = 0 ∨ j = 1 ∨ j = 2 ∨ j = 3 ∨ j = 4 ∨ j = 5 ∨ j = 6 ∨ j = 7 ∨ j = 8 ∨ j = 9 ∨ j = 10 ∨ j = 11 ∨ j = 12 ∨ j = 13 ∨ j = 15)
                  all_goals first | exact hf | skip
                  obtain ⟨g', e1, e2, e3, e4⟩ := hf
                  refine ⟨g', e1, e2, (hgr3.block g' (Array.getElem?_eq_some_iff.1 e3).1 fun e => ?_).trans e3, e4⟩
                  have := (hown3'.out.lt g' e.symm).2
                  omega
              · (simp only [opens]; try simp only [Nat.reduceAdd])
                go_wp2_with fail
                exact ⟨_, rfl, rfl, Below.refl _ _⟩
            intro vs y hy hf
            have g0 : vs 15 = .pointer (some ⟨q, 6, none⟩) := hf 15 (by decide)
            have g1 : y.ownsRow Y.heap.size 38 3 (vs 14) (k + 1) ((((c.ands.take k).map (orGat c)).flatMap gatCells) ++ [.int .i64 yl, .int .i64 (max yn yr), .int .i64 (min yn yr)]) := hf 14 (by decide)
            have hy := hy.1.1
            rw [HC.out] at hy
            have g2 : y.ownsRow Y.heap.size 38 3 (vs 14) (k + 1) (((c.ands.take (k + 1)).map (orGat c)).flatMap gatCells) := by rw [htk'.out]; exact g1
            (simp only [opens]; try simp only [Nat.reduceAdd])
            rw [g0]
            generalize vs 14 = u9 at *
            clear g1 hf
            have G2 := Lib.hid g2
            obtain ⟨a9, c9, rfl⟩ := owned_slice g2
            have hcq := hy.2.1.cell 6 _ rfl
            have hfq := hy.2.1.frozen 6
            have hR9 := Lib.hid (hy.2.1.set 6 (.slice a9 (k + 1) c9))
            have hG9 := set_grown' y q 6 (.slice a9 (k + 1) c9)
            have hO9 := Lib.hid (G2.out.kept hG9 (Or.inr fun e => hy.2.1.other G2.out (by decide) e.symm))
            have hG9 := Lib.hid (grownBy_two hy.1 hG9 fun j e => Or.inr (Option.some.inj e).symm)
            clear hy g2 G2
            go_wp2_with fail
            go_roundg (c.ands.length - (k + 1))
            case measure => exact hmea _ hg
            case rel => exact ⟨k + 1, _, hk1.out, Nat.le_refl _, by go_num, hG9.out, hR9.out, hO9.out⟩
          · have hltz : ¬ (k : Int) < (c.ands.length : Int) := by omega
            obtain rfl : k = c.ands.length := by omega
            have hown := hown.out
            rw [List.take_length] at hown
            obtain ⟨a6, c6, rfl⟩ := owned_slice hown
            have HRC := Lib.hid (HRZY.out.grown hgr.out fun e => hnq.out.2.1 (Option.some.inj e))
            have f0 := hrow.out.cell 0 _ rfl
            have f1 := hrow.out.cell 1 _ rfl
            have f2 := hrow.out.cell 2 _ rfl
            have f3 := hrow.out.cell 3 _ rfl
            have f4 := hrow.out.cell 4 _ rfl
            have f5 := hrow.out.cell 5 _ rfl
            have f6 := hrow.out.cell 6 _ rfl
            have f7 := hrow.out.cell 7 _ rfl
            have hW : Hid (∀ F : World, wr.grownBy F (some (w.heap.size + 1)) → CircParts F (PA.orderC c) (.slice a1 c.inputs.length c1) (.slice a2 c.latches.length c2) (.slice a3 c.outputs.length c3) (.slice a4 c.bads.length c4) (.slice a5 c.invars.length c5) (.slice a6 c.ands.length c6) (.slice a7 c.names.length c7)) := fun F hF => by
              have k1 := ((O1Y.out.kept hgr.out HRY.out (by decide)).kept hF HRC.out (by decide)).ints
              have k3 := ((O3Y.out.kept hgr.out HRY.out (by decide)).kept hF HRC.out (by decide)).ints
              have k4 := ((O4Y.out.kept hgr.out HRY.out (by decide)).kept hF HRC.out (by decide)).ints
              have k5 := ((O5Y.out.kept hgr.out HRY.out (by decide)).kept hF HRC.out (by decide)).ints
              have k2 := Cells.of_owns (owns_other (owns_other HLY.out hgr.out HRY.out (by decide)) hF HRC.out (by decide))
              have k6 := Cells.of_owns (owns_other hown hF HRC.out (by decide))
              have k7 := Cells.of_owns (owns_other (owns_other O7Y.out hgr.out HRY.out (by decide)) hF HRC.out (by decide))
              have hr : ∀ l, rng (PA.ol c l) := fun l => by have := ol_rng c HRT.out l; unfold rng; omega
              refine ⟨k1, ⟨by rw [show (PA.orderC c).latches = c.latches.map (orLat c) from rfl, List.length_map]; exact k2, ?_⟩, k3, k4, k5, ⟨by rw [show (PA.orderC c).ands = c.ands.map (orGat c) from rfl, List.length_map]; exact k6, ?_⟩, ⟨k7, HP.out.names.2⟩⟩
              · intro x hx
                obtain ⟨z, hz, rfl⟩ := List.mem_map.1 hx
                exact ⟨hr _, hr _, hr _⟩
              · intro x hx
                obtain ⟨z, hz, rfl⟩ := List.mem_map.1 hx
                have h1 := ol_rng c HRT.out z.left
                have h2 := ol_rng c HRT.out z.right
                refine ⟨hr _, ?_, ?_⟩
                · show rng (max _ _); unfold rng; omega
                · show rng (min _ _); unfold rng; omega
            obtain ⟨⟨k0, k1, k2, k3, k4, k5, k6, k7, k8, k9, k10, k11, k12, k13, k14, k15⟩, hR, hG⟩ := HRC.out.put8 (.int .i64 DL) (.slice a1 c.inputs.length c1) (.slice a2 c.latches.length c2) (.slice a3 c.outputs.length c3) (.slice a4 c.bads.length c4) (.slice a5 c.invars.length c5) (.slice a6 c.ands.length c6) (.slice a7 c.names.length c7)
            have HG := Lib.hid hG
            have hPF := Lib.hid (hW.out _ hG)
            have hFb := Lib.hid (HB.out.grown hG HB.out.size fun j e => by cases e; exact Nat.le_succ _)
            have q0 := hR.cell 0 _ rfl
            have q1 := hR.cell 1 _ rfl
            have q2 := hR.cell 2 _ rfl
            have q3 := hR.cell 3 _ rfl
            have q4 := hR.cell 4 _ rfl
            have q5 := hR.cell 5 _ rfl
            have q6 := hR.cell 6 _ rfl
            have q7 := hR.cell 7 _ rfl
            unfold set8 at q0 q1 q2 q3 q4 q5 q6 q7
            clear hR hG hown hgr hrow hk hg hlt hW
            go_wp2_with fail
            refine bodyPost_ret (v := .tuple #[.agg #[.int .i64 DL, .slice a1 c.inputs.length c1, .slice a2 c.latches.length c2, .slice a3 c.outputs.length c3, .slice a4 c.bads.length c4, .slice a5 c.invars.length c5, .slice a6 c.ands.length c6, .slice a7 c.names.length c7], .int .i64 0]) (by simp [results, Try.results12, go_sem, q0, q1, q2, q3, q4, q5, q6, q7]) rfl ?_
            exact ⟨_, by rw [eE.out], by rw [eD.out]; exact ⟨_, _, _, _, _, _, _, by rw [HDL.out]; rfl, hPF.out, by show rng (c.defs.length : Int); unfold rng; have := hdf.out; omega⟩, hFb.out⟩

end Go.Proofs.Ytjcaejdokillgaa
