/- Contracts: strings.Split at one octet, strings.HasPrefix at one octet, slices.Clone at texts; a text's witness. -/
import Derived.Test.YtfjejjdkogfelaaDoorShelf2
import Derived.Test.YtfjejjdkogfelaaDoorPlainX2
import Derived.Test.YtfjejjdkogfelaaDoorWalkX5
import Derived.Laws.Tables
namespace Go.Proofs.YtfjejjdkogfelaaDoor
open Go.RowKit Go.Shelf
attribute [local simp] mk_get

theorem splitB_cut (c : UInt8) (s : List UInt8) : (Lib.splitB ⟨#[c]⟩ 0 (Lib.countB ⟨s.toArray⟩ ⟨#[c]⟩) ⟨s.toArray⟩) = (PS.cut c s).map fun l => ⟨l.toArray⟩ := by
  have h := Lib.splitB_data ⟨#[c]⟩ 0 (Lib.countB ⟨s.toArray⟩ ⟨#[c]⟩) ⟨s.toArray⟩
  have e : Lib.countB ⟨s.toArray⟩ ⟨#[c]⟩ = Lib.count s [c] := by simp [Lib.countB]
  rw [e] at h ⊢
  have h2 : (Lib.splitB ⟨#[c]⟩ 0 (Lib.count s [c]) ⟨s.toArray⟩).map (·.data.toList) = PS.cut c s := by
    rw [h]
    exact PS.splitK_cut c s
  rw [← h2, List.map_map]
  symm
  rw [List.map_congr_left (g := id) (fun x _ => by cases x; simp [Function.comp]), List.map_id]

theorem Split_one (c : UInt8) (s : List UInt8) (m : Int) (w : World) (hs : s.length ≤ 1048576) (hm : w.cell? ⟨0, 0, none⟩ = some (.int .i64 m)) :
    Calls Tryd.prog 17 #[.string ⟨s.toArray⟩, .string ⟨#[c]⟩] w fun e w' => ∃ g, e = .returned (.slice (some ⟨g, 0, none⟩) (PS.cut c s).length (PS.cut c s).length) ∧
      (∀ j (h : j < (PS.cut c s).length), w'.cell? ⟨g, j, none⟩ = some (strV (PS.cut c s)[j])) ∧ Below w.heap.size w w' := by
  have hsz : (ByteArray.mk s.toArray).size = s.length := by simp [ByteArray.size]
  have h := Tryd.strings_Split ⟨s.toArray⟩ ⟨#[c]⟩ m w (by omega) hm (Nat.le_refl 1)
  have hl := Lib.splitB_all ⟨#[c]⟩ (Nat.le_refl 1) 0 _ ⟨s.toArray⟩ rfl
  rw [splitB_cut, List.length_map] at hl
  rw [splitB_cut, List.map_map, ← hl] at h
  refine h.mono ?_
  rintro e w' ⟨rfl, rfl⟩
  refine ⟨_, rfl, fun j hj => ?_, (Below.refl _ _).alloc (Nat.le_refl _) _⟩
  rw [World.cell?_alloc_mark]
  simp [hj, strV]

theorem HasPrefix_one (s : List UInt8) (c : UInt8) (w : World) : Calls Tryd.prog 18 #[.string ⟨s.toArray⟩, .string ⟨#[c]⟩] w fun e w' => e = .returned (.bool (s.head? == some c)) ∧ w = w' := by
  have h := Tryd.strings_HasPrefix ⟨s.toArray⟩ ⟨#[c]⟩ w
  have e : Lib.hasPrefix s [c] = (s.head? == some c) := by
    cases s with
    | nil => rfl
    | cons x r => simp [Lib.hasPrefix, List.isPrefixOf, Bool.beq_comm]
  have h2 : Calls Tryd.prog 18 #[.string ⟨s.toArray⟩, .string ⟨#[c]⟩] w fun e w' => e = .returned (.bool (Lib.hasPrefix s [c])) ∧ w' = w := h
  rw [e] at h2
  exact h2.mono fun _ _ ⟨h, k⟩ => ⟨h, k.symm⟩

/-- a witness in a variable -/
def Row3 (y : World) (g : Nat) (c0 c1 c2 : Value) : Prop := y.heap[g]? = some (.cells #[c0, c1, c2] 24 (0, 0))
theorem Row3.lt {y : World} {g : Nat} {c0 c1 c2 : Value} (h : Row3 y g c0 c1 c2) : g < y.heap.size := (Array.getElem?_eq_some_iff.1 h).1
theorem Row3.mono {y y' : World} {g : Nat} {c0 c1 c2 : Value} (h : Row3 y g c0 c1 c2) (hb : Below y.heap.size y y') : Row3 y' g c0 c1 c2 := by
  have := hb.block g h.lt
  unfold Row3
  rw [this]; exact h
theorem Row3.box {y : World} {g : Nat} {c0 c1 c2 : Value} (h : Row3 y g c0 c1 c2) : Box3 y g c0 c1 c2 := by
  refine ⟨?_, ?_, ?_⟩ <;> (rw [cell_of_row y g _ _ _ _ h]; rfl)
theorem Row3.new (w : World) (c0 c1 c2 : Value) : Row3 (w.alloc (.cells #[c0, c1, c2] 24)) w.heap.size c0 c1 c2 := by
  unfold Row3 World.alloc
  simp
theorem Row3.frozen {y : World} {g : Nat} {c0 c1 c2 : Value} (h : Row3 y g c0 c1 c2) (j : Nat) : y.frozen? ⟨g, j, none⟩ = false := by
  unfold Row3 at h
  simp only [World.frozen?, h]
  simp

theorem set_grown (y : World) (g j : Nat) (d : Value) : y.grownBy (y.setCell ⟨g, j, none⟩ d) (some g) :=
  ⟨rfl, rfl, rfl, by simp, fun k _ hk => heap_setCell_other y ⟨g, j, none⟩ k _ (fun e => hk (by simp [e]))⟩

theorem Row3.set0 {y : World} {g : Nat} {c0 c1 c2 : Value} (h : Row3 y g c0 c1 c2) (d : Value) : Row3 (y.setCell ⟨g, 0, none⟩ d) g d c1 c2 := by
  unfold Row3
  rw [setCell_eq_setRow y g 0 _ _ (0, 0) _ h]
  exact setRow_heap y g _ _ _ _ h
theorem Row3.set1 {y : World} {g : Nat} {c0 c1 c2 : Value} (h : Row3 y g c0 c1 c2) (d : Value) : Row3 (y.setCell ⟨g, 1, none⟩ d) g c0 d c2 := by
  unfold Row3
  rw [setCell_eq_setRow y g 1 _ _ (0, 0) _ h]
  exact setRow_heap y g _ _ _ _ h
theorem Row3.set2 {y : World} {g : Nat} {c0 c1 c2 : Value} (h : Row3 y g c0 c1 c2) (d : Value) : Row3 (y.setCell ⟨g, 2, none⟩ d) g c0 c1 d := by
  unfold Row3
  rw [setCell_eq_setRow y g 2 _ _ (0, 0) _ h]
  exact setRow_heap y g _ _ _ _ h

/-- a witness is stored into its variable, cell by cell -/
def set3 (y : World) (g : Nat) (d0 d1 d2 : Value) : World := ((y.setCell ⟨g, 0, none⟩ d0).setCell ⟨g, 1, none⟩ d1).setCell ⟨g, 2, none⟩ d2
theorem Row3.put {y : World} {g : Nat} {c0 c1 c2 : Value} (h : Row3 y g c0 c1 c2) (d0 d1 d2 : Value) :
    (y.cell? ⟨g, 0, none⟩ = some c0 ∧ y.frozen? ⟨g, 0, none⟩ = false ∧ (y.setCell ⟨g, 0, none⟩ d0).cell? ⟨g, 1, none⟩ = some c1 ∧ (y.setCell ⟨g, 0, none⟩ d0).frozen? ⟨g, 1, none⟩ = false ∧
      ((y.setCell ⟨g, 0, none⟩ d0).setCell ⟨g, 1, none⟩ d1).cell? ⟨g, 2, none⟩ = some c2 ∧ ((y.setCell ⟨g, 0, none⟩ d0).setCell ⟨g, 1, none⟩ d1).frozen? ⟨g, 2, none⟩ = false) ∧
    Row3 (set3 y g d0 d1 d2) g d0 d1 d2 ∧ y.grownBy (set3 y g d0 d1 d2) (some g) := by
  have h0 := h.set0 d0
  have h1 := h0.set1 d1
  have h2 := h1.set2 d2
  exact ⟨⟨h.box.1, h.frozen 0, h0.box.2.1, h0.frozen 1, h1.box.2.2, h1.frozen 2⟩, h2, (set_grown _ _ _ _).trans ((set_grown _ _ _ _).trans (set_grown _ _ _ _))⟩

/-- what parsing yields -/
def Parsed (s : List UInt8) (w : World) (e : Ending) (w' : World) : Prop :=
  ∃ (b : Int) (st : List UInt8) (v : Value) (ins : List (List UInt8)), e = .returned (.tuple #[.agg #[.int .i64 b, .string ⟨st.toArray⟩, v], .int .i64 (PW.parseE s)]) ∧ Strs w' v ins ∧ Below w.heap.size w w' ∧
    (PW.pOk s = true → b = (PW.pBad s).1 ∧ st = PW.pSt s ∧ ins = PW.pIns s) ∧ (PW.pOk s = false → st = [] ∧ ins = [])

theorem Strs.nil (w : World) : Strs w (.slice none 0 0) [] := ⟨Cells.nil w 1, fun s hs => by cases hs⟩

theorem Clone_strs (b off n c : Nat) (l : List (List UInt8)) (w : World) (hl : l.length = n) (hn : n * 16 ≤ 140737488355328) (hc : ∀ j (h : j < l.length), w.cell? ⟨b, off + j, none⟩ = some (strV l[j])) :
    Calls Tryd.prog 20 #[.slice (some ⟨b, off, none⟩) n c] w fun e w' => ∃ v', e = .returned v' ∧ w'.ownsRow w.heap.size 9 1 v' n (l.map strV) ∧ Below w.heap.size w w' := by
  have h := Tryd.slices_Clone_string b off n c (l.map fun s => ⟨s.toArray⟩) w (by simp [hl]) hn (fun j hj => by
    have hj' : j < l.length := by simpa using hj
    rw [hc j hj']
    simp [strV, hj'])
  refine h.mono ?_
  rintro e w' ⟨v', rfl, h1, _, h2⟩
  refine ⟨v', rfl, ?_, h2⟩
  rw [List.take_of_length_le (by simp [hl]), List.map_map] at h1
  exact h1

set_option maxRecDepth 100000 in
set_option maxHeartbeats 8000000 in
theorem witParse_any (s : List UInt8) (m : Int) (w : World) (hs : s.length ≤ 1048576) (hm : w.cell? ⟨0, 0, none⟩ = some (.int .i64 m)) :
    Calls Tryd.prog 10 #[.string ⟨s.toArray⟩] w (Parsed s w) := by
  have hb0 := Lib.hid ((Below.refl w.heap.size w).alloc (Nat.le_refl _) (.cells #[.int .i64 0, .string ⟨#[]⟩, .slice none 0 0] 24))
  have hr0 := Lib.hid (Row3.new w (.int .i64 0) (.string ⟨#[]⟩) (.slice none 0 0))
  have hSp := Lib.hid (Split_one 10 s m (w.alloc (.cells #[.int .i64 0, .string ⟨#[]⟩, .slice none 0 0] 24)) hs ((hb0.out.cell (World.block_lt_of_cell? w _ hm)).trans hm))
  have hLn := PS.cut_len 10 s
  have hpc := PS.cut_piece 10 s
  obtain ⟨L, hL⟩ : ∃ L, L = PS.cut 10 s := ⟨_, rfl⟩
  rw [← hL] at hSp hLn hpc
  have HPC := Lib.hid hpc
  clear hpc
  have HL := Lib.hid hL
  clear hL
  go_enter Tryd.func10, Tryd.ntmps10
  go_wp2_with fail
  refine hSp.out.mono ?_
  rintro e w1 ⟨g, rfl, hcl, hb1⟩
  have hbA := Lib.hid (Below.of hb0.out hb1)
  have hrow := Lib.hid (hr0.out.mono hb1)
  have hr00 := hr0.out.lt
  have hgl : w.heap.size < w1.heap.size := hrow.out.lt
  have HC := Lib.hid hcl
  clear hb0 hr0 hSp hb1 hcl hr00
  by_cases hn6 : L.length < 6
  · have d1 : decide ((L.length : Int) < 6) = true := decide_eq_true (by omega)
    have hno : Hid (PW.pOk s = false) := by
      show _ = _
      rw [PW.pOk, PW.lead, decide_eq_false (by show ¬ 6 ≤ (PS.cut 10 s).length; rw [← HL.out]; omega)]; rfl
    clear hn6
    have hE := Lib.hid (PW.parseE_no hno.out)
    obtain ⟨⟨k0, k1, k2, k3, k4, k5⟩, hR, hG⟩ := hrow.out.put (.int .i64 0) (.string ⟨#[]⟩) (.slice none 0 0)
    have HG := Lib.hid hG
    obtain ⟨q0, q1, q2⟩ := hR.box
    unfold set3 at q0 q1 q2
    clear hR hG
    go_wp2_with fail
    refine bodyPost_ret (v := .tuple #[.agg #[.int .i64 0, .string ⟨#[]⟩, .slice none 0 0], .int .i64 33]) (by simp [results, Tryd.results10, go_sem, q0, q1, q2]) rfl ?_
    exact ⟨0, [], .slice none 0 0, [], by rw [hE.out], Strs.nil _, hbA.out.grown HG.out (hbA.out).size fun k e => by cases e; exact Nat.le_refl _, fun h => absurd h (by rw [hno.out]; decide), fun _ => ⟨rfl, rfl⟩⟩
  have d1 : decide ((L.length : Int) < 6) = false := decide_eq_false (by omega)
  obtain ⟨m1, hm1⟩ : ∃ m1, m1 = L.length - 1 := ⟨_, rfl⟩
  obtain ⟨m2, hm2⟩ : ∃ m2, m2 = L.length - 2 := ⟨_, rfl⟩
  have em1 : (L.length : Int) - 1 = (m1 : Int) := by omega
  have em2 : (L.length : Int) - 2 = (m2 : Int) := by omega
  have c0 := HC.out 0 (by omega)
  have c1 := HC.out 1 (by omega)
  have c2 := HC.out 2 (by omega)
  have cz := HC.out m1 (by omega)
  have cd := HC.out m2 (by omega)
  have hlead : PW.lead s = ((L[0]'(by omega) == [49]) && (L[m1]'(by omega) == []) && (L[m2]'(by omega) == [46]) && ((L[1]'(by omega)).head? == some 98)) := by
    unfold PW.lead PW.L
    rw [← HL.out, decide_eq_true (by omega : 6 ≤ L.length), ← hm1, ← hm2, List.getElem?_eq_getElem (by omega), List.getElem?_eq_getElem (by omega : m1 < L.length), List.getElem?_eq_getElem (by omega : m2 < L.length), List.getElem?_eq_getElem (by omega : 1 < L.length)]
    simp
  have hst : Hid (PW.pSt s = L[2]'(by omega)) := by
    show _ = _
    unfold PW.pSt PW.L
    rw [← HL.out, List.getElem?_eq_getElem (by omega)]; rfl
  have hpb : Hid (PW.pBad s = P01.parse ((L[1]'(by omega)).drop 1)) := by
    show _ = _
    unfold PW.pBad PW.L
    rw [← HL.out, List.getElem?_eq_getElem (by omega)]; rfl
  have hpi : Hid (PW.pIns s = (L.drop 3).take (L.length - 5)) := by
    show _ = _
    unfold PW.pIns PW.L
    rw [← HL.out]
  have hl1 := HPC.out _ (List.getElem_mem (show 1 < L.length by omega))
  have hl2 := HPC.out _ (List.getElem_mem (show 2 < L.length by omega))
  generalize hx0 : L[0]'(by omega) = x0 at *
  generalize hx1 : L[1]'(by omega) = x1 at *
  generalize hx2 : L[2]'(by omega) = x2 at *
  generalize hxz : L[m1]'(by omega) = xz at *
  generalize hxd : L[m2]'(by omega) = xd at *
  have hLEN : Hid (6 ≤ L.length ∧ m1 = L.length - 1 ∧ m2 = L.length - 2) := ⟨by omega, hm1, hm2⟩
  have hi0 : (0 : Int) < (L.length : Int) := by omega
  have hi1 : (1 : Int) < (L.length : Int) := by omega
  have hi2 : (2 : Int) < (L.length : Int) := by omega
  have hiz : (m1 : Int) < (L.length : Int) := by omega
  have hid : (m2 : Int) < (L.length : Int) := by omega
  simp only [strV] at c0 c1 c2 cz cd
  clear hx0 hx1 hxz hxd hx2 hn6 hm1 hm2
  by_cases b0 : x0 = [49]
  case neg =>
    have e0 : (x0 != [49]) = true := bne_iff_ne.2 b0
    have e0n : ¬ x0.toArray = #[49] := fun h => b0 (by have := congrArg Array.toList h; simpa using this)
    have hno : Hid (PW.pOk s = false) := by show _ = _; rw [PW.pOk, hlead, beq_eq_false_iff_ne.2 b0]; rfl
    clear hlead
    have hE := Lib.hid (PW.parseE_no hno.out)
    obtain ⟨⟨k0, k1, k2, k3, k4, k5⟩, hR, hG⟩ := hrow.out.put (.int .i64 0) (.string ⟨#[]⟩) (.slice none 0 0)
    have HG := Lib.hid hG
    obtain ⟨q0, q1, q2⟩ := hR.box
    unfold set3 at q0 q1 q2
    clear hR hG
    go_wp2_with fail
    refine bodyPost_ret (v := .tuple #[.agg #[.int .i64 0, .string ⟨#[]⟩, .slice none 0 0], .int .i64 33]) (by simp [results, Tryd.results10, go_sem, q0, q1, q2]) rfl ?_
    exact ⟨0, [], .slice none 0 0, [], by rw [hE.out], Strs.nil _, hbA.out.grown HG.out (hbA.out).size fun k e => by cases e; exact Nat.le_refl _, fun h => absurd h (by rw [hno.out]; decide), fun _ => ⟨rfl, rfl⟩⟩
  subst b0
  by_cases bz : xz = []
  case neg =>
    have ez : (xz != []) = true := bne_iff_ne.2 bz
    have ezn : ¬ xz.toArray = #[] := fun h => bz (by have := congrArg Array.toList h; simpa using this)
    have hno : Hid (PW.pOk s = false) := by show _ = _; rw [PW.pOk, hlead, beq_eq_false_iff_ne.2 bz, Bool.and_false]; rfl
    clear hlead
    have hE := Lib.hid (PW.parseE_no hno.out)
    obtain ⟨⟨k0, k1, k2, k3, k4, k5⟩, hR, hG⟩ := hrow.out.put (.int .i64 0) (.string ⟨#[]⟩) (.slice none 0 0)
    have HG := Lib.hid hG
    obtain ⟨q0, q1, q2⟩ := hR.box
    unfold set3 at q0 q1 q2
    clear hR hG
    go_wp2_with fail
    refine bodyPost_ret (v := .tuple #[.agg #[.int .i64 0, .string ⟨#[]⟩, .slice none 0 0], .int .i64 33]) (by simp [results, Tryd.results10, go_sem, q0, q1, q2]) rfl ?_
    exact ⟨0, [], .slice none 0 0, [], by rw [hE.out], Strs.nil _, hbA.out.grown HG.out (hbA.out).size fun k e => by cases e; exact Nat.le_refl _, fun h => absurd h (by rw [hno.out]; decide), fun _ => ⟨rfl, rfl⟩⟩
  subst bz
  by_cases bd : xd = [46]
  case neg =>
    have ed : (xd != [46]) = true := bne_iff_ne.2 bd
    have edn : ¬ xd.toArray = #[46] := fun h => bd (by have := congrArg Array.toList h; simpa using this)
    have hno : Hid (PW.pOk s = false) := by show _ = _; rw [PW.pOk, hlead, beq_eq_false_iff_ne.2 bd, Bool.and_false]; rfl
    clear hlead
    have hE := Lib.hid (PW.parseE_no hno.out)
    obtain ⟨⟨k0, k1, k2, k3, k4, k5⟩, hR, hG⟩ := hrow.out.put (.int .i64 0) (.string ⟨#[]⟩) (.slice none 0 0)
    have HG := Lib.hid hG
    obtain ⟨q0, q1, q2⟩ := hR.box
    unfold set3 at q0 q1 q2
    clear hR hG
    go_wp2_with fail
    refine bodyPost_ret (v := .tuple #[.agg #[.int .i64 0, .string ⟨#[]⟩, .slice none 0 0], .int .i64 33]) (by simp [results, Tryd.results10, go_sem, q0, q1, q2]) rfl ?_
    exact ⟨0, [], .slice none 0 0, [], by rw [hE.out], Strs.nil _, hbA.out.grown HG.out (hbA.out).size fun k e => by cases e; exact Nat.le_refl _, fun h => absurd h (by rw [hno.out]; decide), fun _ => ⟨rfl, rfl⟩⟩
  subst bd
  have hP := Lib.hid (HasPrefix_one x1 98 w1)
  cases hh : (x1.head? == some 98) with
  | false =>
    rw [hh] at hP
    have hno : Hid (PW.pOk s = false) := by show _ = _; rw [PW.pOk, hlead, hh, Bool.and_false]; rfl
    clear hlead hh
    go_wp2_with fail
    refine hP.out.mono ?_
    rintro e w2 ⟨rfl, rfl⟩
    have hE := Lib.hid (PW.parseE_no hno.out)
    obtain ⟨⟨k0, k1, k2, k3, k4, k5⟩, hR, hG⟩ := hrow.out.put (.int .i64 0) (.string ⟨#[]⟩) (.slice none 0 0)
    have HG := Lib.hid hG
    obtain ⟨q0, q1, q2⟩ := hR.box
    unfold set3 at q0 q1 q2
    clear hR hG
    go_wp2_with fail
    refine bodyPost_ret (v := .tuple #[.agg #[.int .i64 0, .string ⟨#[]⟩, .slice none 0 0], .int .i64 33]) (by simp [results, Tryd.results10, go_sem, q0, q1, q2]) rfl ?_
    exact ⟨0, [], .slice none 0 0, [], by rw [hE.out], Strs.nil _, hbA.out.grown HG.out (hbA.out).size fun k e => by cases e; exact Nat.le_refl _, fun h => absurd h (by rw [hno.out]; decide), fun _ => ⟨rfl, rfl⟩⟩
  | true =>
    rw [hh] at hP
    have HLD : Hid (PW.lead s = true) := by show _ = _; rw [hlead, hh]; rfl
    obtain ⟨r, rfl⟩ : ∃ r, x1 = 98 :: r := by
      cases x1 with
      | nil => cases hh
      | cons c r =>
        have : c = 98 := by simpa using hh
        subst this
        exact ⟨r, rfl⟩
    have hPa := Lib.hid fun w1 => Parse_any r w1
    have hpb2 : Hid (PW.pBad s = P01.parse r) := hpb.out
    have hext : (ByteArray.mk (98 :: r).toArray).extract 1 (r.length + 1) = ⟨r.toArray⟩ := by
      apply ByteArray.ext
      simp only [ByteArray.data_extract]
      apply Array.ext'
      simp
    clear hh hpb hlead
    go_wp2_with fail
    refine hP.out.mono ?_
    rintro e w2 ⟨rfl, rfl⟩
    have hrl : r.length ≤ 9223372036854775807 := by simp at hl1; omega
    go_wp2_with fail
    refine (hPa.out _ hrl).mono ?_
    rintro e w3 ⟨rfl, hb3⟩
    obtain ⟨B, hB⟩ : ∃ B, B = (P01.parse r).1 := ⟨_, rfl⟩
    obtain ⟨E, hE⟩ : ∃ E, E = (P01.parse r).2 := ⟨_, rfl⟩
    rw [← hB, ← hE]
    have hBE : Hid (PW.pBad s = (B, E)) := by show _ = _; rw [hpb2.out, hB, hE]
    have hbB := Lib.hid (Below.of hbA.out hb3)
    have hrow3 := Lib.hid (hrow.out.mono hb3)
    have hgl3 : w.heap.size < w3.heap.size := hrow3.out.lt
    have HC3 : Hid (∀ j (h : j < L.length), w3.cell? ⟨g, j, none⟩ = some (strV L[j])) := fun j hj => (hb3.cell (World.block_lt_of_cell? w1 _ (HC.out j hj))).trans (HC.out j hj)
    have hc2 : w3.cell? ⟨g, 2, none⟩ = some (.string ⟨x2.toArray⟩) := (hb3.cell (World.block_lt_of_cell? w1 _ c2)).trans c2
    have hsl : Hid (∀ y : World, Below w3.heap.size w3 y → y.cell? ⟨g, 2, none⟩ = some (.string ⟨x2.toArray⟩)) := fun y hy => (hy.cell (World.block_lt_of_cell? w3 _ hc2)).trans hc2
    obtain ⟨I, hI⟩ : ∃ I, I = (L.drop 3).take (L.length - 5) := ⟨_, rfl⟩
    have hIl : I.length = m2 - 3 := by rw [hI, List.length_take, List.length_drop]; have := hLEN.out; omega
    have hIc : Hid (∀ y : World, Below w3.heap.size w3 y → ∀ j (h : j < I.length), y.cell? ⟨g, 3 + j, none⟩ = some (strV I[j])) := fun y hy j hj => by
      have hj' : 3 + j < L.length := by have := hLEN.out; omega
      have h1 := HC3.out (3 + j) hj'
      have e : I[j] = L[3 + j] := by simp only [hI, List.getElem_take, List.getElem_drop]
      rw [e]
      exact (hy.cell (World.block_lt_of_cell? w3 _ h1)).trans h1
    have hpi2 : Hid (PW.pIns s = I) := by show _ = _; rw [hpi.out, hI]
    have HIL := Lib.hid hIl
    have hpcI : Hid (∀ p ∈ I, p.length ≤ 9223372036854775807) := fun p hp => by
      have := HPC.out p (by rw [hI] at hp; exact List.mem_of_mem_drop (List.mem_of_mem_take hp))
      omega
    have hm2 : 3 ≤ m2 := by have := hLEN.out; omega
    have hm2' : (3 : Int) ≤ (m2 : Int) := by omega
    have hm2L : m2 ≤ L.length := by omega
    have hm2L' : (m2 : Int) ≤ (L.length : Int) := by omega
    clear hPa hP hpb2 hpi hrow hb3 c0 c1 c2 cz cd HC HC3 hc2 hext hB hE hI hIl
    obtain ⟨W3, hW3⟩ : ∃ W, W = w3 := ⟨_, rfl⟩
    subst hW3
    go_wp2_with fail
    refine wp_region_makes 11 [isV (.int .i64 B), isV (.slice (some ⟨g, 0, none⟩) L.length L.length), isV (.pointer (some ⟨g, 2, none⟩)), isV (strV x2), isV (.slice (some ⟨g, 0, none⟩) L.length L.length), isV (.int .i64 (L.length : Int)), isV (.int .i64 (m2 : Int)),
      isV (.slice (some ⟨g, 3, none⟩) (m2 - 3) (L.length - 3)), (fun v y => y.ownsRow W3.heap.size 9 1 v (m2 - 3) (I.map strV)), (fun v y => ∃ u, v = .agg #[.int .i64 B, strV x2, u] ∧ y.ownsRow W3.heap.size 9 1 u (m2 - 3) (I.map strV)),
      (fun v y => ∃ q, v = .pointer (some ⟨q, 0, none⟩) ∧ W3.heap.size ≤ q ∧ Row3 y q (.int .i64 0) (.string ⟨#[]⟩) (.slice none 0 0))]
      [some 53, some 54, some 55, some 56, some 57, some 58, some 59, some 60, some 61, some 62, some 8] (by kernel_rfl) (by kernel_rfl) rfl (by
        intro q hq
        simp only [List.mem_cons, List.mem_nil_iff, or_false] at hq
        rcases hq with rfl | rfl | rfl | rfl | rfl | rfl | rfl | rfl | rfl | rfl | rfl <;> first
          | exact isV_keeps _ | exact owns_keeps _ _ _ _ _ | exact fun _ _ _ hb ⟨u, e, h⟩ => ⟨u, e, owns_keeps _ _ _ _ _ _ _ _ hb h⟩ | exact fun _ _ _ hb ⟨q, e, h1, h2⟩ => ⟨q, e, h1, h2.mono hb⟩) ?_ ?_
    · refine ⟨fun vs y hy hd => ?_, fun vs y hy hd => ?_, fun vs y hy hd => ?_, fun vs y hy hd => ?_, fun vs y hy hd => ?_, fun vs y hy hd => ?_, fun vs y hy hd => ?_, fun vs y hy hd => ?_, fun vs y hy hd => ?_, fun vs y hy hd => ?_, fun vs y hy hd => ?_, trivial⟩
      · simp only [opens, Nat.reduceAdd]
        go_wp2_with fail
        exact ⟨_, rfl, Below.refl _ _, rfl⟩
      · simp only [opens, Nat.reduceAdd]
        go_wp2_with fail
        exact ⟨_, rfl, Below.refl _ _, rfl⟩
      · have g0 : vs 1 = .slice (some ⟨g, 0, none⟩) L.length L.length := hd 1 (by decide) (by kernel_rfl)
        simp only [opens, Nat.reduceAdd]
        rw [g0]
        go_wp2_with fail
        exact ⟨_, rfl, Below.refl _ _, rfl⟩
      · have g0 : vs 2 = .pointer (some ⟨g, 2, none⟩) := hd 2 (by decide) (by kernel_rfl)
        have hc := hsl.out y hy
        simp only [opens, Nat.reduceAdd]
        rw [g0]
        go_wp2_with fail
        exact ⟨_, rfl, Below.refl _ _, rfl⟩
      · simp only [opens, Nat.reduceAdd]
        go_wp2_with fail
        exact ⟨_, rfl, Below.refl _ _, rfl⟩
      · simp only [opens, Nat.reduceAdd]
        go_wp2_with fail
        exact ⟨_, rfl, Below.refl _ _, rfl⟩
      · have g0 : vs 5 = .int .i64 (L.length : Int) := hd 5 (by decide) (by kernel_rfl)
        simp only [opens, Nat.reduceAdd]
        rw [g0]
        go_wp2_with fail
        exact ⟨_, rfl, Below.refl _ _, rfl⟩
      · have g0 : vs 4 = .slice (some ⟨g, 0, none⟩) L.length L.length := hd 4 (by decide) (by kernel_rfl)
        have g1 : vs 6 = .int .i64 (m2 : Int) := hd 6 (by decide) (by kernel_rfl)
        simp only [opens, Nat.reduceAdd]
        rw [g0, g1]
        go_wp2_with fail
        exact ⟨_, rfl, Below.refl _ _, rfl⟩
      · have g0 : vs 7 = .slice (some ⟨g, 3, none⟩) (m2 - 3) (L.length - 3) := hd 7 (by decide) (by kernel_rfl)
        have hCl := Lib.hid (Clone_strs g 3 (m2 - 3) (L.length - 3) I y HIL.out (by omega) (hIc.out y hy))
        simp only [opens, Nat.reduceAdd]
        rw [g0]
        go_wp2_with (go_at_call 20; refine hCl.out.mono ?_; rintro e w4 ⟨v', rfl, hown, hb4⟩)
        exact ⟨_, rfl, hb4, World.ownsRow.mono hown hy.size⟩
      · have g0 : vs 0 = .int .i64 B := hd 0 (by decide) (by kernel_rfl)
        have g1 : vs 3 = strV x2 := hd 3 (by decide) (by kernel_rfl)
        have g2 : y.ownsRow W3.heap.size 9 1 (vs 8) (m2 - 3) (I.map strV) := hd 8 (by decide) (by kernel_rfl)
        simp only [opens, Nat.reduceAdd]
        rw [g0, g1]
        generalize vs 8 = v8 at *
        have G2 := Lib.hid g2
        obtain ⟨_, ⟨rfl, _⟩ | ⟨gu, cu, cur, rfl, _⟩⟩ := g2
        · simp only [strV]
          go_wp2_with fail
          exact ⟨_, rfl, Below.refl _ _, _, rfl, G2.out⟩
        · simp only [strV]
          go_wp2_with fail
          exact ⟨_, rfl, Below.refl _ _, _, rfl, G2.out⟩
      · simp only [opens, Nat.reduceAdd]
        go_wp2_with fail
        exact ⟨_, rfl, (Below.refl _ _).alloc (Nat.le_refl _) _, _, rfl, hy.size, Row3.new y _ _ _⟩
    intro vs y hy hf
    obtain ⟨u, g0, g1⟩ : ∃ u, vs 9 = .agg #[.int .i64 B, strV x2, u] ∧ y.ownsRow W3.heap.size 9 1 u (m2 - 3) (I.map strV) := hf 9 (by decide)
    obtain ⟨q, g2, g3, g4⟩ : ∃ q, vs 10 = .pointer (some ⟨q, 0, none⟩) ∧ W3.heap.size ≤ q ∧ Row3 y q (.int .i64 0) (.string ⟨#[]⟩) (.slice none 0 0) := hf 10 (by decide)
    have hbC := Lib.hid (Below.of hbB.out hy)
    have hrowy := Lib.hid (hrow3.out.mono hy)
    have HU := Lib.hid g1
    obtain ⟨gu, cu, rfl, hBu, hgu, hncu⟩ := owns_some g1 (by have := hLEN.out; omega)
    have hguq : gu ≠ q := fun e => by
      obtain ⟨_, ⟨h, _⟩ | ⟨g', c', cur, h, _, hh, _⟩⟩ := HU.out
      · cases h
      · cases h
        subst e
        have h2 : y.heap[gu]? = some (.cells _ 24 (0, 0)) := g4
        rw [hh] at h2
        simp at h2
    have hgw : w.heap.size < W3.heap.size := hgl3
    obtain ⟨⟨k0, k1, k2, k3, k4, k5⟩, hR, hG⟩ := g4.put (.int .i64 B) (.string ⟨x2.toArray⟩) (.slice (some ⟨gu, 0, none⟩) (m2 - 3) cu)
    obtain ⟨V, hV⟩ : ∃ V, V = set3 y q (.int .i64 B) (.string ⟨x2.toArray⟩) (.slice (some ⟨gu, 0, none⟩) (m2 - 3) cu) := ⟨_, rfl⟩
    have HV : Hid (V = ((y.setCell ⟨q, 0, none⟩ (.int .i64 B)).setCell ⟨q, 1, none⟩ (.string ⟨x2.toArray⟩)).setCell ⟨q, 2, none⟩ (.slice (some ⟨gu, 0, none⟩) (m2 - 3) cu)) := hV
    rw [← hV] at hR hG
    have hbV := Lib.hid (hbC.out.grown hG hbC.out.size fun k e => by cases e; have := hbB.out.size; omega)
    have hownV := Lib.hid (HU.out.kept hG (Or.inr fun e => hguq (by simpa [Value.ownBlock] using e)))
    have hrowV : Hid (Row3 V w.heap.size (.int .i64 0) (.string ⟨#[]⟩) (.slice none 0 0)) := by
      show V.heap[w.heap.size]? = _
      rw [hG.block _ hrowy.out.lt (fun e => by have e2 := Option.some.inj e; omega)]
      exact hrowy.out
    have hRq := Lib.hid hR
    have hSV : Hid (Strs V (.slice (some ⟨gu, 0, none⟩) (m2 - 3) cu) I) := ⟨Cells.of_owns (by rw [HIL.out]; exact hownV.out), hpcI.out⟩
    have hx2l : x2.length ≤ 9223372036854775807 := by omega
    simp only [opens, Nat.reduceAdd]
    rw [g0, g2]
    simp only [strV]
    have hguw : Hid (gu ≠ w.heap.size) := by show _ ≠ _; omega
    have hqw : Hid (w.heap.size ≠ q) := by show _ ≠ _; omega
    clear hV hR hG hbC HU g0 g1 g3 g4 hrowy hBu hgu hncu hguq hrow3 hbB hsl hIc hy hgw hgl hgl3 hl1 hl2
    by_cases hE0 : E = 0
    · subst hE0
      have hpok : Hid (PW.pOk s = PW.fits B x2 I) := by
        show _ = _
        rw [PW.pOk, HLD.out, hBE.out, hst.out, hpi2.out]; rfl
      have hF := Lib.hid (witFits_any B x2 I _ V hSV.out hx2l)
      obtain ⟨q0, q1, q2⟩ := hRq.out.box
      rw [HV.out] at q0 q1 q2
      go_wp2_with fail
      rw [← HV.out]
      clear q0 q1 q2 k0 k1 k2 k3 k4 k5
      cases hf : PW.fits B x2 I with
      | false =>
        rw [hf] at hF hpok
        refine hF.out.mono ?_
        rintro e w4 ⟨rfl, hb4⟩
        have hrow4 := Lib.hid (hrowV.out.mono hb4)
        have hb5 := Lib.hid (Below.of hbV.out hb4)
        have hno : Hid (PW.pOk s = false) := hpok.out
        clear hf
        have hE := Lib.hid (PW.parseE_no hno.out)
        obtain ⟨⟨k0, k1, k2, k3, k4, k5⟩, hR, hG⟩ := hrow4.out.put (.int .i64 0) (.string ⟨#[]⟩) (.slice none 0 0)
        have HG := Lib.hid hG
        obtain ⟨q0, q1, q2⟩ := hR.box
        unfold set3 at q0 q1 q2
        clear hR hG
        go_wp2_with fail
        refine bodyPost_ret (v := .tuple #[.agg #[.int .i64 0, .string ⟨#[]⟩, .slice none 0 0], .int .i64 33]) (by simp [results, Tryd.results10, go_sem, q0, q1, q2]) rfl ?_
        exact ⟨0, [], .slice none 0 0, [], by rw [hE.out], Strs.nil _, hb5.out.grown HG.out (hb5.out).size fun k e => by cases e; exact Nat.le_refl _, fun h => absurd h (by rw [hno.out]; decide), fun _ => ⟨rfl, rfl⟩⟩
      | true =>
        rw [hf] at hF hpok
        refine hF.out.mono ?_
        rintro e w4 ⟨rfl, hb4⟩
        have hrow4 := Lib.hid (hrowV.out.mono hb4)
        have hRq4 := Lib.hid (hRq.out.mono hb4)
        have hb5 := Lib.hid (Below.of hbV.out hb4)
        have hown4 := owns_keeps _ _ _ _ _ _ _ _ hb4 hownV.out
        have hyes : Hid (PW.pOk s = true) := hpok.out
        have hE := Lib.hid (PW.parseE_ok hyes.out)
        obtain ⟨⟨k0, k1, k2, k3, k4, k5⟩, hR, hG⟩ := hrow4.out.put (.int .i64 B) (.string ⟨x2.toArray⟩) (.slice (some ⟨gu, 0, none⟩) (m2 - 3) cu)
        have HG := Lib.hid hG
        obtain ⟨p0, p1, p2⟩ := hR.box
        unfold set3 at p0 p1 p2
        obtain ⟨q0, q1, q2⟩ := hRq4.out.box
        have hownZ := Lib.hid (World.ownsRow.kept hown4 hG (Or.inr fun e => hguw.out (by simpa [Value.ownBlock] using e)))
        clear hR hG hown4 hf
        go_wp2_with fail
        refine bodyPost_ret (v := .tuple #[.agg #[.int .i64 B, .string ⟨x2.toArray⟩, .slice (some ⟨gu, 0, none⟩) (m2 - 3) cu], .int .i64 0]) (by simp [results, Tryd.results10, go_sem, p0, p1, p2]) rfl ?_
        exact ⟨B, x2, .slice (some ⟨gu, 0, none⟩) (m2 - 3) cu, I, by rw [hE.out], ⟨Cells.of_owns (by rw [HIL.out]; exact hownZ.out), hpcI.out⟩, hb5.out.grown HG.out hb5.out.size fun k e => by cases e; exact Nat.le_refl _,
          fun _ => ⟨by rw [hBE.out], hst.out.symm, hpi2.out.symm⟩, fun h => absurd h (by rw [hyes.out]; decide)⟩
    · have eE : (E != 0) = true := by simpa using hE0
      have hno : Hid (PW.pOk s = false) := by
        show _ = _
        rw [PW.pOk, hBE.out]
        have : (E == 0) = false := by simpa using hE0
        simp only [this, Bool.and_false, Bool.false_and]
      have hrowL := hrowV.out
      have hbL := hbV.out
      rw [HV.out] at hrowL hbL
      have HRL := Lib.hid hrowL
      have HBL := Lib.hid hbL
      clear hE0 hrowL hbL
      have hE := Lib.hid (PW.parseE_no hno.out)
      obtain ⟨⟨k0, k1, k2, k3, k4, k5⟩, hR, hG⟩ := HRL.out.put (.int .i64 0) (.string ⟨#[]⟩) (.slice none 0 0)
      have HG := Lib.hid hG
      obtain ⟨q0, q1, q2⟩ := hR.box
      unfold set3 at q0 q1 q2
      clear hR hG
      go_wp2_with fail
      refine bodyPost_ret (v := .tuple #[.agg #[.int .i64 0, .string ⟨#[]⟩, .slice none 0 0], .int .i64 33]) (by simp [results, Tryd.results10, go_sem, q0, q1, q2]) rfl ?_
      exact ⟨0, [], .slice none 0 0, [], by rw [hE.out], Strs.nil _, HBL.out.grown HG.out (HBL.out).size fun k e => by cases e; exact Nat.le_refl _, fun h => absurd h (by rw [hno.out]; decide), fun _ => ⟨rfl, rfl⟩⟩

end Go.Proofs.YtfjejjdkogfelaaDoor
