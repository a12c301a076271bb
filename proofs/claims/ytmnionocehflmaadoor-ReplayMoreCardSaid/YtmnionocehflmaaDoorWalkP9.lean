/- The walk of ReplayMore. -/
import Derived.Test.YtmnionocehflmaaDoorWalkP8
namespace Go.Proofs.YtmnionocehflmaaDoor
open Go.RowKit Go.Shelf

theorem infoInts : (Tryd.prog.info? 22).map (fun i => (i.zero, i.size, i.bytes)) = some (some (.slice none 0 0), 1, 24) := by kernel_rfl

theorem lists_more {w' : World} {B : Nat} {v vm : Value} {vs : List Value} {A : List (List Int)} {m : List Int} {n : Nat} (hl : vs.length = A.length) (hn : n = A.length + 1) (ho : w'.ownsRow B 22 1 v n (vs ++ [vm]))
    (hA : ∀ i (h : i < A.length) (h' : i < vs.length), Ints w' vs[i] A[i]) (hm : Ints w' vm m) : Lists w' v (A ++ [m]) := by
  subst hn
  refine ⟨vs ++ [vm], by simp [hl], ?_, fun i h h' => ?_⟩
  · have := Cells.of_owns ho
    rwa [List.length_append]
  · by_cases hi : i < A.length
    · rw [List.getElem_append_left (by omega), List.getElem_append_left hi]
      exact hA i hi (by omega)
    · have e : i = A.length := by simp at h; omega
      subst e
      rw [List.getElem_append_right (by omega), List.getElem_append_right (by omega)]
      simpa using hm

set_option maxRecDepth 100000 in
set_option maxHeartbeats 8000000 in
theorem replayMore_walk (c : PC.Circ) (vc va : Value) (A : List (List Int)) (vm : Value) (more : List Int) (bad : Int) (st : List UInt8) (ins : List (List UInt8)) (vins : Value) (w : World) (h : IsCirc w vc c) (hA : Lists w va A) (hAw : A.length * 24 ≤ 140737488351232)
    (hM : Ints w vm more) (hS : Strs w vins ins) (hs : st.length ≤ 9223372036854775807) (hbr : rng bad) (hroom : (ins.length + 1) * 16 ≤ 140737488355328) :
    Calls Tryd.prog 7 #[vc, va, vm, .agg #[.int .i64 bad, .string ⟨st.toArray⟩, vins]] w fun e w' => e = .returned (.bool true) ∧ Below w.heap.size w w' := by
  have h1 := Lib.hid fun w1 (hb : Below w.heap.size w w1) => repCheck_any c vc va A bad st ins vins w1 (h.mono hb) (hA.mono hb) (hS.mono hb) hs hbr hroom
  have h2 := Lib.hid fun v w1 (hb : Below w.heap.size w w1) (hL : Lists w1 v (A ++ [more])) => repCheck_any c vc v (A ++ [more]) bad st ins vins w1 (h.mono hb) hL (hS.mono hb) hs hbr hroom
  have hPP := Lib.hid (pathE_more c A more bad st ins)
  obtain ⟨vi, vl, vo, vb, vv, va', vn, rfl, hp, hm⟩ := h
  obtain ⟨vs, hvl, hvc, hvi⟩ := hA
  have hone : ∀ u ∈ vs, u.oneCell' = true := fun u hu => by
    obtain ⟨j, hj, rfl⟩ := List.getElem_of_mem hu
    obtain ⟨ao, cap, e, _⟩ := (hvi j (by omega) hj).open_
    rw [e]; rfl
  obtain ⟨am, capm, rfl, _, _, _⟩ := id hM.open_
  have HI := Lib.hid hvi
  have HVC := Lib.hid hvc
  have HM := Lib.hid hM
  have HONE := Lib.hid hone
  clear hp hS hvc hvi hM hone
  generalize pathE c A bad st ins = PA at *
  generalize pathE c (A ++ [more]) bad st ins = PB at *
  have hb0 : Below w.heap.size w (w.alloc (.cells #[.int .i64 c.max, vi, vl, vo, vb, vv, va', vn] 27)) := (Below.refl _ _).alloc (Nat.le_refl _) _
  have hbx0 := Lib.hid (Box8.new w (.int .i64 c.max) vi vl vo vb vv va' vn 27)
  obtain ⟨W0, hW0⟩ : ∃ W, W = w.alloc (.cells #[.int .i64 c.max, vi, vl, vo, vb, vv, va', vn] 27) := ⟨_, rfl⟩
  rw [← hW0] at hb0 hbx0
  have hsz : W0.heap.size = w.heap.size + 1 := by rw [hW0]; simp
  have hby0 := Lib.hid (Box3.new W0 (.int .i64 bad) (.string ⟨st.toArray⟩) vins 46)
  have hb1' := (Below.refl W0.heap.size W0).alloc (Nat.le_refl _) (.cells #[.int .i64 bad, .string ⟨st.toArray⟩, vins] 46)
  obtain ⟨W, hW⟩ : ∃ W, W = W0.alloc (.cells #[.int .i64 bad, .string ⟨st.toArray⟩, vins] 46) := ⟨_, rfl⟩
  rw [← hW] at hby0 hb1'
  rw [hsz] at hby0
  have hbW := Lib.hid (Below.of hb0 hb1')
  have hbx := Lib.hid (hbx0.out.mono hb1')
  have HW0 := Lib.hid hW0
  have HW := Lib.hid hW
  clear hW hW0 hbx0 hb0 hb1' hsz
  go_enter Tryd.func7, Tryd.ntmps7
  go_wp2_with fail
  rw [← HW0.out, ← HW.out]
  refine (alive09_any _).mono ?_
  rintro e w1 ⟨rfl, hb1⟩
  have hbx1 := Lib.hid (hbx.out.mono hb1)
  have hby1 := Lib.hid (hby0.out.mono hb1)
  have hbW1 := Lib.hid (Below.of hbW.out hb1)
  clear hb1 hbx hby0 hbW
  have hown0 : Hid (w1.ownsRow w1.heap.size 22 1 (.slice none 0 0) 0 []) := World.ownsRow_nil _ _ _ _
  have hC1 := Lib.hid (HVC.out.mono hbW1.out)
  go_wp2_with (first | (at_builtin; have _ := hown5; refine app_new rfl _ _ 43 rfl 22 1 24 _ Tryd.underlying43 infoInts rfl (by decide) (w0 := w1) (B0 := w1.heap.size) rfl hown5 hb5 (Nat.le_refl _) hb5.size _ 1 1 rfl (by intro u hu; simp at hu; subst hu; rfl) rfl (by omega) (by omega) ?_; intro v6 w6 hown6 hb6 hbs6 hgr6) | (at_builtin; refine app_cells rfl _ _ 43 rfl 22 1 24 _ Tryd.underlying43 infoInts rfl (by decide) (w0 := w1) (B0 := w1.heap.size) rfl hown0.out (Below.refl _ _) (Nat.le_refl _) (Nat.le_refl _) rfl (by exact hC1.out) HONE.out (by omega) (by omega) ?_; intro v5 w5 hown5 hb5 hbs5 hgr5))
  have hbW6 := Lib.hid (Below.of hbW1.out hb6)
  have hL6 : Hid (Lists w6 v6 (A ++ [more])) := lists_more hvl (by omega) hown6 (fun i h h' => (HI.out i h h').mono hbW6.out) (HM.out.mono hbW6.out)
  have hC1 : ∀ y : Later w6, Calls _ _ _ _ _ := fun y => h1.out y.at_ (Below.of hbW6.out y.below)
  have hC2 : ∀ y : Later w6, Calls _ _ _ _ _ := fun y => h2.out v6 y.at_ (Below.of hbW6.out y.below) (hL6.out.mono y.below)
  clear hown5 hb5 hbs5 hgr5 hown6 hbs6 hgr6
  obtain ⟨q0, q1, q2, q3, q4, q5, q6, q7⟩ := (hbx1.out.mono hb6).later
  obtain ⟨r0, r1, r2⟩ := (hby1.out.mono hb6).later
  clear hb6
  refine wp_region_later (by kernel_rfl) (by kernel_rfl) ?_; (repeat (go_big_quiet_step ((first | (go_at_call 23; with_reducible exact Calls.later (hC1 _)) | (go_at_call 23; with_reducible exact Calls.later (hC2 _)))))); refine wpQuiet_nil ?_; rintro w3 ⟨⟨_, hb3⟩, rfl⟩
  clear q0 q1 q2 q3 q4 q5 q6 q7 r0 r1 r2 hC1 hC2
  by_cases hz : PB = 0
  · have hz1 : (PB != 0) = false := by simp [hz]
    have hz2 : (PA == 0) = true := by simp [hPP.out hz]
    go_wp2_with fail
    go_ret
    exact ⟨rfl, Below.of hbW6.out hb3⟩
  · have hz1 : (PB != 0) = true := by simpa using hz
    go_wp2_with fail
    go_ret
    exact ⟨rfl, Below.of hbW6.out hb3⟩

end Go.Proofs.YtmnionocehflmaaDoor
