/- The walk of WitnessBack. -/
import Derived.Test.YtfjejjdkogfelaaDoorWalkX6
import Derived.Test.YtfjejjdkogfelaaDoorWalkX7
namespace Go.Proofs.YtfjejjdkogfelaaDoor
open Go.RowKit Go.Shelf
attribute [local simp] mk_get

set_option maxHeartbeats 1000000 in
theorem Texts_same (l : List (List UInt8)) (va vb : Value) (w : World) (hA : Strs w va l) (hB : Strs w vb l) :
    Calls Tryd.prog 11 #[va, vb] w fun e w' => e = .returned (.bool true) ∧ Below w.heap.size w w' := by
  obtain ⟨ao, capa, rfl, ha1, ha2, ha3⟩ := hA.open_
  obtain ⟨bo, capb, rfl, hb1, hb2, hb3⟩ := hB.open_
  have HA := Lib.hid ha3
  have HB := Lib.hid hb3
  clear hA hB ha3 hb3
  go_enter Tryd.func11, Tryd.ntmps11
  go_wp2_with fail
  go_loopg [5] l.length (fun gg s5 wr => ∃ k : Nat, k ≤ l.length ∧ l.length - k ≤ gg ∧ s5 = .int .i64 k ∧ Below w.heap.size w wr)
  case atStart => exact ⟨0, Nat.zero_le _, by omega, rfl, Below.refl _ _⟩
  case round =>
    obtain ⟨k, hk, hg, rfl, hbr⟩ := hrel
    by_cases hlt : k < l.length
    · have hmea : Hid (∀ g : Nat, l.length - k ≤ g → l.length - (k + 1) < g) := fun g h => by omega
      have HG := Lib.hid hg
      obtain ⟨b1, o1, rfl, hs1, _, c1⟩ := HA.out k hlt
      obtain ⟨b2, o2, rfl, hs2, _, c2⟩ := HB.out k hlt
      have hltz : (k : Int) < (l.length : Int) := by omega
      generalize l[k] = x at *
      have hc1 : ∀ z : Later wr, z.at_.cell? ⟨b1, o1 + k, none⟩ = some (.string ⟨x.toArray⟩) := fun z => z.cell ((hbr.cell hs1).trans c1)
      have hc2 : ∀ z : Later wr, z.at_.cell? ⟨b2, o2 + k, none⟩ = some (.string ⟨x.toArray⟩) := fun z => z.cell ((hbr.cell hs2).trans c2)
      have ex : (x != x) = false := by simp
      clear hg c1 c2
      go_wp2_with fail
      refine wp_region_later (by kernel_rfl) (by kernel_rfl) ?_; (repeat (go_big_quiet_step (fail))); refine wpQuiet_nil ?_; rintro w3 ⟨⟨_, hb3⟩, rfl⟩
      go_wp2_with fail
      go_roundg (l.length - (k + 1))
      case measure => exact hmea.out _ HG.out
      case rel => exact ⟨k + 1, by omega, by omega, by go_num, Below.of hbr hb3⟩
    · have hltz : ¬ (k : Int) < (l.length : Int) := by omega
      clear hg hlt hk
      go_wp2_with fail
      go_ret
      exact ⟨rfl, hbr⟩

set_option maxRecDepth 100000 in
set_option maxHeartbeats 4000000 in
theorem witBack_walk (bad : Int) (st : List UInt8) (ins : List (List UInt8)) (vins : Value) (s : List UInt8) (m : Int) (w : World) (hS : Strs w vins ins) (hs : st.length ≤ 9223372036854775807) (hsl : s.length ≤ 1048576)
    (hm : w.cell? ⟨0, 0, none⟩ = some (.int .i64 m)) :
    Calls Tryd.prog 4 #[.agg #[.int .i64 bad, .string ⟨st.toArray⟩, vins], .string ⟨s.toArray⟩] w fun e w' => e = .returned (.bool true) ∧ Below w.heap.size w w' := by
  have hlt0 := World.block_lt_of_cell? w _ hm
  have hP := Lib.hid fun w1 (hb : Below w.heap.size w w1) => witPrint_any bad st ins vins w1 (hS.mono hb) hs
  have hPs := Lib.hid fun w1 (hb : Below w.heap.size w w1) => witParse_any s m w1 hsl ((hb.cell hlt0).trans hm)
  have hPt := Lib.hid fun t (ht : List.length t ≤ 1048576) w1 (hb : Below w.heap.size w w1) => witParse_any t m w1 ht ((hb.cell hlt0).trans hm)
  have hSS := Lib.hid fun w1 (hb : Below w.heap.size w w1) => hS.mono hb
  obtain ⟨ao, cap, rfl, h1, h2, h3⟩ := hS.open_
  have hb0 := Lib.hid ((Below.refl w.heap.size w).alloc (Nat.le_refl _) (.cells #[.int .i64 bad, .string ⟨st.toArray⟩, .slice ao ins.length cap] 24))
  have hby0 := Lib.hid (Box3.new w (.int .i64 bad) (.string ⟨st.toArray⟩) (.slice ao ins.length cap) 24)
  clear h3 hS hm hlt0
  go_enter Tryd.func4, Tryd.ntmps4
  go_wp2_with fail
  refine (alive25_any _).mono ?_
  rintro e w1 ⟨rfl, hbk⟩
  have hbA := Lib.hid (Below.of hb0.out hbk)
  have hby1 := Lib.hid (hby0.out.mono hbk)
  clear hb0 hby0 hbk
  obtain ⟨q0, q1, q2⟩ := hby1.out
  go_wp2_with fail
  cases hf : PW.fits bad st ins with
  | false =>
    have hP1 := hP.out _ hbA.out
    rw [PW.printS, PW.printE, if_neg (by rw [hf]; decide), if_neg (by rw [hf]; decide)] at hP1
    refine hP1.mono ?_
    rintro e w2 ⟨rfl, hbk⟩
    have hbB := Lib.hid (Below.of hbA.out hbk)
    clear hP1 hbk q0 q1 q2 hf
    go_wp2_with fail
    refine (hPs.out _ hbB.out).mono ?_
    rintro e w5 ⟨b, st5, v5, ins5, rfl, hS5, hb5, hyes5, hno5⟩
    have hbT := Lib.hid (Below.of hbB.out hb5)
    cases hp : PW.pOk s with
    | true =>
      obtain ⟨rfl, rfl, rfl⟩ := hyes5 hp
      obtain ⟨hf, htx⟩ := PW.back_text hp
      have e0 := PW.parseE_ok hp
      have hPr := witPrint_any (PW.pBad s).1 (PW.pSt s) (PW.pIns s) v5 (w5.alloc (.cells #[.int .i64 (PW.pBad s).1, .string ⟨(PW.pSt s).toArray⟩, v5] 24)) (hS5.mono ((Below.refl _ _).alloc (Nat.le_refl _) _)) (by
        have := ((PW.fits_iff _ _ _).1 hf).1.2.2.1
        omega)
      rw [PW.printS, PW.printE, if_pos hf, if_pos hf, htx] at hPr
      rw [e0]
      generalize (PW.pBad s).1 = B5 at *
      generalize PW.pSt s = S5 at *
      obtain ⟨ao5, cap5, rfl, _, _, _⟩ := hS5.open_
      have hba := (Below.refl w5.heap.size w5).alloc (Nat.le_refl _) (.cells #[.int .i64 B5, .string ⟨S5.toArray⟩, .slice ao5 (PW.pIns s).length cap5] 24)
      have HBA := Lib.hid hba
      have HPr := Lib.hid hPr
      have eS : (s == s) = true := by simp
      clear hPr hba hf htx e0 hyes5 hno5 hS5
      go_wp2_with fail
      refine HPr.out.mono ?_
      rintro e w6 ⟨rfl, hb6⟩
      go_wp2_with fail
      go_ret
      exact ⟨by simp, Below.of (Below.of hbT.out HBA.out) hb6⟩
    | false =>
      obtain ⟨rfl, rfl⟩ := hno5 hp
      have e0 := PW.parseE_no hp
      rw [e0]
      obtain ⟨ao5, cap5, rfl, _, _, _⟩ := hS5.open_
      have HBA := Lib.hid ((Below.refl w5.heap.size w5).alloc (Nat.le_refl _) (.cells #[.int .i64 b, .string ⟨#[]⟩, .slice ao5 0 cap5] 24))
      clear e0 hyes5 hno5 hS5
      go_wp2_with fail
      go_ret
      exact ⟨by simp, Below.of hbT.out HBA.out⟩
  | true =>
    have hP1 := hP.out _ hbA.out
    rw [PW.printS, PW.printE, if_pos hf, if_pos hf] at hP1
    obtain ⟨t1, t2, t3, t4⟩ := PW.text_back hf
    have ht := PW.text_len hf
    have hte := PW.parseE_ok t1
    have hPt1 := Lib.hid fun w1 hb => hPt.out (PW.text bad st ins) (by omega) w1 hb
    generalize PW.text bad st ins = T at *
    refine hP1.mono ?_
    rintro e w2 ⟨rfl, hbk⟩
    have hbB := Lib.hid (Below.of hbA.out hbk)
    have hby2 := Lib.hid (hby1.out.mono hbk)
    clear hP1 hbk q0 q1 q2 hf hP hbA hPt hby1
    go_wp2_with fail
    refine (hPt1.out _ hbB.out).mono ?_
    rintro e w3 ⟨b3, st3, v3, ins3, rfl, hS3, hb3, hyes3, -⟩
    obtain ⟨r1, r2, r3⟩ := hyes3 t1
    rw [t2] at r1
    rw [t3] at r2
    rw [t4] at r3
    subst r1
    subst r2
    subst r3
    rw [hte]
    obtain ⟨ao3, cap3, rfl, _, _, _⟩ := hS3.open_
    have hba := (Below.refl w3.heap.size w3).alloc (Nat.le_refl _) (.cells #[.int .i64 b3, .string ⟨st3.toArray⟩, .slice ao3 ins3.length cap3] 24)
    have hbC := Lib.hid (Below.of (Below.of hbB.out hb3) hba)
    have hTx := Lib.hid (Texts_same ins3 _ _ _ (hS3.mono hba) (hSS.out _ hbC.out))
    have hby3 := Lib.hid ((hby2.out.mono hb3).mono hba)
    obtain ⟨q0, q1, q2⟩ := hby3.out
    have eb : (b3 != b3) = false := by simp
    have es : (st3 != st3) = false := by simp
    clear hba hS3 hb3 hyes3 t1 t2 t3 t4 hte ht hbB hby2 hPt1
    go_wp2_with fail
    refine hTx.out.mono ?_
    rintro e w4 ⟨rfl, hb4⟩
    have hbD := Lib.hid (Below.of hbC.out hb4)
    clear hTx hb4 hbC q0 q1 q2 eb es
    go_wp2_with fail
    refine (hPs.out _ hbD.out).mono ?_
    rintro e w5 ⟨b, st5, v5, ins5, rfl, hS5, hb5, hyes5, hno5⟩
    have hbT := Lib.hid (Below.of hbD.out hb5)
    cases hp : PW.pOk s with
    | true =>
      obtain ⟨rfl, rfl, rfl⟩ := hyes5 hp
      obtain ⟨hf, htx⟩ := PW.back_text hp
      have e0 := PW.parseE_ok hp
      have hPr := witPrint_any (PW.pBad s).1 (PW.pSt s) (PW.pIns s) v5 (w5.alloc (.cells #[.int .i64 (PW.pBad s).1, .string ⟨(PW.pSt s).toArray⟩, v5] 24)) (hS5.mono ((Below.refl _ _).alloc (Nat.le_refl _) _)) (by
        have := ((PW.fits_iff _ _ _).1 hf).1.2.2.1
        omega)
      rw [PW.printS, PW.printE, if_pos hf, if_pos hf, htx] at hPr
      rw [e0]
      generalize (PW.pBad s).1 = B5 at *
      generalize PW.pSt s = S5 at *
      obtain ⟨ao5, cap5, rfl, _, _, _⟩ := hS5.open_
      have hba := (Below.refl w5.heap.size w5).alloc (Nat.le_refl _) (.cells #[.int .i64 B5, .string ⟨S5.toArray⟩, .slice ao5 (PW.pIns s).length cap5] 24)
      have HBA := Lib.hid hba
      have HPr := Lib.hid hPr
      have eS : (s == s) = true := by simp
      clear hPr hba hf htx e0 hyes5 hno5 hS5
      go_wp2_with fail
      refine HPr.out.mono ?_
      rintro e w6 ⟨rfl, hb6⟩
      go_wp2_with fail
      go_ret
      exact ⟨by simp, Below.of (Below.of hbT.out HBA.out) hb6⟩
    | false =>
      obtain ⟨rfl, rfl⟩ := hno5 hp
      have e0 := PW.parseE_no hp
      rw [e0]
      obtain ⟨ao5, cap5, rfl, _, _, _⟩ := hS5.open_
      have HBA := Lib.hid ((Below.refl w5.heap.size w5).alloc (Nat.le_refl _) (.cells #[.int .i64 b, .string ⟨#[]⟩, .slice ao5 0 cap5] 24))
      clear e0 hyes5 hno5 hS5
      go_wp2_with fail
      go_ret
      exact ⟨by simp, Below.of hbT.out HBA.out⟩

end Go.Proofs.YtfjejjdkogfelaaDoor
