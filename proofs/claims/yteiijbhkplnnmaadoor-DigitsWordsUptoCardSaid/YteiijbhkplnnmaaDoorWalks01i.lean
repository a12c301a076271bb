/- The walk of DigitsWords. -/
import Derived.Test.YteiijbhkplnnmaaDoorWalks01h
import Derived.Test.YteiijbhkplnnmaaDoorAlive01
namespace Go.Proofs.YteiijbhkplnnmaaDoor
open Go.RowKit Go.Shelf
attribute [local simp] mk_get

theorem infoStr : (Tryd.prog.info? 9).map (fun i => (i.zero, i.size, i.bytes)) = some (some (.string ByteArray.empty), 1, 16) := by kernel_rfl

theorem extract_zero (p : List UInt8) : (ByteArray.mk p.toArray).extract 0 p.length = ⟨p.toArray⟩ := by
  apply ByteArray.ext
  simp

set_option maxHeartbeats 1000000 in
theorem Cut_clean (p : List UInt8) (w : World) (hp : (32 : UInt8) ∉ p) (hl : p.length ≤ 1048577) :
    Calls Tryd.prog 8 #[.string ⟨p.toArray⟩, .int .u8 32] w fun e w' => ∃ ao c, e = .returned (.slice ao 1 c) ∧ Below w.heap.size w w' := by
  have hl2 : p.length ≤ 9223372036854775807 := by omega
  go_enter Tryd.func8, Tryd.ntmps8
  go_wp2
  go_loopg [5, 6, 7] p.length (fun gg s5 s6 s7 wr => ∃ k : Nat, k ≤ p.length ∧ p.length - k ≤ gg ∧ s5 = .slice none 0 0 ∧ s6 = .int .i64 0 ∧ s7 = .int .i64 k ∧ w = wr)
  case atStart => exact ⟨0, Nat.zero_le _, by omega, rfl, rfl, rfl, rfl⟩
  case round =>
    obtain ⟨k, hk, hg, rfl, rfl, rfl, rfl⟩ := hrel
    by_cases hlt : k < p.length
    · have hx : ¬ p[k] = 32 := fun e => hp (e ▸ List.getElem_mem hlt)
      have hmea : ∀ g : Nat, p.length - k ≤ g → p.length - (k + 1) < g := fun g h => by omega
      have hltz : (k : Int) < (p.length : Int) := by omega
      have hx1 : ¬ (p[k].toNat : Int) = 32 := fun e => hx (UInt8.toNat_inj.1 (by show p[k].toNat = 32; omega))
      have hx2 : ((p[k].toNat : Int) == 32) = false := by simpa using hx1
      clear hx
      generalize hxx : p[k] = x at *
      go_wp2_with fail
      go_roundg (p.length - (k + 1))
      case measure => exact hmea _ hg
      case rel => exact ⟨k + 1, by omega, by omega, rfl, rfl, by go_num, rfl⟩
    · have hltz : ¬ (k : Int) < (p.length : Int) := by omega
      have hex := extract_zero p
      have hn0 : Hid (w.ownsRow w.heap.size 9 1 (.slice none 0 0) 0 []) := World.ownsRow_nil _ _ _ _
      go_wp2_with (at_builtin; refine app_new rfl _ _ 23 rfl 9 1 16 _ Tryd.underlying23 infoStr rfl (by decide) (w0 := w) (B0 := w.heap.size) rfl hn0.out (Below.refl _ _) (Nat.le_refl _) (Nat.le_refl _) _ 1 1 rfl (by intro u hu; simp at hu; subst hu; rfl) rfl (by omega) (by omega) ?_; intro v3 w3 hown3 hb3 hbs3 hgr3)
      go_ret
      rcases hown3.2 with ⟨rfl, h0⟩ | ⟨g, cap, cur, rfl, _⟩
      · simp at h0
      · exact ⟨⟨_, _, rfl⟩, hb3⟩

theorem join_le : ∀ l : List (List UInt8), (PS.join l).length ≤ (PS.flat 32 l).length
  | [] => by simp [PS.join]
  | [p] => by rw [PS.join, PS.flat_one]; simp
  | p :: q :: r => by
    have ih := join_le (q :: r)
    rw [PS.join, show p :: q :: r = [p] ++ (q :: r) from rfl, PS.flat_append, PS.flat_one]
    simp only [List.length_append, List.length_cons, List.length_nil]
    omega

theorem flat_filter_le (c : UInt8) (f : List UInt8 → Bool) : ∀ l : List (List UInt8), (PS.flat c (l.filter f)).length ≤ (PS.flat c l).length
  | [] => by simp
  | p :: r => by
    have ih := flat_filter_le c f r
    rw [show p :: r = [p] ++ r from rfl, List.filter_append, PS.flat_append, PS.flat_append, List.length_append, List.length_append]
    have : (PS.flat c (List.filter f [p])).length ≤ (PS.flat c [p]).length := by
      cases h : f p <;> simp [h, PS.flat]
    omega

set_option maxHeartbeats 1000000 in
theorem words_walk (s : List UInt8) (m : Int) (w : World) (hs : s.length ≤ 1048575) (hm : w.cell? ⟨0, 0, none⟩ = some (.int .i64 m)) :
    Calls Tryd.prog 4 #[.string ⟨s.toArray⟩] w fun e w' => e = .returned (.bool true) ∧ Below w.heap.size w w' := by
  have hWo := Lib.hid fun w1 (hb : Below w.heap.size w w1) => Words_any s m w1 (by omega) ((hb.cell (World.block_lt_of_cell? w _ hm)).trans hm)
  have hjl : (PS.join (PS.words s)).length ≤ s.length + 1 := by
    have h1 := join_le (PS.words s)
    have h2 := flat_filter_le 32 (fun p => !p.isEmpty) (PS.cut 32 s)
    rw [PS.flat_cut] at h2
    have h3 : PS.words s = (PS.cut 32 s).filter fun p => !p.isEmpty := rfl
    rw [h3] at h1 ⊢
    simp at h2
    omega
  have hWj := Lib.hid fun w1 (hb : Below w.heap.size w w1) => Words_any (PS.join (PS.words s)) m w1 (by omega) ((hb.cell (World.block_lt_of_cell? w _ hm)).trans hm)
  rw [PS.words_join] at hWj
  have hmem := Lib.hid (PS.words_mem s)
  have hcl : (PS.words s).length ≤ 1048577 := by
    have h1 := cut_len 32 s
    have h2 := List.length_filter_le (fun p : List UInt8 => !p.isEmpty) (PS.cut 32 s)
    have h3 : PS.words s = (PS.cut 32 s).filter fun p => !p.isEmpty := rfl
    rw [h3]
    omega
  have hpl : Hid (∀ p ∈ PS.words s, p.length ≤ 1048577) := fun p hp => by
    have h1 : (PS.flat 32 (PS.words s)).length ≤ s.length + 1 := by
      have h2 := flat_filter_le 32 (fun p => !p.isEmpty) (PS.cut 32 s)
      rw [PS.flat_cut] at h2
      simp at h2
      exact h2
    have : ∀ l : List (List UInt8), p ∈ l → p.length ≤ (PS.flat 32 l).length := by
      intro l
      induction l with
      | nil => intro h; cases h
      | cons q r ih =>
        intro h
        rw [show q :: r = [q] ++ r from rfl, PS.flat_append, PS.flat_one]
        simp only [List.length_append]
        rcases List.mem_cons.1 h with e | e
        · subst e; omega
        · have := ih e; omega
    have := this _ hp
    omega
  generalize PS.words s = L at *
  clear hm
  go_enter Tryd.func4, Tryd.ntmps4
  go_wp2_with fail
  refine (digits01.alive_any _).mono ?_
  rintro e w1 ⟨rfl, hb1⟩
  go_wp2_with fail
  refine (hWo.out _ (by exact hb1)).mono ?_
  rintro e w2 ⟨b, cp, rfl, hcp, hS, hb2⟩
  have hbw2 := Lib.hid (Below.of hb1 hb2)
  have HS := Lib.hid hS
  clear hS hb1 hb2 hWo
  go_wp2_with fail
  go_loopg [4] L.length (fun gg s4 wr => ∃ k : Nat, k ≤ L.length ∧ L.length - k ≤ gg ∧ s4 = .int .i64 k ∧ Below w2.heap.size w2 wr)
  case atStart => exact ⟨0, Nat.zero_le _, by omega, rfl, Below.refl _ _⟩
  case round =>
    obtain ⟨k, hk, hg, rfl, hbr⟩ := hrel
    by_cases hlt : k < L.length
    · have hc := HS.out.mono hbr k hlt
      have hmm := hmem.out _ (List.getElem_mem hlt)
      have hll := hpl.out _ (List.getElem_mem hlt)
      have hmea : ∀ g : Nat, L.length - k ≤ g → L.length - (k + 1) < g := fun g h => by omega
      generalize L[k] = p at *
      have hltz : (k : Int) < (L.length : Int) := by omega
      have hcut := Lib.hid (Cut_clean p wr hmm.2 hll)
      cases p with
      | nil => exact absurd rfl hmm.1
      | cons x r =>
        clear hmm hll
        go_wp2_with fail
        refine hcut.out.mono ?_
        rintro e w3 ⟨ao, c3, rfl, hb3⟩
        go_wp2_with fail
        go_roundg (L.length - (k + 1))
        case measure => exact hmea _ hg
        case rel => exact ⟨k + 1, by omega, by omega, by go_num, Below.of hbr hb3⟩
    · have hltz : ¬ (k : Int) < (L.length : Int) := by omega
      have hbwr := Lib.hid (Below.of hbw2.out hbr)
      have HSr := Lib.hid (HS.out.mono hbr)
      have hJ := Lib.hid (Join_any L b cp wr HSr.out hcp hcl (by omega))
      generalize PS.join L = J at *
      clear hg hk hlt
      go_wp2_with fail
      refine hJ.out.mono ?_
      rintro e w4 ⟨rfl, hb4⟩
      have hbw4 := Below.of hbwr.out hb4
      go_wp2_with fail
      refine (hWj.out _ (by exact hbw4)).mono ?_
      rintro e w5 ⟨b5, c5, rfl, hc5, hS5, hb5⟩
      have hT := Lib.hid (Texts_same L b5 b c5 cp w5 hS5 ((HSr.out.mono hb4).mono hb5) hc5 hcp hcl)
      clear hS5
      go_wp2_with fail
      refine hT.out.mono ?_
      rintro e w6 ⟨rfl, hb6⟩
      go_wp2_with fail
      go_ret
      exact ⟨rfl, Below.of (Below.of hbw4 hb5) hb6⟩

end Go.Proofs.YteiijbhkplnnmaaDoor
