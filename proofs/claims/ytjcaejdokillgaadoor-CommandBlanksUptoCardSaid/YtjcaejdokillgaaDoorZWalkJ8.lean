/- Contracts: the reader of lines: the names that are left. -/
import Derived.Test.YtjcaejdokillgaaDoorZWalkJ7
import Derived.Test.YtjcaejdokillgaaDoorZL1
namespace Go.Proofs.YtjcaejdokillgaaDoor
open Go.RowKit Go.Shelf
attribute [local simp] mk_get

theorem infoNamJ : (Tryd.prog.info? 68).map (fun i => (i.zero, i.size, i.bytes)) = some (some (.agg #[.string ⟨#[]⟩, .int .i64 0, .string ⟨#[]⟩]), 3, 40) := by kernel_rfl
def OwnN (w : World) (B : Nat) (v : Value) (l : List PC.Nam) : Prop := w.ownsRow B 68 3 v l.length (l.flatMap namCells) ∧ ∀ x ∈ l, rng x.at_ ∧ x.kind.length ≤ 9223372036854775807 ∧ x.text.length ≤ 9223372036854775807

theorem indexByte_mem (c : UInt8) : ∀ l : List UInt8, decide (0 ≤ Lib.indexByte l c) = l.contains c
  | [] => by simp [Lib.indexByte]
  | b :: l => by
    have ih := indexByte_mem c l
    by_cases e : b = c
    · subst e
      simp [Lib.indexByte]
    · have e2 : (c == b) = false := by simpa using Ne.symm e
      have h0 : -1 ≤ Lib.indexByte l c := by
        clear ih
        induction l with
        | nil => simp [Lib.indexByte]
        | cons x l ih =>
          rw [Lib.indexByte]
          split
          · omega
          · split
            · omega
            · rename_i h
              have := ih
              omega
      rw [Lib.indexByte, if_neg (by simpa using e), List.contains_cons, e2, Bool.false_or, ← ih]
      split
      · rename_i h
        have h : Lib.indexByte l c = -1 := by simpa using h
        rw [h]
      · rename_i h
        have h : ¬ Lib.indexByte l c = -1 := by simpa using h
        rw [Bool.eq_iff_iff]
        simp only [decide_eq_true_eq]
        omega

theorem Has_one (s : List UInt8) (c : UInt8) (w : World) : Calls Tryd.prog 75 #[.string ⟨s.toArray⟩, .string ⟨#[c]⟩] w fun e w' => e = .returned (.bool (s.contains c)) ∧ w = w' := by
  refine (Tryd.strings_Contains_one ⟨s.toArray⟩ c w).mono ?_
  rintro e w' ⟨rfl, rfl⟩
  rw [show (ByteArray.mk s.toArray).data.toList = s by simp, indexByte_mem]
  exact ⟨rfl, rfl⟩

theorem Cut_some (c : UInt8) (s p q : List UInt8) (m : Int) (w : World) (hs : s.length ≤ 1048576) (hm : w.cell? ⟨0, 0, none⟩ = some (.int .i64 m)) (hp : PR.at1 c s = some (p, q)) :
    Calls Tryd.prog 48 #[.string ⟨s.toArray⟩, .string ⟨#[c]⟩] w fun e w' => e = .returned (.tuple #[.string ⟨p.toArray⟩, .string ⟨q.toArray⟩, .bool true]) ∧ Below w.heap.size w w' := by
  refine (Cut_one c s m w hs hm).mono ?_
  rintro e w' ⟨hb, ⟨p', q', h1, rfl⟩ | ⟨h1, _⟩⟩
  · rw [hp] at h1
    obtain ⟨rfl, rfl⟩ := Prod.mk.inj (Option.some.inj h1)
    exact ⟨rfl, hb⟩
  · rw [hp] at h1; cases h1
theorem Cut_none (c : UInt8) (s : List UInt8) (m : Int) (w : World) (hs : s.length ≤ 1048576) (hm : w.cell? ⟨0, 0, none⟩ = some (.int .i64 m)) (hp : PR.at1 c s = none) :
    Calls Tryd.prog 48 #[.string ⟨s.toArray⟩, .string ⟨#[c]⟩] w fun e w' => e = .returned (.tuple #[.string ⟨s.toArray⟩, .string ⟨#[]⟩, .bool false]) ∧ Below w.heap.size w w' := by
  refine (Cut_one c s m w hs hm).mono ?_
  rintro e w' ⟨hb, ⟨p', q', h1, rfl⟩ | ⟨h1, rfl⟩⟩
  · rw [hp] at h1; cases h1
  · exact ⟨rfl, hb⟩

theorem bytes_head (c : UInt8) (l : List UInt8) : (ByteArray.mk (c :: l).toArray).extract 0 1 = ⟨#[c]⟩ := by
  apply ByteArray.ext
  simp only [ByteArray.data_extract]
  apply Array.ext'
  simp
theorem bytes_tail (c : UInt8) (l : List UInt8) : (ByteArray.mk (c :: l).toArray).extract 1 (l.length + 1) = ⟨l.toArray⟩ := by
  apply ByteArray.ext
  simp only [ByteArray.data_extract]
  apply Array.ext'
  simp

theorem Strs.one {w : World} {g : Nat} {x : List UInt8} (h : RowL 9 w g [.string ⟨x.toArray⟩]) (hx : x.length ≤ 9223372036854775807) : Strs w (.slice (some ⟨g, 0, none⟩) 1 1) [x] := by
  refine ⟨⟨_, _, rfl, Nat.le_refl _, by omega, (fun h => by cases h), rfl, fun j hj => ⟨g, 0, rfl, h.lt, ?_⟩⟩, fun t ht => by rw [List.mem_singleton.1 ht]; exact hx⟩
  rw [Nat.zero_add]
  exact h.cell j _ (by rw [← List.getElem?_eq_getElem hj]; rfl)

/-- what the names leave -/
def NamesTo (com : Bool) (f : List UInt8 → Option PC.Nam) (r : Nat) (s : List UInt8) (at_ : Int) (w : World) (e : Ending) (w' : World) : Prop :=
  w.grownBy w' (some r) ∧ ((∃ l q v, PR.names com f s = some l ∧ e = .returned v ∧ OwnN w' w.heap.size v l ∧ Rd w' r q (at_ + l.length) ∧ l.length ≤ s.length) ∨ (PR.names com f s = none ∧ flt e))

set_option maxRecDepth 100000 in
set_option maxHeartbeats 8000000 in
theorem jNames_any (r : Nat) (s : List UInt8) (at_ m : Int) (w : World) (h : Rd w r s at_) (hs : s.length ≤ 65536) (hm : w.cell? ⟨0, 0, none⟩ = some (.int .i64 m)) (hr0 : r ≠ 0) (hat : 0 ≤ at_ ∧ at_ + s.length ≤ 1000000) :
    Calls Tryd.prog 36 #[.pointer (some ⟨r, 0, none⟩)] w fun e w' => NamesTo true PJ.namF r s at_ w e w' := by
  obtain ⟨ha1, ha2⟩ := hat
  have HR := Lib.hid h
  have HM := Lib.hid hm
  have HS := Lib.hid hs
  have HA := Lib.hid ha2
  clear h hm hs ha2
  go_enter Tryd.func36, Tryd.ntmps36
  go_wp2_with fail
  go_loopg [3] s.length (fun gg s3 wr => ∃ (k : Nat) (sk : List UInt8) (lk : List PC.Nam) (v3 : Value), sk.length ≤ gg ∧ v3 = s3 ∧ Hid (w.grownBy wr (some r)) ∧ Hid (Rd wr r sk (at_ + k)) ∧ Hid (PR.NamesAt true PJ.namF s k sk lk) ∧ Aside (OwnN wr w.heap.size v3 lk))
  case atStart => exact ⟨0, s, [], _, Nat.le_refl _, rfl, World.grownBy.refl _ _, (by show Rd _ _ _ _; have := HR.out; simpa using this), PR.NamesAt.zero, World.ownsRow_nil _ _ _ _, fun x hx => by cases hx⟩
  case round =>
    obtain ⟨k, sk, lk, v3, hg, rfl, hgr, hRk, hMA, hown⟩ := hrel
    have hmk := Lib.hid (grownBy_cell hgr.out HM.out (Ne.symm hr0))
    have hskl := hMA.out.2.1
    have hlk : lk.length = k := hMA.out.1
    have HS' := HS.out
    have HA' := HA.out
    have hkk : k ≤ 65536 := by omega
    have hc0 := hRk.out.cell 0 _ rfl
    have hat1 : at_ + k ≤ 1000000 := by omega
    by_cases hlt : sk = []
    · subst hlt
      have hdone := Lib.hid hMA.out.done
      have hskl := Lib.hid hskl
      clear HS' HA' hg
      go_wp2_with fail
      go_ret
      exact ⟨hgr.out, .inl ⟨lk, [], _, hdone.out, rfl, hown.out, (by rw [hlk]; exact hRk.out), by rw [hlk]; have := hskl.out; simpa using this⟩⟩
    · have e0 : sk.isEmpty = false := by
        cases sk with
        | nil => exact absurd rfl hlt
        | cons a b => rfl
      have e0n : ¬ sk.toArray = #[] := fun h => hlt (by have := congrArg Array.toList h; simpa using this)
      have HG := Lib.hid hg
      cases hp : PR.at1 10 sk with
      | none =>
        have hL := Lib.hid (jLine_none r sk (at_ + k) m wr hRk.out (by omega) hmk.out hp)
        have hno := Lib.hid (hMA.out.no1 hlt hp)
        clear hp hg HS' HA' hlt hskl
        go_wp2_with (go_at_call 72; refine hL.out.mono ?_; rintro e w1 ⟨⟨v, hv, rfl⟩, hg1⟩)
        exact ⟨rfl, grownBy_two hgr.out hg1 (fun j e => .inr (Option.some.inj e).symm), .inr ⟨hno.out, v, hv, rfl⟩⟩
      | some x =>
        obtain ⟨p, q⟩ := x
        have hL := Lib.hid (jLine_some r sk p q (at_ + k) m wr hRk.out (by omega) hmk.out hp)
        have hlen := PR.at1_lt hp
        have hpl : p.length ≤ 65536 := by omega
        have hql : q.length < sk.length := by omega
        by_cases hcm : p = [99]
        · subst hcm
          have hst := Lib.hid (hMA.out.stop hp ⟨rfl, rfl⟩)
          have hskl := Lib.hid hskl
          clear hp hg HS' HA' hlt hlen
          go_wp2_with (go_at_call 72; refine hL.out.mono ?_; rintro e w1 ⟨rfl, hR1, hg1⟩; have hR1 := Lib.hid hR1; have hgg1 := Lib.hid (grownBy_two hgr.out hg1 (fun j e => .inr (Option.some.inj e).symm)); have hown1 := Lib.hid (owns_other hown.out.1 hg1 hRk.out (by decide)); clear hg1)
          go_ret
          exact ⟨hgg1.out, .inl ⟨lk, q, _, hst.out, rfl, ⟨hown1.out, hown.out.2⟩, (by rw [hlk]; exact hR1.out), by rw [hlk]; have := hskl.out; omega⟩⟩
        · have ec : (p == [99]) = false := beq_eq_false_iff_ne.2 hcm
          have ecn : ¬ p.toArray = #[99] := fun h => hcm (by have := congrArg Array.toList h; simpa using this)
          have hncm : ¬ (true = true ∧ p = [99]) := fun h => hcm h.2
          cases hq : PR.at1 32 p with
          | none =>
            have hC := Lib.hid fun (y : World) (hy : y.cell? ⟨0, 0, none⟩ = some (.int .i64 m)) => Cut_none 32 p m y (by omega) hy hq
            have hno := Lib.hid (hMA.out.no2 hp hncm (by unfold PJ.namF; rw [hq]))
            clear hp hg HS' HA' hlt hskl hlen hcm hncm hq
            go_wp2_with (first | (go_at_call 72; refine hL.out.mono ?_; rintro e w1 ⟨rfl, hR1, hg1⟩; have hR1 := Lib.hid hR1; have hgg1 := Lib.hid (grownBy_two hgr.out hg1 (fun j e => .inr (Option.some.inj e).symm)); have hown1 := Lib.hid (owns_other hown.out.1 hg1 hRk.out (by decide)); have hC1 := Lib.hid (hC.out w1 (grownBy_cell hg1 hmk.out (Ne.symm hr0))); clear hg1) | (go_at_call 48; refine hC1.out.mono ?_; rintro e w2 ⟨rfl, hb2⟩; have hR2 := Lib.hid (hR1.out.mono hb2); have hgg2 := Lib.hid (grownBy_below hgg1.out hb2); have hown2 := Lib.hid (owns_below' hown1.out hb2); clear hb2) | (go_at_call 37; refine (jNeed_no r q (at_ + k) _ _ hR2.out (by decide)).mono ?_; rintro e w3 ⟨⟨fv, hfv, rfl⟩, rfl⟩))
            exact ⟨rfl, hgg2.out, .inr ⟨hno.out, fv, hfv, rfl⟩⟩
          | some x =>
            obtain ⟨hh, tt⟩ := x
            have hnf : PJ.namF p = if PJ.namOk hh tt = true then some ⟨hh.take 1, PR.numV (hh.drop 1), tt⟩ else none := by unfold PJ.namF; rw [hq]
            have hno' : PJ.namOk hh tt = false → PR.names true PJ.namF s = none := fun hf => hMA.out.no2 hp hncm (by rw [hnf, hf]; rfl)
            have hC := Lib.hid fun (y : World) (hy : y.cell? ⟨0, 0, none⟩ = some (.int .i64 m)) => Cut_some 32 p hh tt m y (by omega) hy hq
            have hll := PR.at1_lt hq
            by_cases h1 : 1 < hh.length
            case neg =>
              have hno := Lib.hid (hno' (by unfold PJ.namOk; rw [decide_eq_false h1]; rfl))
              have d1 : ¬ (1 : Int) < (hh.length : Int) := by omega
              clear hp hg HS' HA' hlt hskl hlen hcm hncm hq hnf hno' hll h1
              go_wp2_with (first | (go_at_call 72; refine hL.out.mono ?_; rintro e w1 ⟨rfl, hR1, hg1⟩; have hR1 := Lib.hid hR1; have hgg1 := Lib.hid (grownBy_two hgr.out hg1 (fun j e => .inr (Option.some.inj e).symm)); have hown1 := Lib.hid (owns_other hown.out.1 hg1 hRk.out (by decide)); have hC1 := Lib.hid (hC.out w1 (grownBy_cell hg1 hmk.out (Ne.symm hr0))); clear hg1) | (go_at_call 48; refine hC1.out.mono ?_; rintro e w2 ⟨rfl, hb2⟩; have hR2 := Lib.hid (hR1.out.mono hb2); have hgg2 := Lib.hid (grownBy_below hgg1.out hb2); have hown2 := Lib.hid (owns_below' hown1.out hb2); clear hb2) | (go_at_call 37; refine (jNeed_no r q (at_ + k) _ _ hR2.out (by decide)).mono ?_; rintro e w3 ⟨⟨fv, hfv, rfl⟩, rfl⟩))
              exact ⟨rfl, hgg2.out, .inr ⟨hno.out, fv, hfv, rfl⟩⟩
            obtain ⟨c0, hr, rfl⟩ : ∃ c0 hr, hh = c0 :: hr := by
              cases hh with
              | nil => simp at h1
              | cons a b => exact ⟨a, b, rfl⟩
            have hrn0 : 0 < hr.length := by simpa using h1
            have hok : PJ.namOk (c0 :: hr) tt = ([105, 108, 111, 98, 99].contains c0 && !tt.isEmpty && !tt.contains 32 && PR.numOk hr) := by
              unfold PJ.namOk
              rw [decide_eq_true h1]
              rfl
            rw [hok] at hno' hnf
            have hx1 := bytes_head c0 hr
            have hx2 := bytes_tail c0 hr
            have d1 : (1 : Int) < (hr.length : Int) + 1 := by omega
            have d2 : 1 < hr.length + 1 := by omega
            have hrl : hr.length ≤ 65536 := by simp at hll; omega
            have htl : tt.length ≤ 65536 := by simp at hll; omega
            have hH1 := Lib.hid fun y => Has_one [105, 108, 111, 98, 99] c0 y
            have hH2 := Lib.hid fun y => Has_one tt 32 y
            clear h1 hq hok hll
            cases hk1 : ([105, 108, 111, 98, 99] : List UInt8).contains c0 with
            | false =>
              rw [hk1] at hH1 hno'
              have hno := Lib.hid (hno' rfl)
              clear hp hg HS' HA' hlt hskl hlen hcm hncm hnf hno' hk1
              go_wp2_with (first | (go_at_call 72; refine hL.out.mono ?_; rintro e w1 ⟨rfl, hR1, hg1⟩; have hR1 := Lib.hid hR1; have hgg1 := Lib.hid (grownBy_two hgr.out hg1 (fun j e => .inr (Option.some.inj e).symm)); have hown1 := Lib.hid (owns_other hown.out.1 hg1 hRk.out (by decide)); have hC1 := Lib.hid (hC.out w1 (grownBy_cell hg1 hmk.out (Ne.symm hr0))); clear hg1) | (go_at_call 48; refine hC1.out.mono ?_; rintro e w2 ⟨rfl, hb2⟩; have hR2 := Lib.hid (hR1.out.mono hb2); have hgg2 := Lib.hid (grownBy_below hgg1.out hb2); have hown2 := Lib.hid (owns_below' hown1.out hb2); clear hb2) | (go_at_call 75; refine (hH1.out _).mono ?_; rintro e wh1 ⟨rfl, rfl⟩; have hdone1 : True := trivial) | (go_at_call 37; refine (jNeed_no r q (at_ + k) _ _ hR2.out (by decide)).mono ?_; rintro e w3 ⟨⟨fv, hfv, rfl⟩, rfl⟩))
              exact ⟨rfl, hgg2.out, .inr ⟨hno.out, fv, hfv, rfl⟩⟩
            | true =>
              rw [hk1] at hH1 hno' hnf
              clear hk1
              by_cases ht0 : tt = []
              · subst ht0
                have hno := Lib.hid (hno' rfl)
                clear hp hg HS' HA' hlt hskl hlen hcm hncm hnf hno'
                go_wp2_with (first | (go_at_call 72; refine hL.out.mono ?_; rintro e w1 ⟨rfl, hR1, hg1⟩; have hR1 := Lib.hid hR1; have hgg1 := Lib.hid (grownBy_two hgr.out hg1 (fun j e => .inr (Option.some.inj e).symm)); have hown1 := Lib.hid (owns_other hown.out.1 hg1 hRk.out (by decide)); have hC1 := Lib.hid (hC.out w1 (grownBy_cell hg1 hmk.out (Ne.symm hr0))); clear hg1) | (go_at_call 48; refine hC1.out.mono ?_; rintro e w2 ⟨rfl, hb2⟩; have hR2 := Lib.hid (hR1.out.mono hb2); have hgg2 := Lib.hid (grownBy_below hgg1.out hb2); have hown2 := Lib.hid (owns_below' hown1.out hb2); clear hb2) | (go_at_call 75; refine (hH1.out _).mono ?_; rintro e wh1 ⟨rfl, rfl⟩; have hdone1 : True := trivial) | (go_at_call 37; refine (jNeed_no r q (at_ + k) _ _ hR2.out (by decide)).mono ?_; rintro e w3 ⟨⟨fv, hfv, rfl⟩, rfl⟩))
                exact ⟨rfl, hgg2.out, .inr ⟨hno.out, fv, hfv, rfl⟩⟩
              · have t0 : tt.isEmpty = false := by
                  cases tt with
                  | nil => exact absurd rfl ht0
                  | cons a b => rfl
                have t0n : ¬ tt.toArray = #[] := fun h => ht0 (by have := congrArg Array.toList h; simpa using this)
                rw [t0] at hno' hnf
                cases hk2 : tt.contains 32 with
                | true =>
                  rw [hk2] at hH2 hno'
                  have hno := Lib.hid (hno' rfl)
                  clear hp hg HS' HA' hlt hskl hlen hcm hncm hnf hno' hk2
                  go_wp2_with (first | (go_at_call 72; refine hL.out.mono ?_; rintro e w1 ⟨rfl, hR1, hg1⟩; have hR1 := Lib.hid hR1; have hgg1 := Lib.hid (grownBy_two hgr.out hg1 (fun j e => .inr (Option.some.inj e).symm)); have hown1 := Lib.hid (owns_other hown.out.1 hg1 hRk.out (by decide)); have hC1 := Lib.hid (hC.out w1 (grownBy_cell hg1 hmk.out (Ne.symm hr0))); clear hg1) | (go_at_call 48; refine hC1.out.mono ?_; rintro e w2 ⟨rfl, hb2⟩; have hR2 := Lib.hid (hR1.out.mono hb2); have hgg2 := Lib.hid (grownBy_below hgg1.out hb2); have hown2 := Lib.hid (owns_below' hown1.out hb2); clear hb2) | (go_at_call 75; have _ := hdone1; refine (hH2.out _).mono ?_; rintro e wh2 ⟨rfl, rfl⟩) | (go_at_call 75; refine (hH1.out _).mono ?_; rintro e wh1 ⟨rfl, rfl⟩; have hdone1 : True := trivial) | (go_at_call 37; refine (jNeed_no r q (at_ + k) _ _ hR2.out (by decide)).mono ?_; rintro e w3 ⟨⟨fv, hfv, rfl⟩, rfl⟩))
                  exact ⟨rfl, hgg2.out, .inr ⟨hno.out, fv, hfv, rfl⟩⟩
                | false =>
                  rw [hk2] at hH2 hno' hnf
                  clear hk2
                  obtain ⟨N, hN⟩ : ∃ N, N = PR.numV hr := ⟨_, rfl⟩
                  cases hk3 : PR.numOk hr with
                  | false =>
                    rw [hk3] at hno'
                    have hno := Lib.hid (hno' rfl)
                    have hP : Hid ([hr].all PR.numOk = false) := by show _ = _; simp [hk3]
                    clear hp hg HS' HA' hlt hskl hlen hcm hncm hnf hno' hk3
                    go_wp2_with (first | (go_at_call 72; refine hL.out.mono ?_; rintro e w1 ⟨rfl, hR1, hg1⟩; have hR1 := Lib.hid hR1; have hgg1 := Lib.hid (grownBy_two hgr.out hg1 (fun j e => .inr (Option.some.inj e).symm)); have hown1 := Lib.hid (owns_other hown.out.1 hg1 hRk.out (by decide)); have hC1 := Lib.hid (hC.out w1 (grownBy_cell hg1 hmk.out (Ne.symm hr0))); clear hg1) | (go_at_call 48; refine hC1.out.mono ?_; rintro e w2 ⟨rfl, hb2⟩; have hR2 := Lib.hid (hR1.out.mono hb2); have hgg2 := Lib.hid (grownBy_below hgg1.out hb2); have hown2 := Lib.hid (owns_below' hown1.out hb2); clear hb2) | (go_at_call 75; have _ := hdone1; refine (hH2.out _).mono ?_; rintro e wh2 ⟨rfl, rfl⟩) | (go_at_call 75; refine (hH1.out _).mono ?_; rintro e wh1 ⟨rfl, rfl⟩; have hdone1 : True := trivial) | (go_at_call 37; refine (jNeed_ok _ _ _).mono ?_; rintro e w3 ⟨rfl, hw3⟩; rw [hw3] at hR2 hgg2 hown2; clear hw3))
                    obtain ⟨W, hW⟩ : ∃ W, W = w3 := ⟨_, rfl⟩
                    subst hW
                    refine wp_region_fails 13 (fun ch y' => ∃ v, fltV v ∧ ch = [{ v := v, recovered := false }] ∧ Below W.heap.size W y') [] [isV v3, isV (.string ⟨(c0 :: hr).toArray⟩), isV (.string ⟨#[c0]⟩), isV (.pointer (some ⟨r, 0, none⟩)), isV (.string ⟨(c0 :: hr).toArray⟩), isV (.string ⟨hr.toArray⟩), (fun v y' => ∃ u, v = .slice (some ⟨u, 0, none⟩) 1 1 ∧ RowL 9 y' u [.string ⟨hr.toArray⟩]), (fun _ _ => False), (fun _ _ => False), (fun _ _ => False), isV (.string ⟨tt.toArray⟩), (fun _ _ => False), (fun _ _ => False)] (fun _ _ y' => Below W.heap.size W y')
                      [some 46, some 47, some 48, some 49, some 50, some 51, some 52, some 53, some 54, some 55, some 56, some 57, some 58] (by kernel_rfl) (by kernel_rfl) rfl (by
                        intro q hq
                        simp only [List.mem_cons, List.mem_nil_iff, or_false] at hq
                        rcases hq with rfl | rfl | rfl | rfl | rfl | rfl | rfl | rfl | rfl | rfl | rfl | rfl | rfl <;> first
                          | exact isV_keeps _ | exact fun _ _ _ hb ⟨u, e, h⟩ => ⟨u, e, h.mono hb⟩ | exact fun _ _ _ hb h => h) (Below.refl _ _).drew (fun _ _ _ _ _ _ hb h => Below.of h hb) (fun i h => by cases h)
                      (fun ch a' y' hd _ hf => by
                        obtain ⟨v, hv, rfl, hb⟩ := hf
                        exact ⟨hd, grownBy_below hgg2.out hb, .inr ⟨hno.out, v, hv, rfl⟩⟩) ?_ ?_
                    · refine ⟨fun s vs Y _ _ _ hy hd => ?_, fun s vs Y _ _ _ hy hd => ?_, fun s vs Y _ _ _ hy hd => ?_, fun s vs Y _ _ _ hy hd => ?_, fun s vs Y _ _ _ hy hd => ?_, fun s vs Y _ _ _ hy hd => ?_, fun s vs Y _ _ _ hy hd => ?_, fun s vs Y _ _ _ hy hd => ?_, fun s vs Y _ _ _ hy hd => ?_, fun s vs Y _ _ _ hy hd => ?_, fun s vs Y _ _ _ hy hd => ?_, fun s vs Y _ _ _ hy hd => ?_, fun s vs Y _ _ _ hy hd => ?_, trivial⟩
                      · (simp only [opens]; try simp only [Nat.reduceAdd])
                        go_wp2_with fail
                        exact ⟨_, rfl, rfl, Below.refl _ _⟩
                      · (simp only [opens]; try simp only [Nat.reduceAdd])
                        go_wp2_with fail
                        exact ⟨_, rfl, rfl, Below.refl _ _⟩
                      · have g0 : vs 1 = .string ⟨(c0 :: hr).toArray⟩ := hd 1 (by decide) (by kernel_rfl)
                        (simp only [opens]; try simp only [Nat.reduceAdd])
                        rw [g0]
                        go_wp2_with fail
                        exact ⟨_, rfl, rfl, Below.refl _ _⟩
                      · (simp only [opens]; try simp only [Nat.reduceAdd])
                        go_wp2_with fail
                        exact ⟨_, rfl, rfl, Below.refl _ _⟩
                      · (simp only [opens]; try simp only [Nat.reduceAdd])
                        go_wp2_with fail
                        exact ⟨_, rfl, rfl, Below.refl _ _⟩
                      · have g0 : vs 4 = .string ⟨(c0 :: hr).toArray⟩ := hd 4 (by decide) (by kernel_rfl)
                        (simp only [opens]; try simp only [Nat.reduceAdd])
                        rw [g0]
                        go_wp2_with fail
                        exact ⟨_, rfl, rfl, Below.refl _ _⟩
                      · have g0 : vs 5 = .string ⟨hr.toArray⟩ := hd 5 (by decide) (by kernel_rfl)
                        (simp only [opens]; try simp only [Nat.reduceAdd])
                        rw [g0]
                        go_wp2_with fail
                        exact ⟨_, rfl, ⟨_, rfl, RowL.new Y _⟩, (Below.refl _ _).alloc (Nat.le_refl _) _⟩
                      · have g0 : vs 3 = .pointer (some ⟨r, 0, none⟩) := hd 3 (by decide) (by kernel_rfl)
                        obtain ⟨u, g1, g2⟩ : ∃ u, vs 6 = .slice (some ⟨u, 0, none⟩) 1 1 ∧ RowL 9 Y u [.string ⟨hr.toArray⟩] := hd 6 (by decide) (by kernel_rfl)
                        have hPa := Lib.hid (jParsed_no r q (at_ + k) [hr] _ Y (hR2.out.mono hy) (Strs.one g2 (by omega)) (by simp) hP.out)
                        (simp only [opens]; try simp only [Nat.reduceAdd])
                        rw [g0, g1]
                        go_wp2_with (go_at_call 73; refine hPa.out.mono ?_; rintro e w4 ⟨⟨fv, hfv, rfl⟩, hb4⟩)
                        exact ⟨fv, hfv, rfl, Below.of hy hb4⟩
                      · have g0 : False := hd 7 (by decide) (by kernel_rfl)
                        exact g0.elim
                      · have g0 : False := hd 8 (by decide) (by kernel_rfl)
                        exact g0.elim
                      · (simp only [opens]; try simp only [Nat.reduceAdd])
                        go_wp2_with fail
                        exact ⟨_, rfl, rfl, Below.refl _ _⟩
                      · have g0 : False := hd 9 (by decide) (by kernel_rfl)
                        exact g0.elim
                      · have g0 : False := hd 11 (by decide) (by kernel_rfl)
                        exact g0.elim
                    intro vs w4 hb4 hf
                    have g0 : False := hf 12 (by decide)
                    exact g0.elim
                  | true =>
                    rw [hk3] at hnf
                    have hMA1 := Lib.hid (hMA.out.next hp hncm (x := ⟨[c0], N, tt⟩) (by rw [hnf, hN]; rfl))
                    have hP : Hid ([hr].all PR.numOk = true) := by show _ = _; simp [hk3]
                    have hNr : Hid (rng N) := by
                      show rng N
                      have := PR.numV_rng hk3
                      unfold rng
                      omega
                    have hql := Lib.hid hql
                    have HN : Hid ([hr].map PR.numV = [N]) := by show _ = _; rw [hN]; rfl
                    clear hp hg HS' HA' hlt hskl hlen hcm hncm hnf hno' hk3 hN
                    go_wp2_with (first | (go_at_call 72; refine hL.out.mono ?_; rintro e w1 ⟨rfl, hR1, hg1⟩; have hR1 := Lib.hid hR1; have hgg1 := Lib.hid (grownBy_two hgr.out hg1 (fun j e => .inr (Option.some.inj e).symm)); have hown1 := Lib.hid (owns_other hown.out.1 hg1 hRk.out (by decide)); have hC1 := Lib.hid (hC.out w1 (grownBy_cell hg1 hmk.out (Ne.symm hr0))); clear hg1) | (go_at_call 48; refine hC1.out.mono ?_; rintro e w2 ⟨rfl, hb2⟩; have hR2 := Lib.hid (hR1.out.mono hb2); have hgg2 := Lib.hid (grownBy_below hgg1.out hb2); have hown2 := Lib.hid (owns_below' hown1.out hb2); clear hb2) | (go_at_call 75; have _ := hdone1; refine (hH2.out _).mono ?_; rintro e wh2 ⟨rfl, rfl⟩) | (go_at_call 75; refine (hH1.out _).mono ?_; rintro e wh1 ⟨rfl, rfl⟩; have hdone1 : True := trivial) | (go_at_call 37; refine (jNeed_ok _ _ _).mono ?_; rintro e w3 ⟨rfl, hw3⟩; rw [hw3] at hR2 hgg2 hown2; clear hw3))
                    obtain ⟨W, hW⟩ : ∃ W, W = w3 := ⟨_, rfl⟩
                    subst hW
                    refine wp_region_makes 13 [isV v3, isV (.string ⟨(c0 :: hr).toArray⟩), isV (.string ⟨#[c0]⟩), isV (.pointer (some ⟨r, 0, none⟩)), isV (.string ⟨(c0 :: hr).toArray⟩), isV (.string ⟨hr.toArray⟩), (fun v y' => ∃ u, v = .slice (some ⟨u, 0, none⟩) 1 1 ∧ RowL 9 y' u [.string ⟨hr.toArray⟩]), (fun v y' => OwnI y' 0 v [N]), (fun v y' => ∃ g o, v = .pointer (some ⟨g, o, none⟩) ∧ g < y'.heap.size ∧ y'.cell? ⟨g, o, none⟩ = some (.int .i64 N)), isV (.int .i64 N), isV (.string ⟨tt.toArray⟩), isV (.agg #[.string ⟨#[c0]⟩, .int .i64 N, .string ⟨tt.toArray⟩]), (fun v y' => ∃ u, v = .slice (some ⟨u, 0, none⟩) 1 1 ∧ RowL 68 y' u [.string ⟨#[c0]⟩, .int .i64 N, .string ⟨tt.toArray⟩])]
                      [some 46, some 47, some 48, some 49, some 50, some 51, some 52, some 53, some 54, some 55, some 56, some 57, some 58] (by kernel_rfl) (by kernel_rfl) rfl (by
                        intro q hq
                        simp only [List.mem_cons, List.mem_nil_iff, or_false] at hq
                        rcases hq with rfl | rfl | rfl | rfl | rfl | rfl | rfl | rfl | rfl | rfl | rfl | rfl | rfl <;> first
                          | exact isV_keeps _ | exact fun _ _ _ hb ⟨u, e, h⟩ => ⟨u, e, h.mono hb⟩ | exact fun _ _ _ hb h => OwnI.mono h hb | exact fun _ _ _ hb ⟨g, o, e, h, hc⟩ => ⟨g, o, e, Nat.lt_of_lt_of_le h hb.size, (hb.cell (p := ⟨g, o, none⟩) h).trans hc⟩) ?_ ?_
                    · refine ⟨fun vs Y hy hd => ?_, fun vs Y hy hd => ?_, fun vs Y hy hd => ?_, fun vs Y hy hd => ?_, fun vs Y hy hd => ?_, fun vs Y hy hd => ?_, fun vs Y hy hd => ?_, fun vs Y hy hd => ?_, fun vs Y hy hd => ?_, fun vs Y hy hd => ?_, fun vs Y hy hd => ?_, fun vs Y hy hd => ?_, fun vs Y hy hd => ?_, trivial⟩
                      · (simp only [opens]; try simp only [Nat.reduceAdd])
                        go_wp2_with fail
                        exact ⟨_, rfl, Below.refl _ _, rfl⟩
                      · (simp only [opens]; try simp only [Nat.reduceAdd])
                        go_wp2_with fail
                        exact ⟨_, rfl, Below.refl _ _, rfl⟩
                      · have g0 : vs 1 = .string ⟨(c0 :: hr).toArray⟩ := hd 1 (by decide) (by kernel_rfl)
                        (simp only [opens]; try simp only [Nat.reduceAdd])
                        rw [g0]
                        go_wp2_with fail
                        exact ⟨_, rfl, Below.refl _ _, rfl⟩
                      · (simp only [opens]; try simp only [Nat.reduceAdd])
                        go_wp2_with fail
                        exact ⟨_, rfl, Below.refl _ _, rfl⟩
                      · (simp only [opens]; try simp only [Nat.reduceAdd])
                        go_wp2_with fail
                        exact ⟨_, rfl, Below.refl _ _, rfl⟩
                      · have g0 : vs 4 = .string ⟨(c0 :: hr).toArray⟩ := hd 4 (by decide) (by kernel_rfl)
                        (simp only [opens]; try simp only [Nat.reduceAdd])
                        rw [g0]
                        go_wp2_with fail
                        exact ⟨_, rfl, Below.refl _ _, rfl⟩
                      · have g0 : vs 5 = .string ⟨hr.toArray⟩ := hd 5 (by decide) (by kernel_rfl)
                        (simp only [opens]; try simp only [Nat.reduceAdd])
                        rw [g0]
                        go_wp2_with fail
                        exact ⟨_, rfl, (Below.refl _ _).alloc (Nat.le_refl _) _, _, rfl, RowL.new Y _⟩
                      · have g0 : vs 3 = .pointer (some ⟨r, 0, none⟩) := hd 3 (by decide) (by kernel_rfl)
                        obtain ⟨u, g1, g2⟩ : ∃ u, vs 6 = .slice (some ⟨u, 0, none⟩) 1 1 ∧ RowL 9 Y u [.string ⟨hr.toArray⟩] := hd 6 (by decide) (by kernel_rfl)
                        have hPa := Lib.hid (jParsed_ok r q (at_ + k) [hr] _ Y (hR2.out.mono hy) (Strs.one g2 (by omega)) (by simp) hP.out)
                        rw [HN.out] at hPa
                        (simp only [opens]; try simp only [Nat.reduceAdd])
                        rw [g0, g1]
                        go_wp2_with (go_at_call 73; refine hPa.out.mono ?_; rintro e w4 ⟨v, rfl, hv, hb4⟩)
                        exact ⟨_, rfl, hb4, hv.base (Nat.zero_le _)⟩
                      · have g0 : OwnI Y 0 (vs 7) [N] := hd 7 (by decide) (by kernel_rfl)
                        obtain ⟨g, o, c, g1, g2, g3⟩ := g0.one
                        (simp only [opens]; try simp only [Nat.reduceAdd])
                        rw [g1]
                        go_wp2_with fail
                        exact ⟨_, rfl, Below.refl _ _, _, _, rfl, g3, g2⟩
                      · obtain ⟨g, o, g1, g3, g2⟩ : ∃ g o, vs 8 = .pointer (some ⟨g, o, none⟩) ∧ g < Y.heap.size ∧ Y.cell? ⟨g, o, none⟩ = some (.int .i64 N) := hd 8 (by decide) (by kernel_rfl)
                        (simp only [opens]; try simp only [Nat.reduceAdd])
                        rw [g1]
                        go_wp2_with fail
                        exact ⟨_, rfl, Below.refl _ _, rfl⟩
                      · (simp only [opens]; try simp only [Nat.reduceAdd])
                        go_wp2_with fail
                        exact ⟨_, rfl, Below.refl _ _, rfl⟩
                      · have g0 : vs 2 = .string ⟨#[c0]⟩ := hd 2 (by decide) (by kernel_rfl)
                        have g1 : vs 9 = .int .i64 N := hd 9 (by decide) (by kernel_rfl)
                        have g2 : vs 10 = .string ⟨tt.toArray⟩ := hd 10 (by decide) (by kernel_rfl)
                        (simp only [opens]; try simp only [Nat.reduceAdd])
                        rw [g0, g1, g2]
                        go_wp2_with fail
                        exact ⟨_, rfl, Below.refl _ _, rfl⟩
                      · have g0 : vs 11 = .agg #[.string ⟨#[c0]⟩, .int .i64 N, .string ⟨tt.toArray⟩] := hd 11 (by decide) (by kernel_rfl)
                        (simp only [opens]; try simp only [Nat.reduceAdd])
                        rw [g0]
                        go_wp2_with fail
                        exact ⟨_, rfl, (Below.refl _ _).alloc (Nat.le_refl _) _, _, rfl, RowL.new Y _⟩
                    intro vs w4 hb4 hf
                    have e0 : vs 0 = v3 := hf 0 (by decide)
                    obtain ⟨u, e1, hu⟩ : ∃ u, vs 12 = .slice (some ⟨u, 0, none⟩) 1 1 ∧ RowL 68 w4 u [.string ⟨#[c0]⟩, .int .i64 N, .string ⟨tt.toArray⟩] := hf 12 (by decide)
                    have hCu := Lib.hid hu.cells1
                    have hown4 := Lib.hid (owns_below' hown2.out hb4)
                    have hR4 := Lib.hid (hR2.out.mono hb4)
                    have hgg4 := Lib.hid (grownBy_below hgg2.out hb4)
                    clear hb4 hf
                    simp only [opens, List.drop_succ_cons, List.drop_zero]
                    try simp only [Nat.reduceAdd]
                    rw [e0, e1]
                    go_wp2_with (at_builtin; refine app_cells rfl _ _ 25 rfl 68 3 40 _ Tryd.underlying25 infoNamJ rfl (by decide) (w0 := w4) (B0 := 0) rfl hown4.out (Below.refl 0 w4) (Nat.zero_le _) hgg4.out.size rfl hCu.out (by intro u hu; simp at hu; rcases hu with rfl | rfl | rfl <;> rfl) (by omega) (by omega) ?_; intro v5 w5 hown5 hb5 hbs5 hgr5; obtain ⟨hgg5, hR5⟩ := app_reader' hgg4.out hown4.out hgr5 hR4.out (by decide); have hgg5 := Lib.hid hgg5; have hR5 := Lib.hid hR5; have hown5 := Lib.hid hown5; have c1 := hR5.out.cell 1 _ rfl; have f1 := hR5.out.frozen 1; clear hgr5)
                    have hgg6 := Lib.hid (grownBy_two hgg5.out (set_grown' w5 r 1 (.int .i64 (at_ + k + 1))) (fun j e => .inr (Option.some.inj e).symm))
                    have hR6 := Lib.hid (hR5.out.set 1 (.int .i64 (at_ + k + 1)))
                    have hown6 := Lib.hid (owns_other hown5.out (set_grown' w5 r 1 (.int .i64 (at_ + k + 1))) hR5.out (by decide))
                    go_roundg q.length
                    case measure => have := hql.out; have := HG.out; omega
                    case rel =>
                      refine ⟨k + 1, q, lk ++ [⟨[c0], N, tt⟩], _, Nat.le_refl _, rfl, hgg6, ?_, hMA1, ?_, ?_⟩
                      · have : at_ + ((k + 1 : Nat) : Int) = at_ + k + 1 := by omega
                        rw [this]
                        exact hR6
                      · have e1 : (lk ++ [(⟨[c0], N, tt⟩ : PC.Nam)]).length = lk.length + 1 := by simp
                        rw [e1, List.flatMap_append]
                        exact hown6.out
                      · intro u hu
                        rcases List.mem_append.1 hu with hu | hu
                        · exact hown.out.2 u hu
                        · rw [List.mem_singleton.1 hu]
                          exact ⟨hNr.out, by simp, by simp only; omega⟩

end Go.Proofs.YtjcaejdokillgaaDoor
