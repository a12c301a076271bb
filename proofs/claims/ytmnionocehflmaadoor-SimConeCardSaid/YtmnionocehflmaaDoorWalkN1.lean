/- Contract: a number put into a list that rises. -/
import Derived.Test.YtmnionocehflmaaDoorWalkR1
import Derived.Test.YtmnionocehflmaaDoorPlainN
namespace Go.Proofs.YtmnionocehflmaaDoor
open Go.RowKit Go.Shelf

theorem infoInt : (Tryd.prog.info? 3).map (fun i => (i.zero, i.size, i.bytes)) = some (some (.int .i64 0), 1, 8) := by kernel_rfl

/-- a list of numbers of the call's own -/
def OwnI (w : World) (B : Nat) (v : Value) (l : List Int) : Prop := w.ownsRow B 3 1 v l.length (l.map (Value.int .i64)) ∧ ∀ x ∈ l, rng x

theorem OwnI.ints {w : World} {B : Nat} {v : Value} {l : List Int} (h : OwnI w B v l) : Ints w v l := ⟨Cells.of_owns h.1, h.2⟩

theorem Cells.drop1 {w : World} {b off n cap : Nat} {cs : List Value} (h : Cells w 1 (.slice (some ⟨b, off, none⟩) n cap) n cs) (i : Nat) (hi : i ≤ n) :
    Cells w 1 (.slice (some ⟨b, off + i, none⟩) (n - i) (cap - i)) (n - i) (cs.drop i) := by
  obtain ⟨ao, cap', e, h1, h2, h0, h3, h4⟩ := h
  cases e
  refine ⟨_, _, rfl, by omega, by omega, (fun h => by cases h), (by rw [List.length_drop]; omega), (fun j hj => ?_)⟩
  have hj' := hj
  rw [List.length_drop] at hj'
  obtain ⟨b', off', e, hlt, hc⟩ := h4 (i + j) (by omega)
  cases e
  exact ⟨_, _, rfl, hlt, by rw [Nat.add_assoc, hc, List.getElem_drop]⟩

/-- what the second append leaves -/
theorem own_put {l rest : List Int} {n : Int} {k m : Nat} {cs : List Value} {w : World} {B : Nat} {v : Value} (hp : PC.put l n = l.take k ++ n :: rest) (hcs : cs = rest.map (Value.int .i64)) (hk : k ≤ l.length) (hm : m = rest.length)
    (hown : w.ownsRow B 3 1 v (k + 1 + m) ((l.take k).map (Value.int .i64) ++ [.int .i64 n] ++ cs)) (hr : ∀ x ∈ l, rng x) (hn : rng n) : OwnI w B v (PC.put l n) := by
  subst hcs
  subst hm
  refine ⟨?_, fun x hx => ?_⟩
  · have e1 : (PC.put l n).length = k + 1 + rest.length := by rw [hp]; simp; omega
    have e2 : (PC.put l n).map (Value.int .i64) = (l.take k).map (Value.int .i64) ++ [.int .i64 n] ++ rest.map (Value.int .i64) := by rw [hp]; simp
    rw [e1, e2]; exact hown
  · rcases (PC.mem_put l n x).1 hx with h | h
    · exact hr x h
    · rw [h]; exact hn

set_option maxRecDepth 100000 in
set_option maxHeartbeats 1000000 in
theorem rPut_any (l : List Int) (v : Value) (n : Int) (w : World) (hv : Ints w v l) (hn : rng n) (hl : l.length ≤ 100000) :
    Calls Tryd.prog 36 #[v, .int .i64 n] w fun e w' => ∃ u, e = .returned u ∧ OwnI w' w.heap.size u (PC.put l n) ∧ Below w.heap.size w w' := by
  have hv0 := Lib.hid hv
  obtain ⟨ao, cap, rfl, hlc, hcm, hc⟩ := hv.open_
  have HC := Lib.hid hc
  clear hv hc
  have hnil : Hid (w.ownsRow w.heap.size 3 1 (.slice none 0 0) 0 []) := World.ownsRow_nil _ _ _ _
  go_enter Tryd.func36, Tryd.ntmps36
  go_wp2
  go_loopg [5, 6] l.length (fun gg s5 s6 wr => ∃ k : Nat, k ≤ l.length ∧ l.length - k ≤ gg ∧ s6 = .int .i64 k ∧ Hid (wr.ownsRow w.heap.size 3 1 s5 k ((l.take k).map (Value.int .i64))) ∧ Below w.heap.size w wr ∧ Aside (∀ j (hj : j < k) (h : j < l.length), l[j] < n))
  case atStart => exact ⟨0, Nat.zero_le _, by omega, rfl, hnil, Below.refl _ _, fun j hj => absurd hj (Nat.not_lt_zero _)⟩
  case round =>
    obtain ⟨k, hk, hg, rfl, hown, hbr, A⟩ := hrel
    by_cases hlt : k < l.length
    · obtain ⟨b, off, rfl, hbs, hyr, hcell⟩ := HC.out k hlt
      have hmea : ∀ g : Nat, l.length - k ≤ g → l.length - (k + 1) < g := fun g h => by omega
      have hcell0 := hcell
      have hcell := (hbr.cell hbs).trans hcell
      have htk : Hid ((l.take (k + 1)).map (Value.int .i64) = (l.take k).map (Value.int .i64) ++ [.int .i64 l[k]]) := by
        show _ = _
        rw [List.take_succ_eq_append_getElem hlt, List.map_append]; rfl
      obtain ⟨y, hy⟩ : ∃ y, l[k] = y := ⟨_, rfl⟩
      rw [hy] at hcell hcell0 htk hyr
      have HY := Lib.hid hy
      clear hy
      have hltz : (k : Int) < (l.length : Int) := by omega
      by_cases hyn : y < n
      · have HYN := Lib.hid hyn
        go_wp2_with (at_builtin; refine app_new rfl _ _ 22 rfl 3 1 8 _ Tryd.underlying22 infoInt rfl (by decide) (w0 := w) (B0 := w.heap.size) rfl hown.out hbr (Nat.le_refl _) hbr.size _ 1 1 rfl (by intro u hu; simp at hu; subst hu; rfl) rfl (by omega) (by omega) ?_; intro v3 w3 hown3 hb3 hbs3 hgr3)
        have hown4 : Hid (w3.ownsRow w.heap.size 3 1 v3 (k + 1) ((l.take (k + 1)).map (Value.int .i64))) := by rw [htk.out]; exact hown3
        clear hown3
        go_roundg (l.length - (k + 1))
        case measure => exact hmea _ hg
        case rel =>
          refine ⟨k + 1, by omega, by omega, by go_num, hown4, hb3, (show Aside _ from fun j hj h => ?_)⟩
          by_cases e : j = k
          · subst e; rw [HY.out]; exact HYN.out
          · exact A.out j (by omega) h
      · have hcl0 := hv0.out.1
        by_cases hye : y = n
        · have hye2 : (y == n) = true := by simpa using hye
          have HcA : Hid (∀ w', Below w.heap.size w w' → Cells w' 1 (.slice (some ⟨b, off + (k + 1), none⟩) (l.length - (k + 1)) (cap - (k + 1))) (l.length - (k + 1)) ((l.drop (k + 1)).map (Value.int .i64))) := fun w' hb' => by
            rw [List.map_drop]
            exact (hcl0.mono hb').drop1 (k + 1) (by omega)
          have hone : ∀ u ∈ (l.drop (k + 1)).map (Value.int .i64), u.oneCell' = true := fun u hu => by
            obtain ⟨x, _, rfl⟩ := List.mem_map.1 hu
            rfl
          have hp := Lib.hid (PC.put_at l n k hk (fun j hj => A.out j hj (by omega)) (fun _ => by rw [HY.out]; omega))
          have hp1 : Hid (PC.put l n = l.take k ++ n :: l.drop (k + 1)) := by
            show _ = _
            rw [hp.out, dif_pos hlt, if_pos (HY.out.trans hye)]
          have hrl := Lib.hid hv0.out.2
          clear hcl0 hp
          by_cases hci : cap = k + 1
          · have hz : ∀ w' a, Cells w' 1 (.slice (some a) 0 0) 0 ([] : List Value) := fun w' a => ⟨_, _, rfl, Nat.le_refl _, by omega, (fun h => by cases h), rfl, (fun j hj => by simp at hj)⟩
            have hp2 : Hid (PC.put l n = l.take k ++ n :: []) := by
              show _ = _
              rw [hp1.out, List.drop_eq_nil_of_le (by omega)]
            clear HcA
            subst hci
            go_wp2_with (first | (at_builtin; have _ := hown3; refine app_cells rfl _ _ 22 rfl 3 1 8 _ Tryd.underlying22 infoInt rfl (by decide) (w0 := w) (B0 := w.heap.size) rfl hown3 hb3 (Nat.le_refl _) hb3.size rfl (by exact hz _ _) (by simp) (by omega) (by omega) ?_; intro v5 w5 hown5 hb5 hbs5 hgr5) | (at_builtin; refine app_new rfl _ _ 22 rfl 3 1 8 _ Tryd.underlying22 infoInt rfl (by decide) (w0 := w) (B0 := w.heap.size) rfl hown.out hbr (Nat.le_refl _) hbr.size _ 1 1 rfl (by intro u hu; simp at hu; subst hu; rfl) rfl (by omega) (by omega) ?_; intro v3 w3 hown3 hb3 hbs3 hgr3; have hc3 := (hb3.cell hbs).trans hcell0))
            go_ret
            exact ⟨_, rfl, own_put (rest := []) hp2.out rfl hk rfl hown5 hrl.out hn, hb5⟩
          · go_wp2_with (first | (at_builtin; have _ := hown3; refine app_cells rfl _ _ 22 rfl 3 1 8 _ Tryd.underlying22 infoInt rfl (by decide) (w0 := w) (B0 := w.heap.size) rfl hown3 hb3 (Nat.le_refl _) hb3.size rfl (by exact HcA.out _ hb3) hone (by omega) (by omega) ?_; intro v5 w5 hown5 hb5 hbs5 hgr5) | (at_builtin; refine app_new rfl _ _ 22 rfl 3 1 8 _ Tryd.underlying22 infoInt rfl (by decide) (w0 := w) (B0 := w.heap.size) rfl hown.out hbr (Nat.le_refl _) hbr.size _ 1 1 rfl (by intro u hu; simp at hu; subst hu; rfl) rfl (by omega) (by omega) ?_; intro v3 w3 hown3 hb3 hbs3 hgr3; have hc3 := (hb3.cell hbs).trans hcell0))
            go_ret
            exact ⟨_, rfl, own_put (rest := l.drop (k + 1)) hp1.out rfl hk (by rw [List.length_drop]) hown5 hrl.out hn, hb5⟩
        · have hye2 : (y == n) = false := by simpa using hye
          have HcA : Hid (∀ w', Below w.heap.size w w' → Cells w' 1 (.slice (some ⟨b, off + k, none⟩) (l.length - k) (cap - k)) (l.length - k) ((l.drop k).map (Value.int .i64))) := fun w' hb' => by
            rw [List.map_drop]
            exact (hcl0.mono hb').drop1 k hk
          have hone : ∀ u ∈ (l.drop k).map (Value.int .i64), u.oneCell' = true := fun u hu => by
            obtain ⟨x, _, rfl⟩ := List.mem_map.1 hu
            rfl
          have hp := Lib.hid (PC.put_at l n k hk (fun j hj => A.out j hj (by omega)) (fun _ => by rw [HY.out]; omega))
          have hp1 : Hid (PC.put l n = l.take k ++ n :: l.drop k) := by
            show _ = _
            rw [hp.out, dif_pos hlt, if_neg (by rw [HY.out]; exact hye)]
          have hrl := Lib.hid hv0.out.2
          have hci : ¬ cap = k := by omega
          clear hcl0 hp
          go_wp2_with (first | (at_builtin; have _ := hown3; refine app_cells rfl _ _ 22 rfl 3 1 8 _ Tryd.underlying22 infoInt rfl (by decide) (w0 := w) (B0 := w.heap.size) rfl hown3 hb3 (Nat.le_refl _) hb3.size rfl (by exact HcA.out _ hb3) hone (by omega) (by omega) ?_; intro v5 w5 hown5 hb5 hbs5 hgr5) | (at_builtin; refine app_new rfl _ _ 22 rfl 3 1 8 _ Tryd.underlying22 infoInt rfl (by decide) (w0 := w) (B0 := w.heap.size) rfl hown.out hbr (Nat.le_refl _) hbr.size _ 1 1 rfl (by intro u hu; simp at hu; subst hu; rfl) rfl (by omega) (by omega) ?_; intro v3 w3 hown3 hb3 hbs3 hgr3; have hc3 := (hb3.cell hbs).trans hcell0))
          go_ret
          exact ⟨_, rfl, own_put (rest := l.drop k) hp1.out rfl hk (by rw [List.length_drop]) hown5 hrl.out hn, hb5⟩
    · have hltz : ¬ (k : Int) < (l.length : Int) := by omega
      obtain rfl : k = l.length := by omega
      have h0 : ao = none → cap = 0 := by
        obtain ⟨ao', cap', e, _, _, h0, _⟩ := hv0.out.1
        cases e
        exact h0
      have hz : ∀ w' (x : Option Addr) c, c ≤ 9223372036854775807 → (x = none → c = 0) → Cells w' 1 (.slice x 0 c) 0 ([] : List Value) := fun w' x c h1 h2 => ⟨_, _, rfl, Nat.zero_le _, h1, h2, rfl, (fun j hj => by simp at hj)⟩
      have hp := Lib.hid (PC.put_at l n l.length (Nat.le_refl _) (fun j hj => A.out j hj (by omega)) (fun h => absurd h (Nat.lt_irrefl _)))
      have hp2 : Hid (PC.put l n = l.take l.length ++ n :: []) := by
        show _ = _
        rw [hp.out, dif_neg (Nat.lt_irrefl _)]
      have hrl := Lib.hid hv0.out.2
      clear hg hk hlt hp
      cases ao with
      | none =>
        have hc0 := h0 rfl
        have hl0 : l.length = 0 := by omega
        go_wp2_with (first | (at_builtin; have _ := hown3; refine app_cells rfl _ _ 22 rfl 3 1 8 _ Tryd.underlying22 infoInt rfl (by decide) (w0 := w) (B0 := w.heap.size) rfl hown3 hb3 (Nat.le_refl _) hb3.size rfl (by exact hz _ none 0 (by omega) (fun _ => rfl)) (by simp) (by omega) (by omega) ?_; intro v5 w5 hown5 hb5 hbs5 hgr5) | (at_builtin; refine app_new rfl _ _ 22 rfl 3 1 8 _ Tryd.underlying22 infoInt rfl (by decide) (w0 := w) (B0 := w.heap.size) rfl hown.out hbr (Nat.le_refl _) hbr.size _ 1 1 rfl (by intro u hu; simp at hu; subst hu; rfl) rfl (by omega) (by omega) ?_; intro v3 w3 hown3 hb3 hbs3 hgr3))
        go_ret
        exact ⟨_, rfl, own_put (rest := []) hp2.out rfl (Nat.le_refl _) rfl hown5 hrl.out hn, hb5⟩
      | some a =>
        by_cases hci : cap = l.length
        · go_wp2_with (first | (at_builtin; have _ := hown3; refine app_cells rfl _ _ 22 rfl 3 1 8 _ Tryd.underlying22 infoInt rfl (by decide) (w0 := w) (B0 := w.heap.size) rfl hown3 hb3 (Nat.le_refl _) hb3.size rfl (by exact hz _ _ 0 (by omega) (fun _ => rfl)) (by simp) (by omega) (by omega) ?_; intro v5 w5 hown5 hb5 hbs5 hgr5) | (at_builtin; refine app_new rfl _ _ 22 rfl 3 1 8 _ Tryd.underlying22 infoInt rfl (by decide) (w0 := w) (B0 := w.heap.size) rfl hown.out hbr (Nat.le_refl _) hbr.size _ 1 1 rfl (by intro u hu; simp at hu; subst hu; rfl) rfl (by omega) (by omega) ?_; intro v3 w3 hown3 hb3 hbs3 hgr3))
          go_ret
          exact ⟨_, rfl, own_put (rest := []) hp2.out rfl (Nat.le_refl _) rfl hown5 hrl.out hn, hb5⟩
        · go_wp2_with (first | (at_builtin; have _ := hown3; refine app_cells rfl _ _ 22 rfl 3 1 8 _ Tryd.underlying22 infoInt rfl (by decide) (w0 := w) (B0 := w.heap.size) rfl hown3 hb3 (Nat.le_refl _) hb3.size rfl (by exact hz _ _ (cap - l.length) (by omega) (by intro h; cases h)) (by simp) (by omega) (by omega) ?_; intro v5 w5 hown5 hb5 hbs5 hgr5) | (at_builtin; refine app_new rfl _ _ 22 rfl 3 1 8 _ Tryd.underlying22 infoInt rfl (by decide) (w0 := w) (B0 := w.heap.size) rfl hown.out hbr (Nat.le_refl _) hbr.size _ 1 1 rfl (by intro u hu; simp at hu; subst hu; rfl) rfl (by omega) (by omega) ?_; intro v3 w3 hown3 hb3 hbs3 hgr3))
          go_ret
          exact ⟨_, rfl, own_put (rest := []) hp2.out rfl (Nat.le_refl _) rfl hown5 hrl.out hn, hb5⟩

end Go.Proofs.YtmnionocehflmaaDoor
