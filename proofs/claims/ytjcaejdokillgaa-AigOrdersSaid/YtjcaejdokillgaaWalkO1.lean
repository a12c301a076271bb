/- Contracts: literals in a circuit put in order. -/
import Derived.Test.YtjcaejdokillgaaWalkC8
import Derived.Test.YtjcaejdokillgaaPlainA2
import Derived.Test.YtjcaejdokillgaaLibS
import Derived.BigRegion
import Derived.Deep.Onto
import Derived.Deep.QuietTactic
namespace Go.Proofs.Ytjcaejdokillgaa
open Go.RowKit Go.Shelf
attribute [local simp] mk_get

theorem litsMake_bit (v : Int) (b : Bool) (w : World) (h0 : 0 ≤ v) (h1 : v ≤ 1000000) : Calls Try.prog 45 #[.int .i64 v, .bool b] w fun e w' => e = .returned (.int .i64 (2 * v + (if b then 1 else 0))) ∧ w = w' := by
  have h2 : ¬ v < 0 := by omega
  have h3 : ¬ v > 1099511627776 := by omega
  cases b with
  | true =>
    go_enter Try.func45, Try.ntmps45
    go_wp2
    go_ret
    exact ⟨rfl, rfl⟩
  | false =>
    go_enter Try.func45, Try.ntmps45
    go_wp2
    go_ret
    exact ⟨by simp, rfl⟩

/-- the places of a circuit's variables -/
def tab (c : PC.Circ) : List Int := (List.range (c.max.toNat + 1)).map fun v => (PA.place c.defs v : Int)
theorem tab_len (c : PC.Circ) : (tab c).length = c.max.toNat + 1 := by simp [tab]
theorem tab_get (c : PC.Circ) (v : Nat) (h : v < (tab c).length) : (tab c)[v] = (PA.place c.defs v : Int) := by simp [tab]

theorem place_le : ∀ (l : List Int) (v : Nat), PA.place l v ≤ l.length := by
  intro l
  induction l with
  | nil => intro v; exact Nat.le_refl _
  | cons d r ih =>
    intro v
    simp only [PA.place, List.length_cons]
    have := ih v
    split
    · omega
    · split <;> omega

theorem defs_few (c : PC.Circ) (h : PC.Right c) : c.defs.length ≤ 2176 := by
  have := PC.ands_len c h
  have := h.ins
  have := h.lats
  unfold PC.Circ.defs
  simp only [List.length_append, List.length_map]
  omega

theorem ol_rng (c : PC.Circ) (h : PC.Right c) (l : Int) : 0 ≤ PA.ol c l ∧ PA.ol c l ≤ 10000 := by
  have h1 := place_le c.defs (PC.varOf l)
  have h2 := defs_few c h
  unfold PA.ol
  split <;> omega

set_option maxRecDepth 100000 in
set_option maxHeartbeats 2000000 in
theorem aLit_any (c : PC.Circ) (hR : PC.Right c) (l : Int) (vo : Value) (w : World) (hO : Ints w vo (tab c)) (h0 : 0 ≤ l) (h1 : l ≤ 2 * c.max + 1) :
    Calls Try.prog 27 #[vo, .int .i64 l] w fun e w' => e = .returned (.int .i64 (PA.ol c l)) ∧ Below w.heap.size w w' := by
  have hm0 := hR.max0
  have hm1 := hR.max1
  have hv : PC.varOf l < (tab c).length := by rw [tab_len]; unfold PC.varOf; omega
  have hpl := place_le c.defs (PC.varOf l)
  have hdf := defs_few c hR
  obtain ⟨ao, cap, rfl, o1, o2, o3⟩ := hO.open_
  obtain ⟨b, off, rfl, hbs, hrv, hc⟩ := o3 _ hv
  rw [tab_get c _ hv] at hc
  have hV : ∀ x : Later w, _ := fun x => litsVar_any l x.at_ (by unfold rng; omega)
  have hN : ∀ x : Later w, _ := fun x => litsNeg_any l x.at_ (by unfold rng; omega)
  have hM : ∀ x : Later w, _ := fun x => litsMake_bit (PA.place c.defs (PC.varOf l) : Int) (PC.negOf l) x.at_ (by omega) (by omega)
  have hc : ∀ x : Later w, x.at_.cell? ⟨b, off + PC.varOf l, none⟩ = some (.int .i64 (PA.place c.defs (PC.varOf l) : Int)) := fun x => (x.below.cell hbs).trans hc
  have hvz : (PC.varOf l : Int) < ((tab c).length : Int) := by omega
  rw [show 2 * (PA.place c.defs (PC.varOf l) : Int) + (if PC.negOf l then 1 else 0) = PA.ol c l from rfl] at hM
  generalize PA.place c.defs (PC.varOf l) = p at *
  generalize PC.varOf l = v at *
  generalize PC.negOf l = n at *
  clear o3 hO h0 h1 hm0 hm1 hpl hdf hR hrv hv
  generalize (tab c).length = N at *
  obtain ⟨Q, hQ⟩ : ∃ Q, Q = PA.ol c l := ⟨_, rfl⟩
  rw [← hQ] at hM ⊢
  clear hQ
  go_enter Try.func27, Try.ntmps27
  go_wp2_with fail
  refine wp_region_later (by kernel_rfl) (by kernel_rfl) ?_; (repeat (go_big_quiet_step ((first | (go_at_call 47; with_reducible exact Calls.later_same (hV _)) | (go_at_call 48; with_reducible exact Calls.later_same (hN _)) | (go_at_call 45; with_reducible exact Calls.later_same (hM _)))))); refine wpQuiet_nil ?_; rintro w3 ⟨⟨_, hb3⟩, rfl⟩
  clear hV hN hM hc
  go_wp2_with fail
  go_ret
  exact ⟨rfl, hb3⟩

theorem infoI' : (Try.prog.info? 3).map (fun i => (i.zero, i.size, i.bytes)) = some (some (.int .i64 0), 1, 8) := by kernel_rfl
def OwnI (w : World) (B : Nat) (v : Value) (l : List Int) : Prop := w.ownsRow B 3 1 v l.length (l.map (Value.int .i64)) ∧ ∀ x ∈ l, rng x
theorem owns_below' {w w' : World} {B : Nat} {e : TypeId} {k n : Nat} {v : Value} {xs : List Value} (h : w.ownsRow B e k v n xs) (hb : Below w.heap.size w w') : w'.ownsRow B e k v n xs :=
  h.kept ⟨hb.os, hb.tape, hb.output, hb.size, fun b hb' _ => hb.block b hb'⟩ (row := none) (by cases v.ownBlock <;> simp)
theorem OwnI.ints {w : World} {B : Nat} {v : Value} {l : List Int} (h : OwnI w B v l) : Ints w v l := ⟨Cells.of_owns h.1, h.2⟩
theorem OwnI.mono {w w' : World} {B : Nat} {v : Value} {l : List Int} (h : OwnI w B v l) (hb : Below w.heap.size w w') : OwnI w' B v l := ⟨owns_below' h.1 hb, h.2⟩
theorem OwnI.base {w : World} {B B' : Nat} {v : Value} {l : List Int} (h : OwnI w B v l) (hb : B' ≤ B) : OwnI w B' v l := ⟨World.ownsRow.mono h.1 hb, h.2⟩

set_option maxRecDepth 100000 in
set_option maxHeartbeats 2000000 in
theorem aAll_any (c : PC.Circ) (hR : PC.Right c) (l : List Int) (vo vl : Value) (w : World) (hO : Ints w vo (tab c)) (hv : Ints w vl l) (hr : ∀ x ∈ l, 0 ≤ x ∧ x ≤ 2 * c.max + 1) (hl : l.length ≤ 64) :
    Calls Try.prog 25 #[vo, vl] w fun e w' => ∃ u, e = .returned u ∧ OwnI w' w.heap.size u (l.map (PA.ol c)) ∧ Below w.heap.size w w' := by
  have HO := Lib.hid hO
  have HR := Lib.hid hr
  obtain ⟨ao, cap, rfl, hi1, hi2, hi3⟩ := hv.open_
  have HI := Lib.hid hi3
  clear hi3 hv hO hr
  obtain ⟨i, hi, hz0, hz1, hz2⟩ := info_parts infoI'
  go_enter Try.func25, Try.ntmps25
  go_wp2_with (at_make; refine wpList_make_own w rfl _ _ 22 rfl w.heap.size 3 i (.int .i64 0) 1 Try.underlying22 hi hz0 hz1 .i64 .i64 _ l.length rfl rfl rfl (by rw [hz2]; omega) (by unfold maxLen; omega) (Nat.le_refl _) ?_; intro w1 hown1 hgr1)
  have hb1 : Below w.heap.size w w1 := (Below.refl _ _).grown hgr1 (Nat.le_refl _) (by intro k e; cases e)
  go_loopg [5, 13] l.length (fun gg s5 s13 wr => ∃ k : Nat, k ≤ l.length ∧ l.length - k ≤ gg ∧ s13 = .int .i64 k ∧ Hid (Below w.heap.size w wr) ∧ Aside (wr.ownsRow w.heap.size 3 1 s5 k (((l.take k).map (PA.ol c)).map (Value.int .i64))))
  case atStart => exact ⟨0, Nat.zero_le _, by omega, rfl, hb1, by simpa [Aside] using hown1⟩
  case round =>
    obtain ⟨k, hk, hg, rfl, hbr, hown⟩ := hrel
    by_cases hlt : k < l.length
    · obtain ⟨b', off, rfl, hbs, hry, hc⟩ := HI.out k hlt
      have hmea : ∀ g : Nat, l.length - k ≤ g → l.length - (k + 1) < g := fun g h => by omega
      have hc := (hbr.out.cell hbs).trans hc
      have hstep : Hid (((l.take (k + 1)).map (PA.ol c)).map (Value.int .i64) = ((l.take k).map (PA.ol c)).map (Value.int .i64) ++ [Value.int .i64 (PA.ol c l[k])]) := by
        show _ = _
        rw [List.take_succ_eq_append_getElem hlt]
        simp only [List.map_append, List.map_cons, List.map_nil]
      have hy := HR.out _ (List.getElem_mem hlt)
      generalize l[k] = y at *
      have hltz : (k : Int) < (l.length : Int) := by omega
      have hL := Lib.hid (aLit_any c hR y vo wr (HO.out.mono hbr.out) hy.1 hy.2)
      generalize PA.ol c y = z at *
      have hkk : k ≤ 64 := by omega
      clear hry hy
      go_wp2_with (first | (go_at_call 27; refine hL.out.mono ?_; rintro e w2 ⟨rfl, hb2⟩; have hown2 := owns_below' hown.out hb2; have hbb := Below.of hbr.out hb2) | (at_builtin; refine app_new rfl _ _ 22 rfl 3 1 8 _ Try.underlying22 infoI' rfl (by decide) (w0 := w) (B0 := w.heap.size) rfl hown2 hbb (Nat.le_refl _) hbb.size _ 1 1 rfl (by intro u hu; simp at hu; subst hu; rfl) rfl (by omega) (by omega) ?_; intro v4 w4 hown4 hb4 hbs4 hgr4))
      go_roundg (l.length - (k + 1))
      case measure => exact hmea _ hg
      case rel =>
        refine ⟨k + 1, by omega, by omega, by go_num, hb4, ?_⟩
        rw [hstep.out]
        exact hown4
    · have hltz : ¬ (k : Int) < (l.length : Int) := by omega
      obtain rfl : k = l.length := by omega
      have hOut : Hid (OwnI wr w.heap.size u5 (l.map (PA.ol c))) := by
        refine ⟨?_, fun x hx => ?_⟩
        · have := hown.out
          rw [List.take_length] at this
          rw [List.length_map]
          exact this
        · obtain ⟨y, hy, rfl⟩ := List.mem_map.1 hx
          have := ol_rng c hR y
          unfold rng; omega
      clear hown hg hk hlt
      go_wp2_with fail
      go_ret
      exact ⟨_, rfl, hOut.out, hbr.out⟩

end Go.Proofs.Ytjcaejdokillgaa
