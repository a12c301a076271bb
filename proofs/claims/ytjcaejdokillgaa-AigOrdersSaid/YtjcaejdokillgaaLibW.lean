/- A region that draws and appends: one operation writes into what another one has read. -/
import Derived.Test.YtjcaejdokillgaaLibS
namespace Go.Proofs.Ytjcaejdokillgaa
open Go Go.RowKit Go.Shelf

section
variable {P : Program} {ops : Array Oper}
/-- one operation's premise -/
def StepOK2 (P : Program) (ops : Array Oper) (n p : Nat) (G : Nat → Value → World → Prop) (kill : Nat → Nat → Bool) (C : Bool → World → Prop) (a : Act) (ds : List (Option Tmp)) (i : Nat) (o : Oper) : Prop :=
  ∀ b vs y, (i = p → b = false) → C b y → (∀ j, j < n → Region.waitsFor .any ops i j = true → G j (vs j) y) →
    wpList P ops (plainQ fun a' y' => ∃ v, a' = (lexPut (ds.take i) 0 vs a).put o.dst v ∧ C (b || decide (i = p)) y' ∧ G i v y' ∧ ∀ j, j < n → j ≠ i → kill i j = false → G j (vs j) y → G j (vs j) y') [o] (lexPut (ds.take i) 0 vs a) y

def StepsOK2 (P : Program) (ops : Array Oper) (n p : Nat) (G : Nat → Value → World → Prop) (kill : Nat → Nat → Bool) (C : Bool → World → Prop) (a : Act) (ds : List (Option Tmp)) : List Oper → Nat → Prop
  | [], _ => True
  | o :: r, i => StepOK2 P ops n p G kill C a ds i o ∧ StepsOK2 P ops n p G kill C a ds r (i + 1)

theorem StepsOK2.get {n p : Nat} {G : Nat → Value → World → Prop} {kill : Nat → Nat → Bool} {C : Bool → World → Prop} {a : Act} {ds : List (Option Tmp)} : ∀ (l : List Oper) (k : Nat), StepsOK2 P ops n p G kill C a ds l k →
    ∀ i o, l[i]? = some o → StepOK2 P ops n p G kill C a ds (k + i) o
  | [], _, _, i, o, h => by simp at h
  | x :: r, k, hs, i, o, h => by
    cases i with
    | zero =>
      have : x = o := by simpa using h
      subst this
      exact hs.1
    | succ i =>
      have := StepsOK2.get r (k + 1) hs.2 i o (by simpa using h)
      rwa [show k + 1 + i = k + (i + 1) by omega] at this

theorem wp_region_once {id : Nat} {Q : Exit → Act → World → Prop} {a : Act} {w : World} {l : List Oper} (n p : Nat) (hp : p < n) (kill : Nat → Nat → Bool) (G : Nat → Value → World → Prop) (C : Bool → World → Prop)
    (hm : P.follows .mixedOrders = true) (hB : factsB l.toArray n kill a.tmps.size = true) (ds : List (Option Tmp)) (hds : ds = (l.take n).map (·.dst)) (hC : C false w.drew)
    (steps : StepsOK2 P l.toArray n p G kill C a ds (l.take n) 0)
    (tail : ∀ vs y, C true y → (∀ j, j < n → (∀ i, i < n → kill i j = false) → G j (vs j) y) → wpList P l.toArray Q (l.drop n) (lexPut ds 0 vs a) y) : (Code.region id l.toArray true).wp P Q a w := by
  simp only [factsB, Bool.and_eq_true, decide_eq_true_eq] at hB
  obtain ⟨⟨⟨⟨⟨hsel, hn⟩, hs⟩, hc⟩, hseq⟩, hall⟩ := hB
  have hnl : n < l.length := by simpa using hn
  have shape : ∀ i, i < n → ∃ o d, l.toArray[i]? = some o ∧ o.dst = some d ∧ d < a.tmps.size ∧ (∀ e ∈ o.after, Region.binds .any e = true → e.on < i) ∧
      (∀ j d', j < n → dstOf l.toArray j = some d' → (d' ∈ o.looksAt l.toArray → Region.waitsFor .any l.toArray i j = true ∧ j < i) ∧ (j ≠ i → o.dst ≠ some d')) ∧
      (∀ j, j < n → kill i j = true → Region.waitsFor .any l.toArray i j = true ∧ ∀ k, k < n → k ≠ i → Region.waitsFor .any l.toArray k j = false) := by
    intro i hi
    have h := List.all_eq_true.1 hall i (List.mem_range.2 hi)
    split at h
    · cases h
    · rename_i o ho
      simp only [Bool.and_eq_true] at h
      obtain ⟨⟨h1, h2⟩, h3⟩ := h
      split at h1
      · rename_i d hd
        refine ⟨o, d, ho, hd, of_decide_eq_true h1, fun e he hb => ?_, fun j d' hj hd' => ?_, fun j hj hk => ?_⟩
        · have := Array.all_eq_true_iff_forall_mem.1 h2 e he
          simp only [Bool.or_eq_true, Bool.not_eq_true', decide_eq_true_eq] at this
          rcases this with h | h
          · rw [hb] at h; cases h
          · exact h
        · have h4 := List.all_eq_true.1 h3 j (List.mem_range.2 hj)
          rw [hd'] at h4
          simp only [Bool.and_eq_true, Bool.or_eq_true, Bool.not_eq_true', decide_eq_true_eq, beq_iff_eq, bne_iff_ne] at h4
          refine ⟨fun hx => ?_, fun hx => ?_⟩
          · rcases h4.1.1 with h | h
            · have hx' : (o.looksAt l.toArray).contains d' = true := by simpa using hx
              rw [hx'] at h; cases h
            · exact h
          · rcases h4.1.2 with h | h
            · exact absurd h hx
            · exact h
        · have h4 := List.all_eq_true.1 h3 j (List.mem_range.2 hj)
          simp only [Bool.and_eq_true] at h4
          have h5 := h4.2
          rw [hk] at h5
          simp only [Bool.not_true, Bool.false_or, Bool.and_eq_true] at h5
          refine ⟨h5.1, fun k hk2 hne => ?_⟩
          have := List.all_eq_true.1 h5.2 k (List.mem_range.2 hk2)
          simp only [Bool.or_eq_true, beq_iff_eq, Bool.not_eq_true'] at this
          exact this.resolve_left hne
      · cases h1
  have main : ∀ (f : Nat) (listed : Array Bool) (vs : Nat → Value) (y : World), leftOf listed n = f → HeadInv .any l.toArray n listed → C (listed.getD p false) y →
      (∀ j, j < n → listed.getD j false = true → (∀ i, i < n → kill i j = true → listed.getD i false = false) → G j (vs j) y) →
      wpAny P .any l.toArray Q (f + (l.toArray.size - n)) listed (actOf l.toArray vs (fun j => listed.getD j false) a n) y := by
    intro f
    induction f with
    | zero =>
      intro listed vs y hf inv hCy hG
      have hdone := leftOf_zero listed n hf
      have hlist : listed = ((List.range l.toArray.size).map (fun j => decide (j < n))).toArray := by
        apply Array.ext
        · rw [inv.size]; simp
        · intro j h1 h2
          have hj : j < l.toArray.size := by rw [← inv.size]; exact h1
          have e1 : listed[j] = listed.getD j false := by simp [h1]
          rw [e1]
          by_cases hjn : j < n
          · rw [hdone j hjn]; simp [hjn]
          · have := getD_both (inv.tail j (by omega) hj)
            rw [this]; simp [hjn]
      have hact : actOf l.toArray vs (fun j => listed.getD j false) a n = lexPut ds 0 vs a := by
        rw [actOf_lex vs _ a n (by omega) hdone, hds]
      rw [Nat.zero_add, hact]
      have hlen : (l.drop n).length = l.toArray.size - n := by simp
      rw [← hlen]
      refine wpAny_of_seq (l.drop n) n listed _ y (fun j => by simp [List.getElem?_drop]) ?_ (tail vs y (by rw [hdone p hp] at hCy; exact hCy) fun j hj hk => hG j hj (hdone j hj) fun i hi h => (by rw [hk i hi] at h; cases h))
      rw [hlen, hlist]; exact hseq
    | succ f ih =>
      intro listed vs y hf inv hCy hG
      have e : f + 1 + (l.toArray.size - n) = (f + (l.toArray.size - n)) + 1 := by omega
      rw [e]
      obtain ⟨i0, hi0, hun0, hlow0⟩ := leftOf_pos listed n f hf
      have hi0s : i0 < listed.size := by rw [inv.size]; omega
      refine ⟨fun hnil => ?_, fun i hir => ?_⟩
      · exfalso
        obtain ⟨o, d, ho, _, _, hafter, _⟩ := shape i0 hi0
        have : i0 ∈ Region.ready .any l.toArray listed := mem_ready.2 ⟨getD_in hi0s hun0, o, ho, fun e he hb => hlow0 _ (hafter e he hb)⟩
        rw [hnil] at this
        cases this
      · have hin : i < n := by
          rcases Nat.lt_or_ge i n with h | h
          · exact h
          · exact absurd hir (tail_waits hs hc hn inv _ i0 rfl hi0 (getD_in hi0s hun0) i h)
        obtain ⟨hiun, o', ho', hdeps⟩ := mem_ready.1 hir
        obtain ⟨o, d, ho, hd, hdsz, hafter, hslots, hkill⟩ := shape i hin
        obtain rfl : o' = o := Option.some.inj (ho'.symm.trans ho)
        have hiun' := getD_both hiun
        have hisz : i < listed.size := by rw [inv.size]; omega
        -- what it waits for is done
        have hwait : ∀ j, Region.waitsFor .any l.toArray i j = true → listed.getD j false = true := fun j hj => by
          obtain ⟨oj, hoj, e, he, hb, hon⟩ := Region.waitsFor_spec hj
          obtain rfl : oj = o' := Option.some.inj (hoj.symm.trans ho)
          rw [← hon]
          exact hdeps e he hb
        have hstep := StepsOK2.get (l.take n) 0 steps i o' (by rw [List.getElem?_take, if_pos hin]; simpa using ho)
        rw [Nat.zero_add] at hstep
        have hfacts : ∀ j, j < n → Region.waitsFor .any l.toArray i j = true → G j (vs j) y := fun j hj hwt => hG j hj (hwait j hwt) fun k hk hkl => by
          by_cases e : k = i
          · subst e; exact hiun'
          · obtain ⟨_, _, _, _, _, _, _, hkill'⟩ := shape k hk
            have := (hkill' j hj hkl).2 i hin (Ne.symm e)
            rw [hwt] at this; cases this
        have hst := hstep (listed.getD p false) vs y (fun e => by subst e; exact hiun') hCy hfacts
        have hlexi : lexPut (ds.take i) 0 vs a = actOf l.toArray vs (fun j => decide (j < i)) a n := by
          have : n = i + (n - i) := by omega
          rw [this, actOf_more vs _ a i (n - i) (fun j hj => by simp; omega), actOf_lex vs _ a i (by omega) (fun j hj => by simp [hj]), hds, ← List.map_take, List.take_take, Nat.min_eq_left (by omega)]
        have hslot : ∀ t, t ∈ o'.looksAt l.toArray → (actOf l.toArray vs (fun j => listed.getD j false) a n).tmps[t]? = (lexPut (ds.take i) 0 vs a).tmps[t]? := fun t ht => by
          rw [hlexi]
          refine actOf_slot vs vs _ _ a t n fun j hj hdj => ⟨?_, fun _ => rfl⟩
          obtain ⟨h1, h2⟩ := (hslots j t hj hdj).1 ht
          rw [hwait j h1]; simp [h2]
        have hsel' := fun cs b => Region.noSelect_spec hsel i o' cs b ho
        refine wpOp_of_plain (R := fun v y' => C (listed.getD p false || decide (i = p)) y' ∧ G i v y' ∧ ∀ j, j < n → j ≠ i → kill i j = false → G j (vs j) y → G j (vs j) y') ho (execOp_slots o' hsel' _ _ hslot) (wanted_slots o' _ _ hslot) hd
          (by rw [hlexi, actOf_size]; exact hdsz) ?_ ?_
        · exact hst
        · intro v y' ⟨hC', hGi, hrest⟩
          have hset : ∀ j, (listed.setIfInBounds i true).getD j false = if j = i then true else listed.getD j false := fun j => by
            by_cases e : j = i
            · subst e; rw [if_pos rfl]; simp [hisz]
            · rw [if_neg e, getD_set_ne false (Ne.symm e)]
          have hact := actOf_set (ops := l.toArray) vs (fun j => listed.getD j false) (fun j => (listed.setIfInBounds i true).getD j false) a i v hiun' hset (fun j => if j = i then v else vs j) (fun _ => rfl) n hin
            (fun j hj hne d' hd' hdj => by
              have := (hslots j d' hj hdj).2 hne
              have e1 : dstOf l.toArray i = o'.dst := by simp [dstOf, ho]
              rw [e1] at hd'
              exact this hd')
          have e1 : dstOf l.toArray i = o'.dst := by simp [dstOf, ho]
          rw [e1] at hact
          rw [← hact]
          refine ih _ _ y' ?_ (inv.set hir hin) (by
            rw [hset p]
            by_cases e : p = i
            · rw [if_pos e]; rw [decide_eq_true e.symm, Bool.or_true] at hC'; exact hC'
            · rw [if_neg e]; rw [decide_eq_false (Ne.symm e), Bool.or_false] at hC'; exact hC') ?_
          · have := (leftOf_set listed i hisz hiun' n).1 hin
            omega
          · intro j hj hjl hjk
            by_cases e : j = i
            · subst e; simpa using hGi
            · simp only [if_neg e]
              rw [hset j, if_neg e] at hjl
              have hki : kill i j = false := by
                cases hx : kill i j with
                | false => rfl
                | true =>
                  have := hjk i hin hx
                  rw [hset i, if_pos rfl] at this; cases this
              refine hrest j hj e hki (hG j hj hjl fun k hk hkl => ?_)
              have := hjk k hk hkl
              rw [hset k] at this
              by_cases ek : k = i
              · subst ek; exact hiun'
              · rwa [if_neg ek] at this
  refine wp_region_any hm ?_
  have inv : HeadInv .any l.toArray n (Array.replicate l.toArray.size false) :=
    ⟨by simp, fun j oj _ hl => (by rw [getD_replicate_false] at hl; cases hl), fun t _ ht => getD_in (by simpa using ht) (getD_replicate_false _ _)⟩
  have hleft : ∀ m, leftOf (Array.replicate l.toArray.size false) m = m := by
    intro m
    induction m with
    | zero => rfl
    | succ m ih => rw [leftOf, ih, getD_replicate_false]; rfl
  have := main n (Array.replicate l.toArray.size false) (fun _ => undef) w.drew (hleft n) inv (by rw [getD_replicate_false]; exact hC) fun j _ hl => (by rw [getD_replicate_false] at hl; cases hl)
  rw [actOf_none _ _ a n fun j _ => getD_replicate_false _ _, show n + (l.toArray.size - n) = l.toArray.size by omega] at this
  exact this

def StepOK1 (P : Program) (ops : Array Oper) (n p : Nat) (gs : List (Value → World → Prop)) (C : Bool → World → Prop) (a : Act) (ds : List (Option Tmp)) (i : Nat) (o : Oper) : Prop :=
  ∀ b vs y, (i = p → b = false) → C b y → (∀ j, j < n → Region.waitsFor .any ops i j = true → Facts gs j (vs j) y) →
    wpList P ops (plainQ fun a' y' => ∃ v, a' = (lexPut (ds.take i) 0 vs a).put o.dst v ∧ Facts gs i v y' ∧
      (if i = p then C true y' ∧ ∀ j, j < n → j ≠ p → Facts gs j (vs j) y → Facts gs j (vs j) y' else Below y.heap.size y y')) [o] (lexPut (ds.take i) 0 vs a) y

def StepsOK1 (P : Program) (ops : Array Oper) (n p : Nat) (gs : List (Value → World → Prop)) (C : Bool → World → Prop) (a : Act) (ds : List (Option Tmp)) : List Oper → Nat → Prop
  | [], _ => True
  | o :: r, i => StepOK1 P ops n p gs C a ds i o ∧ StepsOK1 P ops n p gs C a ds r (i + 1)

theorem steps_of1 {ops : Array Oper} {n p : Nat} {gs : List (Value → World → Prop)} {C : Bool → World → Prop} {a : Act} {ds : List (Option Tmp)} (hk : ∀ g ∈ gs, Keeps g) (hC : ∀ b (y y' : World), Below y.heap.size y y' → C b y → C b y') :
    ∀ (l : List Oper) (i : Nat), StepsOK1 P ops n p gs C a ds l i → StepsOK2 P ops n p (Facts gs) (fun _ _ => false) C a ds l i
  | [], _, _ => trivial
  | _o :: r, i, h => ⟨fun b vs y hb hy hd => wpList_one_mono (fun _ y' ⟨v, e, hg, hx⟩ => by
      refine ⟨v, e, ?_, hg, ?_⟩
      · by_cases e : i = p
        · rw [if_pos e] at hx
          rw [decide_eq_true e, Bool.or_true]; exact hx.1
        · rw [if_neg e] at hx
          rw [decide_eq_false e, Bool.or_false]; exact hC _ _ _ hx hy
      · intro j hj hne hkl hfj
        by_cases e : i = p
        · rw [if_pos e] at hx
          exact hx.2 j hj (by omega) hfj
        · rw [if_neg e] at hx
          exact keeps_of hk j _ _ _ hx hfj) (h.1 b vs y hb hy hd), steps_of1 hk hC r (i + 1) h.2⟩

/-- a region that draws: of its head operation p alone may write; the invariant says whether it has -/
theorem wp_region_write {id : Nat} {Q : Exit → Act → World → Prop} {a : Act} {w : World} {l : List Oper} (n p : Nat) (gs : List (Value → World → Prop)) (C : Bool → World → Prop) (ds : List (Option Tmp)) (hp : p < n)
    (hm : P.follows .mixedOrders = true) (hB : factsB l.toArray n (fun _ _ => false) a.tmps.size = true) (hds : ds = (l.take n).map (·.dst)) (hk : ∀ g ∈ gs, Keeps g) (hw : C false w.drew)
    (hC : ∀ b (y y' : World), Below y.heap.size y y' → C b y → C b y') (steps : StepsOK1 P l.toArray n p gs C a ds (l.take n) 0)
    (tail : ∀ vs y, C true y → (∀ j, j < n → Facts gs j (vs j) y) → wpList P l.toArray Q (l.drop n) (lexPut ds 0 vs a) y) : (Code.region id l.toArray true).wp P Q a w :=
  wp_region_once n p hp (fun _ _ => false) (Facts gs) C hm hB ds hds hw (steps_of1 hk hC _ _ steps) fun vs y hy hg => tail vs y hy fun j hj => hg j hj fun _ _ => rfl
end

end Go.Proofs.Ytjcaejdokillgaa
