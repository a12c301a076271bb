/- A region that draws its order, by facts and by an invariant that hangs on what has been done: any operation of its head may write. -/
import Derived.Test.YtpkaoabpifeigaaGreatDoorLibR
namespace Go.Proofs.YtpkaoabpifeigaaGreatDoor
open Go Go.RowKit

section
variable {P : Program} {ops : Array Oper}

theorem wpOp_of_plain' {i : Nat} {o : Oper} {a b : Act} {y : World} {Q : Exit → Act → World → Prop} {K : Act → World → Prop} {R : Value → World → Prop} (hi : ops[i]? = some o)
    (he : execOp a.eval o = execOp b.eval o) (hw : Region.wanted o (yielded ops a.tmps) = Region.wanted o (yielded ops b.tmps)) (hb : ∀ d, o.dst = some d → d < b.tmps.size)
    (h : wpList P ops (plainQ fun a' y' => ∃ v, a' = b.put o.dst v ∧ R v y') [o] b y) (hK : ∀ v y', R v y' → K (a.put o.dst v) y') : wpOp P ops Q i K a y := by
  have inj : ∀ u v, b.put o.dst u = b.put o.dst v → a.put o.dst u = a.put o.dst v := fun u v e => by
    cases hd : o.dst with
    | none => rfl
    | some d =>
      rw [hd] at e
      have := congrArg (fun x : Act => x.tmps[d]?) e
      have : u = v := by simpa [Act.put, hb d hd] using this
      rw [this]
  unfold Go.wpOp
  simp only [hi]
  simp only [wpList] at h
  rw [hw]
  split
  · rename_i hwt
    rw [if_pos hwt] at h
    rcases h with h | ⟨_, h⟩
    case inr => exact absurd h (plainQ_lets _)
    refine .inl ?_
    unfold Oper.wp at *
    rw [he]
    generalize (execOp b.eval o).run P y = r at *
    cases r with
    | ok n w' =>
      cases n <;> simp only [Oper.upon] at h ⊢
      case value u =>
        obtain ⟨v, e, hv⟩ := h
        rw [inj _ _ e]
        exact hK _ _ hv
      case skip =>
        obtain ⟨v, e, hv⟩ := h
        rw [inj _ _ e]
        exact hK _ _ hv
      case defer dd =>
        obtain ⟨v, e, hv⟩ := h
        have := congrArg Act.defers e
        rw [put_defers, put_defers] at this
        exact absurd this (by simp)
      case enter f args =>
        refine Calls.mono h fun e w'' he => ?_
        cases e with
        | returned u =>
          obtain ⟨v, e, hv⟩ := he
          show K (a.put o.dst u) w''
          rw [inj _ _ e]
          exact hK _ _ hv
        | panicked c => exact he.elim
        | outgrown => exact absurd he (plainQ_lets _)
      case row row args =>
        refine Rows.mono h fun u w'' he => ?_
        obtain ⟨v, e, hv⟩ := he
        rw [inj _ _ e]
        exact hK _ _ hv
    | halt x w' =>
      cases x <;> simp only [Oper.upon] at h ⊢
      case panic u => exact h.elim
  · rename_i hwt
    rw [if_neg hwt] at h
    obtain ⟨v, e, hv⟩ := h
    rw [inj _ _ e]
    exact hK _ _ hv

def factsG (ops : Array Oper) (n : Nat) (sz : Nat) : Bool :=
  Region.noSelect ops && decide (n ≤ ops.size) && (decide (ops.size ≤ n) || (Region.sinkB .any ops n && Region.chainB .any ops n)) &&
  Region.seqB .any ops (ops.size - n) n ((List.range ops.size).map (fun j => decide (j < n))).toArray &&
  (List.range n).all fun i => match ops[i]? with
    | none => false
    | some o => (match o.dst with | some d => decide (d < sz) | none => true) && (o.after.all fun e => !Region.binds .any e || decide (e.on < i)) &&
      (List.range n).all fun j =>
        match dstOf ops j with | some d => (!(o.looksAt ops).contains d || (Region.waitsFor .any ops i j && decide (j < i))) && (j == i || o.dst != some d) | none => true

/-- one operation's premise -/
def StepOKG (P : Program) (ops : Array Oper) (n : Nat) (G : Nat → Value → World → Prop) (C : (Nat → Bool) → World → Prop) (a : Act) (ds : List (Option Tmp)) (i : Nat) (o : Oper) : Prop :=
  ∀ s vs y, s i = false → (∀ j, Region.waitsFor .any ops i j = true → s j = true) → (∀ k, k < n → Region.waitsFor .any ops k i = true → s k = false) → C s y → (∀ j, j < n → Region.waitsFor .any ops i j = true → G j (vs j) y) →
    wpList P ops (plainQ fun a' y' => ∃ v, a' = (lexPut (ds.take i) 0 vs a).put o.dst v ∧ C (fun j => if j = i then true else s j) y' ∧ G i v y' ∧ ∀ j, j < n → j ≠ i → G j (vs j) y → G j (vs j) y') [o] (lexPut (ds.take i) 0 vs a) y

def StepsOKG (P : Program) (ops : Array Oper) (n : Nat) (G : Nat → Value → World → Prop) (C : (Nat → Bool) → World → Prop) (a : Act) (ds : List (Option Tmp)) : List Oper → Nat → Prop
  | [], _ => True
  | o :: r, i => StepOKG P ops n G C a ds i o ∧ StepsOKG P ops n G C a ds r (i + 1)

theorem StepsOKG.get {n : Nat} {G : Nat → Value → World → Prop} {C : (Nat → Bool) → World → Prop} {a : Act} {ds : List (Option Tmp)} : ∀ (l : List Oper) (k : Nat), StepsOKG P ops n G C a ds l k →
    ∀ i o, l[i]? = some o → StepOKG P ops n G C a ds (k + i) o
  | [], _, _, i, o, h => by simp at h
  | x :: r, k, hs, i, o, h => by
    cases i with
    | zero =>
      have : x = o := by simpa using h
      subst this
      exact hs.1
    | succ i =>
      have := StepsOKG.get r (k + 1) hs.2 i o (by simpa using h)
      rwa [show k + 1 + i = k + (i + 1) by omega] at this

theorem wp_region_gen {id : Nat} {Q : Exit → Act → World → Prop} {a : Act} {w : World} {l : List Oper} (n : Nat) (G : Nat → Value → World → Prop) (C : (Nat → Bool) → World → Prop)
    (hm : P.follows .mixedOrders = true) (hB : factsG l.toArray n a.tmps.size = true) (ds : List (Option Tmp)) (hds : ds = (l.take n).map (·.dst)) (hC : C (fun _ => false) w.drew)
    (steps : StepsOKG P l.toArray n G C a ds (l.take n) 0)
    (tail : ∀ s vs y, (∀ j, j < n → s j = true) → C s y → (∀ j, j < n → G j (vs j) y) → wpList P l.toArray Q (l.drop n) (lexPut ds 0 vs a) y) : (Code.region id l.toArray true).wp P Q a w := by
  simp only [factsG, Bool.and_eq_true, decide_eq_true_eq] at hB
  obtain ⟨⟨⟨⟨hsel, hn⟩, hsc⟩, hseq⟩, hall⟩ := hB
  have hnl : n ≤ l.length := by simpa using hn
  have shape : ∀ i, i < n → ∃ o, l.toArray[i]? = some o ∧ (∀ d, o.dst = some d → d < a.tmps.size) ∧ (∀ e ∈ o.after, Region.binds .any e = true → e.on < i) ∧
      (∀ j d', j < n → dstOf l.toArray j = some d' → (d' ∈ o.looksAt l.toArray → Region.waitsFor .any l.toArray i j = true ∧ j < i) ∧ (j ≠ i → o.dst ≠ some d')) := by
    intro i hi
    have h := List.all_eq_true.1 hall i (List.mem_range.2 hi)
    split at h
    · cases h
    · rename_i o ho
      simp only [Bool.and_eq_true] at h
      obtain ⟨⟨h1, h2⟩, h3⟩ := h
      refine ⟨o, ho, fun d hd => ?_, fun e he hb => ?_, fun j d' hj hd' => ?_⟩
      · rw [hd] at h1
        exact of_decide_eq_true h1
      · have := Array.all_eq_true_iff_forall_mem.1 h2 e he
        simp only [Bool.or_eq_true, Bool.not_eq_true', decide_eq_true_eq] at this
        rcases this with h | h
        · rw [hb] at h; cases h
        · exact h
      · have h4 := List.all_eq_true.1 h3 j (List.mem_range.2 hj)
        rw [hd'] at h4
        simp only [Bool.and_eq_true, Bool.or_eq_true, Bool.not_eq_true', decide_eq_true_eq, beq_iff_eq, bne_iff_ne] at h4
        refine ⟨fun hx => ?_, fun hx => ?_⟩
        · rcases h4.1 with h | h
          · have hx' : (o.looksAt l.toArray).contains d' = true := by simpa using hx
            rw [hx'] at h; cases h
          · exact h
        · rcases h4.2 with h | h
          · exact absurd h hx
          · exact h
  have main : ∀ (f : Nat) (listed : Array Bool) (vs : Nat → Value) (y : World), leftOf listed n = f → HeadInv .any l.toArray n listed → C (fun j => listed.getD j false) y →
      (∀ j, j < n → listed.getD j false = true → G j (vs j) y) →
      wpAny P .any l.toArray Q (f + (l.toArray.size - n)) listed (actOf l.toArray vs (fun j => listed.getD j false) a n) y := by
    intro f
    induction f with
    | zero =>
      intro listed vs y hf inv hCy hG
      have hdone := leftOf_zero listed n hf
      have hlist : listed = ((List.range l.toArray.size).map (fun j => decide (j < n))).toArray := by
        apply Array.ext
        · rw [inv.size]; simp
        · intro j h1 h2
          have hj : j < l.toArray.size := by rw [← inv.size]; exact h1
          have e1 : listed[j] = listed.getD j false := by simp [h1]
          rw [e1]
          by_cases hjn : j < n
          · rw [hdone j hjn]; simp [hjn]
          · have := getD_both (inv.tail j (by omega) hj)
            rw [this]; simp [hjn]
      have hact : actOf l.toArray vs (fun j => listed.getD j false) a n = lexPut ds 0 vs a := by
        rw [actOf_lex vs _ a n (by omega) hdone, hds]
      rw [Nat.zero_add, hact]
      have hlen : (l.drop n).length = l.toArray.size - n := by simp
      rw [← hlen]
      refine wpAny_of_seq (l.drop n) n listed _ y (fun j => by simp [List.getElem?_drop]) ?_ (tail _ vs y hdone hCy fun j hj => hG j hj (hdone j hj))
      rw [hlen, hlist]; exact hseq
    | succ f ih =>
      intro listed vs y hf inv hCy hG
      have e : f + 1 + (l.toArray.size - n) = (f + (l.toArray.size - n)) + 1 := by omega
      rw [e]
      obtain ⟨i0, hi0, hun0, hlow0⟩ := leftOf_pos listed n f hf
      have hi0s : i0 < listed.size := by rw [inv.size]; omega
      refine ⟨fun hnil => ?_, fun i hir => ?_⟩
      · exfalso
        obtain ⟨o, ho, _, hafter, _⟩ := shape i0 hi0
        have : i0 ∈ Region.ready .any l.toArray listed := mem_ready.2 ⟨getD_in hi0s hun0, o, ho, fun e he hb => hlow0 _ (hafter e he hb)⟩
        rw [hnil] at this
        cases this
      · have hin : i < n := by
          rcases Nat.lt_or_ge i n with h | h
          · exact h
          · obtain ⟨_, oi, hoi, _⟩ := mem_ready.1 hir
            have hil := (Array.getElem?_eq_some_iff.1 hoi).1
            simp only [Bool.or_eq_true, Bool.and_eq_true, decide_eq_true_eq] at hsc
            rcases hsc with hsc | ⟨hs, hc⟩
            · omega
            · exact absurd hir (tail_waits hs hc (by omega) inv _ i0 rfl hi0 (getD_in hi0s hun0) i h)
        obtain ⟨hiun, o', ho', hdeps⟩ := mem_ready.1 hir
        obtain ⟨o, ho, hdsz, hafter, hslots⟩ := shape i hin
        obtain rfl : o' = o := Option.some.inj (ho'.symm.trans ho)
        have hiun' := getD_both hiun
        have hisz : i < listed.size := by rw [inv.size]; omega
        -- what it waits for is done
        have hwait : ∀ j, Region.waitsFor .any l.toArray i j = true → listed.getD j false = true := fun j hj => by
          obtain ⟨oj, hoj, e, he, hb, hon⟩ := Region.waitsFor_spec hj
          obtain rfl : oj = o' := Option.some.inj (hoj.symm.trans ho)
          rw [← hon]
          exact hdeps e he hb
        have hstep := StepsOKG.get (l.take n) 0 steps i o' (by rw [List.getElem?_take, if_pos hin]; simpa using ho)
        rw [Nat.zero_add] at hstep
        have hfacts : ∀ j, j < n → Region.waitsFor .any l.toArray i j = true → G j (vs j) y := fun j hj hwt => hG j hj (hwait j hwt)
        have hnot : ∀ k, k < n → Region.waitsFor .any l.toArray k i = true → listed.getD k false = false := fun k hk hwt => by
          cases hx : listed.getD k false with
          | false => rfl
          | true =>
            obtain ⟨ok, hok, e, he, hb, hon⟩ := Region.waitsFor_spec hwt
            have hks : k < listed.size := by rw [inv.size]; exact (Array.getElem?_eq_some_iff.1 hok).1
            have := inv.closed k ok hok hx e he hb
            rw [hon, hiun'] at this
            cases this
        have hst := hstep (fun j => listed.getD j false) vs y hiun' hwait hnot hCy hfacts
        have hlexi : lexPut (ds.take i) 0 vs a = actOf l.toArray vs (fun j => decide (j < i)) a n := by
          have : n = i + (n - i) := by omega
          rw [this, actOf_more vs _ a i (n - i) (fun j hj => by simp; omega), actOf_lex vs _ a i (by omega) (fun j hj => by simp [hj]), hds, ← List.map_take, List.take_take, Nat.min_eq_left (by omega)]
        have hslot : ∀ t, t ∈ o'.looksAt l.toArray → (actOf l.toArray vs (fun j => listed.getD j false) a n).tmps[t]? = (lexPut (ds.take i) 0 vs a).tmps[t]? := fun t ht => by
          rw [hlexi]
          refine actOf_slot vs vs _ _ a t n fun j hj hdj => ⟨?_, fun _ => rfl⟩
          obtain ⟨h1, h2⟩ := (hslots j t hj hdj).1 ht
          rw [hwait j h1]; simp [h2]
        have hsel' := fun cs b => Region.noSelect_spec hsel i o' cs b ho
        refine wpOp_of_plain' (R := fun v y' => C (fun j => if j = i then true else listed.getD j false) y' ∧ G i v y' ∧ ∀ j, j < n → j ≠ i → G j (vs j) y → G j (vs j) y') ho (execOp_slots o' hsel' _ _ hslot) (wanted_slots o' _ _ hslot) (by rw [hlexi, actOf_size]; exact hdsz) ?_ ?_
        · exact hst
        · intro v y' ⟨hC', hGi, hrest⟩
          have hset : ∀ j, (listed.setIfInBounds i true).getD j false = if j = i then true else listed.getD j false := fun j => by
            by_cases e : j = i
            · subst e; rw [if_pos rfl]; simp [hisz]
            · rw [if_neg e, getD_set_ne false (Ne.symm e)]
          have hact := actOf_set (ops := l.toArray) vs (fun j => listed.getD j false) (fun j => (listed.setIfInBounds i true).getD j false) a i v hiun' hset (fun j => if j = i then v else vs j) (fun _ => rfl) n hin
            (fun j hj hne d' hd' hdj => by
              have := (hslots j d' hj hdj).2 hne
              have e1 : dstOf l.toArray i = o'.dst := by simp [dstOf, ho]
              rw [e1] at hd'
              exact this hd')
          have e1 : dstOf l.toArray i = o'.dst := by simp [dstOf, ho]
          rw [e1] at hact
          rw [← hact]
          refine ih _ _ y' ?_ (inv.set hir hin) (by rw [show (fun j => (listed.setIfInBounds i true).getD j false) = (fun j => if j = i then true else listed.getD j false) from funext hset]; exact hC') ?_
          · have := (leftOf_set listed i hisz hiun' n).1 hin
            omega
          · intro j hj hjl
            by_cases e : j = i
            · subst e; simpa using hGi
            · simp only [if_neg e]
              rw [hset j, if_neg e] at hjl
              exact hrest j hj e (hG j hj hjl)
  refine wp_region_any hm ?_
  have inv : HeadInv .any l.toArray n (Array.replicate l.toArray.size false) :=
    ⟨by simp, fun j oj _ hl => (by rw [getD_replicate_false] at hl; cases hl), fun t _ ht => getD_in (by simpa using ht) (getD_replicate_false _ _)⟩
  have hleft : ∀ m, leftOf (Array.replicate l.toArray.size false) m = m := by
    intro m
    induction m with
    | zero => rfl
    | succ m ih => rw [leftOf, ih, getD_replicate_false]; rfl
  have := main n (Array.replicate l.toArray.size false) (fun _ => undef) w.drew (hleft n) inv (by rw [show (fun j => (Array.replicate l.toArray.size false).getD j false) = (fun _ => false) from funext fun j => getD_replicate_false _ _]; exact hC) fun j _ hl => (by rw [getD_replicate_false] at hl; cases hl)
  rw [actOf_none _ _ a n fun j _ => getD_replicate_false _ _, show n + (l.toArray.size - n) = l.toArray.size by omega] at this
  exact this

def StepOKW (P : Program) (ops : Array Oper) (n : Nat) (ws : List Nat) (gs : List (Value → World → Prop)) (D : List Bool → World → Prop) (a : Act) (ds : List (Option Tmp)) (i : Nat) (o : Oper) : Prop :=
  ∀ s vs y, s i = false → (∀ j, Region.waitsFor .any ops i j = true → s j = true) → (∀ k, k < n → Region.waitsFor .any ops k i = true → s k = false) → D (ws.map s) y →
    (∀ j, j < n → Region.waitsFor .any ops i j = true → Facts gs j (vs j) y) →
    wpList P ops (plainQ fun a' y' => ∃ v, a' = (lexPut (ds.take i) 0 vs a).put o.dst v ∧ Facts gs i v y' ∧
      (if ws.contains i = true then D (ws.map fun j => if j = i then true else s j) y' ∧ ∀ j, j < n → j ≠ i → Facts gs j (vs j) y → Facts gs j (vs j) y' else Below y.heap.size y y')) [o] (lexPut (ds.take i) 0 vs a) y

def StepsOKW (P : Program) (ops : Array Oper) (n : Nat) (ws : List Nat) (gs : List (Value → World → Prop)) (D : List Bool → World → Prop) (a : Act) (ds : List (Option Tmp)) : List Oper → Nat → Prop
  | [], _ => True
  | o :: r, i => StepOKW P ops n ws gs D a ds i o ∧ StepsOKW P ops n ws gs D a ds r (i + 1)

theorem steps_ofW {ops : Array Oper} {n : Nat} {ws : List Nat} {gs : List (Value → World → Prop)} {D : List Bool → World → Prop} {a : Act} {ds : List (Option Tmp)} (hk : ∀ g ∈ gs, Keeps g) (hD : ∀ bs (y y' : World), Below y.heap.size y y' → D bs y → D bs y') :
    ∀ (l : List Oper) (i : Nat), StepsOKW P ops n ws gs D a ds l i → StepsOKG P ops n (Facts gs) (fun s => D (ws.map s)) a ds l i
  | [], _, _ => trivial
  | _o :: r, i, h => ⟨fun s vs y h1 h2 h3 hy hd => wpList_one_mono (fun _ y' ⟨v, e, hg, hx⟩ => by
      refine ⟨v, e, ?_, hg, ?_⟩
      · by_cases e : ws.contains i = true
        · rw [if_pos e] at hx
          exact hx.1
        · rw [if_neg e] at hx
          have : (ws.map fun j => if j = i then true else s j) = ws.map s := List.map_congr_left fun j hj => if_neg fun ej => e (by subst ej; simpa using hj)
          show D _ y'
          rw [this]
          exact hD _ _ _ hx hy
      · intro j hj hne hfj
        by_cases e : ws.contains i = true
        · rw [if_pos e] at hx
          exact hx.2 j hj hne hfj
        · rw [if_neg e] at hx
          exact keeps_of hk j _ _ _ hx hfj) (h.1 s vs y h1 h2 h3 hy hd), steps_ofW hk hD r (i + 1) h.2⟩

/-- a region that draws: of its head the operations ws alone may write; the invariant says which of them have -/
theorem wp_region_writes {id : Nat} {Q : Exit → Act → World → Prop} {a : Act} {w : World} {l : List Oper} (n : Nat) (ws : List Nat) (gs : List (Value → World → Prop)) (D : List Bool → World → Prop) (ds : List (Option Tmp))
    (hm : P.follows .mixedOrders = true) (hB : factsG l.toArray n a.tmps.size = true) (hds : ds = (l.take n).map (·.dst)) (hk : ∀ g ∈ gs, Keeps g) (hw : D (ws.map fun _ => false) w.drew)
    (hD : ∀ bs (y y' : World), Below y.heap.size y y' → D bs y → D bs y') (hws : ∀ i ∈ ws, i < n) (steps : StepsOKW P l.toArray n ws gs D a ds (l.take n) 0)
    (tail : ∀ vs y, D (ws.map fun _ => true) y → (∀ j, j < n → Facts gs j (vs j) y) → wpList P l.toArray Q (l.drop n) (lexPut ds 0 vs a) y) : (Code.region id l.toArray true).wp P Q a w :=
  wp_region_gen n (Facts gs) (fun s => D (ws.map s)) hm hB ds hds hw (steps_ofW hk hD _ _ steps) fun s vs y hs hy hg => tail vs y (by
    have : (ws.map fun _ => true) = ws.map s := List.map_congr_left fun j hj => (hs j (hws j hj)).symm
    rw [this]
    exact hy) hg

end
end Go.Proofs.YtpkaoabpifeigaaGreatDoor
