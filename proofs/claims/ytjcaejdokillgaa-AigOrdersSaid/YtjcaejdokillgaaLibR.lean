/- A region that draws its order, by facts: each operation of its head yields some value of which a fact holds (it may make memory, and write what nothing else reads), whatever order is picked; the rest comes behind them in one order. -/
import Derived.Test.YtjcaejdokillgaaLib
import Derived.StillTailTactics
namespace Go.Proofs.Ytjcaejdokillgaa
open Go Go.RowKit

section
variable {P : Program} {ops : Array Oper}

/-- values laid into slots, one by one -/
def lexPut : List (Option Tmp) → Nat → (Nat → Value) → Act → Act
  | [], _, _, a => a
  | d :: r, k, vs, a => lexPut r (k + 1) vs (a.put d (vs k))

theorem lexPut_snoc (l : List (Option Tmp)) (d : Option Tmp) (vs : Nat → Value) : ∀ k a, lexPut (l ++ [d]) k vs a = (lexPut l k vs a).put d (vs (k + l.length)) := by
  induction l with
  | nil => intro k a; rfl
  | cons e r ih =>
    intro k a
    rw [List.cons_append, lexPut, ih, lexPut, List.length_cons, show k + 1 + r.length = k + (r.length + 1) by omega]

def dstOf (ops : Array Oper) (i : Nat) : Option Tmp := (ops[i]?).bind (·.dst)

/-- what stands behind the operations that s tells -/
def actOf (ops : Array Oper) (vs : Nat → Value) (s : Nat → Bool) (a : Act) : Nat → Act
  | 0 => a
  | i + 1 => if s i then (actOf ops vs s a i).put (dstOf ops i) (vs i) else actOf ops vs s a i

theorem actOf_none (vs : Nat → Value) (s : Nat → Bool) (a : Act) : ∀ m, (∀ j, j < m → s j = false) → actOf ops vs s a m = a
  | 0, _ => rfl
  | m + 1, h => by rw [actOf, h m (by omega), if_neg (by decide), actOf_none vs s a m fun j hj => h j (by omega)]

theorem actOf_lex {l : List Oper} (vs : Nat → Value) (s : Nat → Bool) (a : Act) : ∀ i, i ≤ l.length → (∀ j, j < i → s j = true) → actOf l.toArray vs s a i = lexPut ((l.take i).map (·.dst)) 0 vs a
  | 0, _, _ => by simp [actOf, lexPut]
  | i + 1, hi, h => by
    have hi' : i < l.length := by omega
    rw [actOf, h i (by omega), if_pos rfl, actOf_lex vs s a i (by omega) fun j hj => h j (by omega), List.take_succ_eq_append_getElem hi', List.map_append, List.map_singleton, lexPut_snoc]
    have e : dstOf l.toArray i = l[i].dst := by simp [dstOf, hi']
    rw [e]
    simp [List.length_take, Nat.min_eq_left (by omega : i ≤ l.length)]

theorem put_size (a : Act) (d : Option Tmp) (v : Value) : (a.put d v).tmps.size = a.tmps.size := by cases d <;> simp [Act.put]
theorem put_defers (a : Act) (d : Option Tmp) (v : Value) : (a.put d v).defers = a.defers := by cases d <;> rfl

theorem actOf_size (vs : Nat → Value) (s : Nat → Bool) (a : Act) : ∀ m, (actOf ops vs s a m).tmps.size = a.tmps.size
  | 0 => rfl
  | m + 1 => by
    rw [actOf]
    split
    · rw [put_size, actOf_size vs s a m]
    · exact actOf_size vs s a m

/-- beyond the operations that are done nothing is laid -/
theorem actOf_more (vs : Nat → Value) (s : Nat → Bool) (a : Act) (m : Nat) : ∀ k, (∀ j, m ≤ j → s j = false) → actOf ops vs s a (m + k) = actOf ops vs s a m
  | 0, _ => rfl
  | k + 1, h => by rw [← Nat.add_assoc, actOf, h (m + k) (by omega), if_neg (by decide), actOf_more vs s a m k h]

/-- a slot holds what was laid into it -/
theorem actOf_slot (vs vs' : Nat → Value) (s s' : Nat → Bool) (a : Act) (t : Nat) : ∀ m, (∀ j, j < m → dstOf ops j = some t → s j = s' j ∧ (s j = true → vs j = vs' j)) →
    (actOf ops vs s a m).tmps[t]? = (actOf ops vs' s' a m).tmps[t]?
  | 0, _ => rfl
  | m + 1, h => by
    have ih := actOf_slot vs vs' s s' a t m fun j hj => h j (by omega)
    by_cases hd : dstOf ops m = some t
    · obtain ⟨h1, h2⟩ := h m (by omega) hd
      rw [actOf, actOf, ← h1, hd]
      cases hs : s m with
      | false => simpa using ih
      | true =>
        rw [if_pos rfl, if_pos rfl, ← h2 hs]
        have e1 := actOf_size (ops := ops) vs s a m
        have e2 := actOf_size (ops := ops) vs' s' a m
        simp only [Act.put, Array.getElem?_setIfInBounds, e1, e2, ite_true]
    · have k1 : ∀ (b : Act) v, (b.put (dstOf ops m) v).tmps[t]? = b.tmps[t]? := fun b v => by
        cases hx : dstOf ops m with
        | none => rfl
        | some d =>
          have hne : d ≠ t := fun e => hd (by rw [hx, e])
          simp only [Act.put, Array.getElem?_setIfInBounds_ne hne]
      rw [actOf, actOf]
      split <;> split <;> first | exact ih | (simp only [k1]; exact ih)

/-- an operation that was not yet done is done -/
theorem actOf_set (vs : Nat → Value) (s s' : Nat → Bool) (a : Act) (i : Nat) (v : Value) (hsi : s i = false) (hs' : ∀ j, s' j = if j = i then true else s j) (vs' : Nat → Value) (hv : ∀ j, vs' j = if j = i then v else vs j) :
    ∀ m, i < m → (∀ j, j < m → j ≠ i → ∀ d, dstOf ops i = some d → dstOf ops j ≠ some d) → actOf ops vs' s' a m = (actOf ops vs s a m).put (dstOf ops i) v
  | 0, h, _ => absurd h (Nat.not_lt_zero _)
  | m + 1, h, hne => by
    by_cases e : i = m
    · subst e
      rw [actOf, actOf, hs' i, if_pos rfl, if_pos rfl, hsi, if_neg (by decide), hv i, if_pos rfl]
      congr 1
      have low : ∀ k, k ≤ i → actOf ops vs' s' a k = actOf ops vs s a k := by
        intro k
        induction k with
        | zero => intro _; rfl
        | succ k ih =>
          intro hk
          have hki : k ≠ i := by omega
          rw [actOf, actOf, ih (by omega), hs' k, if_neg hki, hv k, if_neg hki]
      exact low i (Nat.le_refl _)
    · rw [actOf, actOf, actOf_set vs s s' a i v hsi hs' vs' hv m (by omega) fun j hj => hne j (by omega), hs' m, if_neg (Ne.symm e), hv m, if_neg (Ne.symm e)]
      cases s m with
      | false => rfl
      | true =>
        rw [if_pos rfl, if_pos rfl]
        exact Act.put_comm _ _ _ fun d hd => hne m (by omega) (Ne.symm e) d hd

theorem eval_slot {a b : Act} {t : Nat} (h : a.tmps[t]? = b.tmps[t]?) : a.eval (.tmp t) = b.eval (.tmp t) := by
  simp only [Act.eval, Array.getD_eq_getD_getElem?, h]

/-- what an operation does hangs on the slots that it looks at -/
theorem execOp_slots (o : Oper) (hs : ∀ cs b, o.op ≠ .select cs b) (a b : Act) (h : ∀ t, t ∈ o.looksAt ops → a.tmps[t]? = b.tmps[t]?) : execOp a.eval o = execOp b.eval o :=
  execOp_congr o hs fun x hx => by
    cases x with
    | tmp t => exact eval_slot (h t (List.mem_append_left _ (List.mem_filterMap.2 ⟨.tmp t, by simpa using hx, rfl⟩)))
    | _ => rfl

theorem wanted_slots (o : Oper) (a b : Act) (h : ∀ t, t ∈ o.looksAt ops → a.tmps[t]? = b.tmps[t]?) : Region.wanted o (yielded ops a.tmps) = Region.wanted o (yielded ops b.tmps) := by
  unfold Region.wanted
  cases hg : o.guard with
  | none => rfl
  | some gw =>
    obtain ⟨g, want⟩ := gw
    have hy : yielded ops a.tmps g = yielded ops b.tmps g := by
      unfold yielded
      cases ht : (ops[g]?).bind (·.dst) with
      | none => rfl
      | some t =>
        have := h t (by simp [Oper.looksAt, hg, ht])
        simp [this]
    simp only [hy]

/-- one operation's way on: none but a plain one -/
def plainQ (R : Act → World → Prop) : Exit → Act → World → Prop
  | .normal, a, w => R a w
  | _, _, _ => False

theorem plainQ_lets (R : Act → World → Prop) : ¬ LetsOut (plainQ R) := fun ⟨_, _, h⟩ => h

theorem wpOp_of_plain {i : Nat} {o : Oper} {a b : Act} {y : World} {Q : Exit → Act → World → Prop} {K : Act → World → Prop} {R : Value → World → Prop} (hi : ops[i]? = some o)
    (he : execOp a.eval o = execOp b.eval o) (hw : Region.wanted o (yielded ops a.tmps) = Region.wanted o (yielded ops b.tmps)) {d : Tmp} (hd : o.dst = some d) (hb : d < b.tmps.size)
    (h : wpList P ops (plainQ fun a' y' => ∃ v, a' = b.put o.dst v ∧ R v y') [o] b y) (hK : ∀ v y', R v y' → K (a.put o.dst v) y') : wpOp P ops Q i K a y := by
  have inj : ∀ u v, b.put o.dst u = b.put o.dst v → u = v := fun u v e => by
    rw [hd] at e
    have := congrArg (fun x : Act => x.tmps[d]?) e
    simpa [Act.put, hb] using this
  unfold Go.wpOp
  simp only [hi]
  simp only [wpList] at h
  rw [hw]
  split
  · rename_i hwt
    rw [if_pos hwt] at h
    rcases h with h | ⟨_, h⟩
    case inr => exact absurd h (plainQ_lets _)
    refine .inl ?_
    unfold Oper.wp at *
    rw [he]
    generalize (execOp b.eval o).run P y = r at *
    cases r with
    | ok n w' =>
      cases n <;> simp only [Oper.upon] at h ⊢
      case value u =>
        obtain ⟨v, e, hv⟩ := h
        rw [inj _ _ e]
        exact hK _ _ hv
      case skip =>
        obtain ⟨v, e, hv⟩ := h
        rw [inj _ _ e]
        exact hK _ _ hv
      case defer dd =>
        obtain ⟨v, e, hv⟩ := h
        have := congrArg Act.defers e
        rw [put_defers, put_defers] at this
        exact absurd this (by simp)
      case enter f args =>
        refine Calls.mono h fun e w'' he => ?_
        cases e with
        | returned u =>
          obtain ⟨v, e, hv⟩ := he
          rw [inj _ _ e]
          exact hK _ _ hv
        | panicked c => exact he.elim
        | outgrown => exact absurd he (plainQ_lets _)
      case row row args =>
        refine Rows.mono h fun u w'' he => ?_
        obtain ⟨v, e, hv⟩ := he
        rw [inj _ _ e]
        exact hK _ _ hv
    | halt x w' =>
      cases x <;> simp only [Oper.upon] at h ⊢
      case panic u => exact h.elim
  · rename_i hwt
    rw [if_neg hwt] at h
    obtain ⟨v, e, hv⟩ := h
    rw [inj _ _ e]
    exact hK _ _ hv

/-- what must be so of the region's shape -/
def factsB (ops : Array Oper) (n : Nat) (kill : Nat → Nat → Bool) (sz : Nat) : Bool :=
  Region.noSelect ops && decide (n < ops.size) && Region.sinkB .any ops n && Region.chainB .any ops n &&
  Region.seqB .any ops (ops.size - n) n ((List.range ops.size).map (fun j => decide (j < n))).toArray &&
  (List.range n).all fun i => match ops[i]? with
    | none => false
    | some o => (match o.dst with | some d => decide (d < sz) | none => false) && (o.after.all fun e => !Region.binds .any e || decide (e.on < i)) &&
      (List.range n).all fun j =>
        (match dstOf ops j with | some d => (!(o.looksAt ops).contains d || (Region.waitsFor .any ops i j && decide (j < i))) && (j == i || o.dst != some d) | none => true) &&
        (!kill i j || (Region.waitsFor .any ops i j && (List.range n).all fun k => k == i || !Region.waitsFor .any ops k j))

/-- one operation's premise -/
def StepOK (P : Program) (ops : Array Oper) (n : Nat) (G : Nat → Value → World → Prop) (kill : Nat → Nat → Bool) (C : World → Prop) (a : Act) (ds : List (Option Tmp)) (i : Nat) (o : Oper) : Prop :=
  ∀ vs y, C y → (∀ j, j < n → Region.waitsFor .any ops i j = true → G j (vs j) y) →
    wpList P ops (plainQ fun a' y' => ∃ v, a' = (lexPut (ds.take i) 0 vs a).put o.dst v ∧ C y' ∧ G i v y' ∧ ∀ j, j < n → j ≠ i → kill i j = false → G j (vs j) y → G j (vs j) y') [o] (lexPut (ds.take i) 0 vs a) y

def StepsOK (P : Program) (ops : Array Oper) (n : Nat) (G : Nat → Value → World → Prop) (kill : Nat → Nat → Bool) (C : World → Prop) (a : Act) (ds : List (Option Tmp)) : List Oper → Nat → Prop
  | [], _ => True
  | o :: r, i => StepOK P ops n G kill C a ds i o ∧ StepsOK P ops n G kill C a ds r (i + 1)

theorem StepsOK.get {n : Nat} {G : Nat → Value → World → Prop} {kill : Nat → Nat → Bool} {C : World → Prop} {a : Act} {ds : List (Option Tmp)} : ∀ (l : List Oper) (k : Nat), StepsOK P ops n G kill C a ds l k →
    ∀ i o, l[i]? = some o → StepOK P ops n G kill C a ds (k + i) o
  | [], _, _, i, o, h => by simp at h
  | x :: r, k, hs, i, o, h => by
    cases i with
    | zero =>
      have : x = o := by simpa using h
      subst this
      exact hs.1
    | succ i =>
      have := StepsOK.get r (k + 1) hs.2 i o (by simpa using h)
      rwa [show k + 1 + i = k + (i + 1) by omega] at this

/-- how many of the head are left -/
def leftOf (listed : Array Bool) : Nat → Nat
  | 0 => 0
  | k + 1 => leftOf listed k + if listed.getD k false then 0 else 1

theorem leftOf_set (listed : Array Bool) (i : Nat) (hi : i < listed.size) (hl : listed.getD i false = false) : ∀ n, (i < n → leftOf (listed.setIfInBounds i true) n + 1 = leftOf listed n) ∧ (n ≤ i → leftOf (listed.setIfInBounds i true) n = leftOf listed n)
  | 0 => ⟨fun h => absurd h (Nat.not_lt_zero _), fun _ => rfl⟩
  | n + 1 => by
    have ih := leftOf_set listed i hi hl n
    refine ⟨fun h => ?_, fun h => ?_⟩
    · by_cases e : i = n
      · subst e
        rw [leftOf, leftOf, ih.2 (Nat.le_refl _), hl]
        have : (listed.setIfInBounds i true).getD i false = true := by simp [hi]
        rw [this]
        simp
      · rw [leftOf, leftOf, getD_set_ne false e]
        have := ih.1 (by omega)
        omega
    · rw [leftOf, leftOf, getD_set_ne false (by omega), ih.2 (by omega)]

theorem leftOf_zero (listed : Array Bool) : ∀ n, leftOf listed n = 0 → ∀ j, j < n → listed.getD j false = true
  | 0, _, _, h => absurd h (Nat.not_lt_zero _)
  | n + 1, h, j, hj => by
    rw [leftOf] at h
    by_cases e : j = n
    · subst e
      cases hx : listed.getD j false with
      | true => rfl
      | false => rw [hx] at h; simp at h
    · exact leftOf_zero listed n (by omega) j (by omega)

theorem leftOf_pos (listed : Array Bool) : ∀ n m, leftOf listed n = m + 1 → ∃ i, i < n ∧ listed.getD i false = false ∧ ∀ j, j < i → listed.getD j false = true
  | 0, _, h => by simp [leftOf] at h
  | n + 1, m, h => by
    by_cases h0 : leftOf listed n = 0
    · refine ⟨n, by omega, ?_, leftOf_zero listed n h0⟩
      rw [leftOf, h0] at h
      cases hx : listed.getD n false with
      | false => rfl
      | true => rw [hx] at h; simp at h
    · obtain ⟨i, h1, h2, h3⟩ := leftOf_pos listed n (leftOf listed n - 1) (by omega)
      exact ⟨i, by omega, h2, h3⟩

/-- a region that draws: its head by facts, the rest in one order -/
theorem wp_region_facts {id : Nat} {Q : Exit → Act → World → Prop} {a : Act} {w : World} {l : List Oper} (n : Nat) (kill : Nat → Nat → Bool) (G : Nat → Value → World → Prop) (C : World → Prop)
    (hm : P.follows .mixedOrders = true) (hB : factsB l.toArray n kill a.tmps.size = true) (ds : List (Option Tmp)) (hds : ds = (l.take n).map (·.dst)) (hC : C w.drew)
    (steps : StepsOK P l.toArray n G kill C a ds (l.take n) 0)
    (tail : ∀ vs y, C y → (∀ j, j < n → (∀ i, i < n → kill i j = false) → G j (vs j) y) → wpList P l.toArray Q (l.drop n) (lexPut ds 0 vs a) y) : (Code.region id l.toArray true).wp P Q a w := by
  simp only [factsB, Bool.and_eq_true, decide_eq_true_eq] at hB
  obtain ⟨⟨⟨⟨⟨hsel, hn⟩, hs⟩, hc⟩, hseq⟩, hall⟩ := hB
  have hnl : n < l.length := by simpa using hn
  have shape : ∀ i, i < n → ∃ o d, l.toArray[i]? = some o ∧ o.dst = some d ∧ d < a.tmps.size ∧ (∀ e ∈ o.after, Region.binds .any e = true → e.on < i) ∧
      (∀ j d', j < n → dstOf l.toArray j = some d' → (d' ∈ o.looksAt l.toArray → Region.waitsFor .any l.toArray i j = true ∧ j < i) ∧ (j ≠ i → o.dst ≠ some d')) ∧
      (∀ j, j < n → kill i j = true → Region.waitsFor .any l.toArray i j = true ∧ ∀ k, k < n → k ≠ i → Region.waitsFor .any l.toArray k j = false) := by
    intro i hi
    have h := List.all_eq_true.1 hall i (List.mem_range.2 hi)
    split at h
    · cases h
    · rename_i o ho
      simp only [Bool.and_eq_true] at h
      obtain ⟨⟨h1, h2⟩, h3⟩ := h
      split at h1
      · rename_i d hd
        refine ⟨o, d, ho, hd, of_decide_eq_true h1, fun e he hb => ?_, fun j d' hj hd' => ?_, fun j hj hk => ?_⟩
        · have := Array.all_eq_true_iff_forall_mem.1 h2 e he
          simp only [Bool.or_eq_true, Bool.not_eq_true', decide_eq_true_eq] at this
          rcases this with h | h
          · rw [hb] at h; cases h
          · exact h
        · have h4 := List.all_eq_true.1 h3 j (List.mem_range.2 hj)
          rw [hd'] at h4
          simp only [Bool.and_eq_true, Bool.or_eq_true, Bool.not_eq_true', decide_eq_true_eq, beq_iff_eq, bne_iff_ne] at h4
          refine ⟨fun hx => ?_, fun hx => ?_⟩
          · rcases h4.1.1 with h | h
            · have hx' : (o.looksAt l.toArray).contains d' = true := by simpa using hx
              rw [hx'] at h; cases h
            · exact h
          · rcases h4.1.2 with h | h
            · exact absurd h hx
            · exact h
        · have h4 := List.all_eq_true.1 h3 j (List.mem_range.2 hj)
          simp only [Bool.and_eq_true] at h4
          have h5 := h4.2
          rw [hk] at h5
          simp only [Bool.not_true, Bool.false_or, Bool.and_eq_true] at h5
          refine ⟨h5.1, fun k hk2 hne => ?_⟩
          have := List.all_eq_true.1 h5.2 k (List.mem_range.2 hk2)
          simp only [Bool.or_eq_true, beq_iff_eq, Bool.not_eq_true'] at this
          exact this.resolve_left hne
      · cases h1
  have main : ∀ (f : Nat) (listed : Array Bool) (vs : Nat → Value) (y : World), leftOf listed n = f → HeadInv .any l.toArray n listed → C y →
      (∀ j, j < n → listed.getD j false = true → (∀ i, i < n → kill i j = true → listed.getD i false = false) → G j (vs j) y) →
      wpAny P .any l.toArray Q (f + (l.toArray.size - n)) listed (actOf l.toArray vs (fun j => listed.getD j false) a n) y := by
    intro f
    induction f with
    | zero =>
      intro listed vs y hf inv hCy hG
      have hdone := leftOf_zero listed n hf
      have hlist : listed = ((List.range l.toArray.size).map (fun j => decide (j < n))).toArray := by
        apply Array.ext
        · rw [inv.size]; simp
        · intro j h1 h2
          have hj : j < l.toArray.size := by rw [← inv.size]; exact h1
          have e1 : listed[j] = listed.getD j false := by simp [h1]
          rw [e1]
          by_cases hjn : j < n
          · rw [hdone j hjn]; simp [hjn]
          · have := getD_both (inv.tail j (by omega) hj)
            rw [this]; simp [hjn]
      have hact : actOf l.toArray vs (fun j => listed.getD j false) a n = lexPut ds 0 vs a := by
        rw [actOf_lex vs _ a n (by omega) hdone, hds]
      rw [Nat.zero_add, hact]
      have hlen : (l.drop n).length = l.toArray.size - n := by simp
      rw [← hlen]
      refine wpAny_of_seq (l.drop n) n listed _ y (fun j => by simp [List.getElem?_drop]) ?_ (tail vs y hCy fun j hj hk => hG j hj (hdone j hj) fun i hi h => (by rw [hk i hi] at h; cases h))
      rw [hlen, hlist]; exact hseq
    | succ f ih =>
      intro listed vs y hf inv hCy hG
      have e : f + 1 + (l.toArray.size - n) = (f + (l.toArray.size - n)) + 1 := by omega
      rw [e]
      obtain ⟨i0, hi0, hun0, hlow0⟩ := leftOf_pos listed n f hf
      have hi0s : i0 < listed.size := by rw [inv.size]; omega
      refine ⟨fun hnil => ?_, fun i hir => ?_⟩
      · exfalso
        obtain ⟨o, d, ho, _, _, hafter, _⟩ := shape i0 hi0
        have : i0 ∈ Region.ready .any l.toArray listed := mem_ready.2 ⟨getD_in hi0s hun0, o, ho, fun e he hb => hlow0 _ (hafter e he hb)⟩
        rw [hnil] at this
        cases this
      · have hin : i < n := by
          rcases Nat.lt_or_ge i n with h | h
          · exact h
          · exact absurd hir (tail_waits hs hc hn inv _ i0 rfl hi0 (getD_in hi0s hun0) i h)
        obtain ⟨hiun, o', ho', hdeps⟩ := mem_ready.1 hir
        obtain ⟨o, d, ho, hd, hdsz, hafter, hslots, hkill⟩ := shape i hin
        obtain rfl : o' = o := Option.some.inj (ho'.symm.trans ho)
        have hiun' := getD_both hiun
        have hisz : i < listed.size := by rw [inv.size]; omega
        -- what it waits for is done
        have hwait : ∀ j, Region.waitsFor .any l.toArray i j = true → listed.getD j false = true := fun j hj => by
          obtain ⟨oj, hoj, e, he, hb, hon⟩ := Region.waitsFor_spec hj
          obtain rfl : oj = o' := Option.some.inj (hoj.symm.trans ho)
          rw [← hon]
          exact hdeps e he hb
        have hstep := StepsOK.get (l.take n) 0 steps i o' (by rw [List.getElem?_take, if_pos hin]; simpa using ho)
        rw [Nat.zero_add] at hstep
        have hfacts : ∀ j, j < n → Region.waitsFor .any l.toArray i j = true → G j (vs j) y := fun j hj hwt => hG j hj (hwait j hwt) fun k hk hkl => by
          by_cases e : k = i
          · subst e; exact hiun'
          · obtain ⟨_, _, _, _, _, _, _, hkill'⟩ := shape k hk
            have := (hkill' j hj hkl).2 i hin (Ne.symm e)
            rw [hwt] at this; cases this
        have hst := hstep vs y hCy hfacts
        have hlexi : lexPut (ds.take i) 0 vs a = actOf l.toArray vs (fun j => decide (j < i)) a n := by
          have : n = i + (n - i) := by omega
          rw [this, actOf_more vs _ a i (n - i) (fun j hj => by simp; omega), actOf_lex vs _ a i (by omega) (fun j hj => by simp [hj]), hds, ← List.map_take, List.take_take, Nat.min_eq_left (by omega)]
        have hslot : ∀ t, t ∈ o'.looksAt l.toArray → (actOf l.toArray vs (fun j => listed.getD j false) a n).tmps[t]? = (lexPut (ds.take i) 0 vs a).tmps[t]? := fun t ht => by
          rw [hlexi]
          refine actOf_slot vs vs _ _ a t n fun j hj hdj => ⟨?_, fun _ => rfl⟩
          obtain ⟨h1, h2⟩ := (hslots j t hj hdj).1 ht
          rw [hwait j h1]; simp [h2]
        have hsel' := fun cs b => Region.noSelect_spec hsel i o' cs b ho
        refine wpOp_of_plain (R := fun v y' => C y' ∧ G i v y' ∧ ∀ j, j < n → j ≠ i → kill i j = false → G j (vs j) y → G j (vs j) y') ho (execOp_slots o' hsel' _ _ hslot) (wanted_slots o' _ _ hslot) hd
          (by rw [hlexi, actOf_size]; exact hdsz) ?_ ?_
        · exact hst
        · intro v y' ⟨hC', hGi, hrest⟩
          have hset : ∀ j, (listed.setIfInBounds i true).getD j false = if j = i then true else listed.getD j false := fun j => by
            by_cases e : j = i
            · subst e; rw [if_pos rfl]; simp [hisz]
            · rw [if_neg e, getD_set_ne false (Ne.symm e)]
          have hact := actOf_set (ops := l.toArray) vs (fun j => listed.getD j false) (fun j => (listed.setIfInBounds i true).getD j false) a i v hiun' hset (fun j => if j = i then v else vs j) (fun _ => rfl) n hin
            (fun j hj hne d' hd' hdj => by
              have := (hslots j d' hj hdj).2 hne
              have e1 : dstOf l.toArray i = o'.dst := by simp [dstOf, ho]
              rw [e1] at hd'
              exact this hd')
          have e1 : dstOf l.toArray i = o'.dst := by simp [dstOf, ho]
          rw [e1] at hact
          rw [← hact]
          refine ih _ _ y' ?_ (inv.set hir hin) hC' ?_
          · have := (leftOf_set listed i hisz hiun' n).1 hin
            omega
          · intro j hj hjl hjk
            by_cases e : j = i
            · subst e; simpa using hGi
            · simp only [if_neg e]
              rw [hset j, if_neg e] at hjl
              have hki : kill i j = false := by
                cases hx : kill i j with
                | false => rfl
                | true =>
                  have := hjk i hin hx
                  rw [hset i, if_pos rfl] at this; cases this
              refine hrest j hj e hki (hG j hj hjl fun k hk hkl => ?_)
              have := hjk k hk hkl
              rw [hset k] at this
              by_cases ek : k = i
              · subst ek; exact hiun'
              · rwa [if_neg ek] at this
  refine wp_region_any hm ?_
  have inv : HeadInv .any l.toArray n (Array.replicate l.toArray.size false) :=
    ⟨by simp, fun j oj _ hl => (by rw [getD_replicate_false] at hl; cases hl), fun t _ ht => getD_in (by simpa using ht) (getD_replicate_false _ _)⟩
  have hleft : ∀ m, leftOf (Array.replicate l.toArray.size false) m = m := by
    intro m
    induction m with
    | zero => rfl
    | succ m ih => rw [leftOf, ih, getD_replicate_false]; rfl
  have := main n (Array.replicate l.toArray.size false) (fun _ => undef) w.drew (hleft n) inv hC fun j _ hl => (by rw [getD_replicate_false] at hl; cases hl)
  rw [actOf_none _ _ a n fun j _ => getD_replicate_false _ _, show n + (l.toArray.size - n) = l.toArray.size by omega] at this
  exact this
/-- a fact that later worlds keep -/
def Keeps (g : Value → World → Prop) : Prop := ∀ v (y y' : World), Below y.heap.size y y' → g v y → g v y'
/-- a value that hangs on no world -/
def isV (x : Value) : Value → World → Prop := fun v _ => v = x
theorem isV_keeps (x : Value) : Keeps (isV x) := fun _ _ _ _ h => h

def Facts (gs : List (Value → World → Prop)) (i : Nat) : Value → World → Prop := (gs[i]?).getD (isV undef)

def StepOK0 (P : Program) (ops : Array Oper) (n : Nat) (gs : List (Value → World → Prop)) (w : World) (a : Act) (ds : List (Option Tmp)) (i : Nat) (o : Oper) : Prop :=
  ∀ vs y, Below w.heap.size w y → (∀ j, j < n → Region.waitsFor .any ops i j = true → Facts gs j (vs j) y) →
    wpList P ops (plainQ fun a' y' => ∃ v, a' = (lexPut (ds.take i) 0 vs a).put o.dst v ∧ Below y.heap.size y y' ∧ Facts gs i v y') [o] (lexPut (ds.take i) 0 vs a) y

def StepsOK0 (P : Program) (ops : Array Oper) (n : Nat) (gs : List (Value → World → Prop)) (w : World) (a : Act) (ds : List (Option Tmp)) : List Oper → Nat → Prop
  | [], _ => True
  | o :: r, i => StepOK0 P ops n gs w a ds i o ∧ StepsOK0 P ops n gs w a ds r (i + 1)

theorem keeps_of {gs : List (Value → World → Prop)} (h : ∀ g ∈ gs, Keeps g) (i : Nat) : Keeps (Facts gs i) := by
  unfold Facts
  cases e : gs[i]? with
  | none => exact isV_keeps _
  | some g => exact h g (List.mem_of_getElem? e)

theorem plainQ_mono {R R' : Act → World → Prop} (h : ∀ a w, R a w → R' a w) : ∀ e a w, plainQ R e a w → plainQ R' e a w := fun e a w hq => by
  cases e <;> first | exact h _ _ hq | exact hq

theorem wpList_one_mono {ops : Array Oper} {o : Oper} {a : Act} {w : World} {R R' : Act → World → Prop} (h : ∀ a w, R a w → R' a w) (hq : wpList P ops (plainQ R) [o] a w) : wpList P ops (plainQ R') [o] a w := by
  simp only [wpList] at *
  split
  · rename_i hw
    rw [if_pos hw] at hq
    rcases hq with hq | ⟨_, hq⟩
    case inr => exact absurd hq (plainQ_lets _)
    refine .inl ?_
    unfold Oper.wp at *
    generalize (execOp a.eval o).run P w = r at *
    cases r with
    | ok n w' =>
      cases n <;> simp only [Oper.upon] at hq ⊢
      case value u => exact h _ _ hq
      case skip => exact h _ _ hq
      case defer d => exact h _ _ hq
      case enter f args =>
        refine Calls.mono hq fun e w'' he => ?_
        cases e with
        | returned u => exact h _ _ he
        | panicked c => exact he.elim
        | outgrown => exact absurd he (plainQ_lets _)
      case row row args => exact Rows.mono hq fun u w'' he => h _ _ he
    | halt x w' =>
      cases x <;> simp only [Oper.upon] at hq ⊢
      case panic u => exact hq.elim
  · rename_i hw
    rw [if_neg hw] at hq
    exact h _ _ hq

theorem steps_of {ops : Array Oper} {n : Nat} {gs : List (Value → World → Prop)} {w : World} {a : Act} {ds : List (Option Tmp)} (hk : ∀ g ∈ gs, Keeps g) : ∀ (l : List Oper) (i : Nat), StepsOK0 P ops n gs w a ds l i →
    StepsOK P ops n (Facts gs) (fun _ _ => false) (fun y => Below w.heap.size w y) a ds l i
  | [], _, _ => trivial
  | _o :: r, i, h => ⟨fun vs y hy hd => wpList_one_mono (fun _ _ ⟨v, e, hb, hg⟩ => ⟨v, e, Below.of hy hb, hg, fun j _ _ _ hj => keeps_of hk j _ _ _ hb hj⟩) (h.1 vs y hy hd), steps_of hk r (i + 1) h.2⟩

/-- a region that draws: its head makes memory at most; the rest in one order -/
theorem wp_region_makes {id : Nat} {Q : Exit → Act → World → Prop} {a : Act} {w : World} {l : List Oper} (n : Nat) (gs : List (Value → World → Prop)) (ds : List (Option Tmp))
    (hm : P.follows .mixedOrders = true) (hB : factsB l.toArray n (fun _ _ => false) a.tmps.size = true) (hds : ds = (l.take n).map (·.dst)) (hk : ∀ g ∈ gs, Keeps g)
    (steps : StepsOK0 P l.toArray n gs w a ds (l.take n) 0)
    (tail : ∀ vs y, Below w.heap.size w y → (∀ j, j < n → Facts gs j (vs j) y) → wpList P l.toArray Q (l.drop n) (lexPut ds 0 vs a) y) : (Code.region id l.toArray true).wp P Q a w :=
  wp_region_facts n (fun _ _ => false) (Facts gs) (fun y => Below w.heap.size w y) hm hB ds hds (Below.refl _ _).drew (steps_of hk _ _ steps) fun vs y hy hg => tail vs y hy fun j hj => hg j hj fun _ _ => rfl
end

/-- what writes out the frame of a step of the head -/
theorem opens : (∀ (k : Nat) (vs : Nat → Value) (a : Act), lexPut [] k vs a = a) ∧ (∀ (d : Option Tmp) (r : List (Option Tmp)) (k : Nat) (vs : Nat → Value) (a : Act), lexPut (d :: r) k vs a = lexPut r (k + 1) vs (a.put d (vs k))) ∧
    (∀ (x : Option Tmp) (l : List (Option Tmp)) (n : Nat), (x :: l).take (n + 1) = x :: l.take n) ∧ (∀ l : List (Option Tmp), l.take 0 = []) ∧ (∀ n : Nat, ([] : List (Option Tmp)).take n = []) ∧
    (∀ (a : Act) (d : Tmp) (v : Value), a.put (some d) v = { a with tmps := a.tmps.setIfInBounds d v }) ∧ (∀ (a : Act) (v : Value), a.put none v = a) ∧
    (∀ (l : List Value) (n : Nat) (v : Value), l.toArray.setIfInBounds n v = (l.set n v).toArray) ∧ (∀ (x v : Value) (l : List Value), (x :: l).set 0 v = v :: l) ∧ (∀ (x v : Value) (l : List Value) (n : Nat), (x :: l).set (n + 1) v = x :: l.set n v) ∧
    (∀ n : Nat, 0 + n = n) :=
  ⟨fun _ _ _ => rfl, fun _ _ _ _ _ => rfl, fun _ _ _ => rfl, fun _ => List.take_zero, fun _ => List.take_nil, fun _ _ _ => rfl, fun _ _ => rfl, fun l n v => List.setIfInBounds_toArray l n v, fun _ _ _ => rfl, fun _ _ _ _ => rfl, Nat.zero_add⟩

end Go.Proofs.Ytjcaejdokillgaa
