/- MiterJoins: a miter may be; with both states and an input, its Bad is true just where an output is unlike, its steps are both's, and what must be is both's: for all circuits, states and inputs; the listed tables are tied to the program's text. -/
import Derived.Test.YtpkaoabpifeigaaGreatDoorPlainZ3
import Derived.Test.YtpkaoabpifeigaaGreatDoorWalkVH
import Derived.Test.YtpkaoabpifeigaaGreatDoorWalkZC
import Derived.Test.YtpkaoabpifeigaaGreatDoorWalkV1
import Derived.Test.YtpkaoabpifeigaaGreatDoorPlainU
import Derived.Test.YtpkaoabpifeigaaGreatDoorCards
import Derived.Test.YtpkaoabpifeigaaGreatDoorTie
import Derived.Test.YtpkaoabpifeigaaGreatDoorFrameC4
import Derived.Test.YtpkaoabpifeigaaGreatDoorFrame
import Derived.Deep.DeepHandedRow
namespace Go.Proofs.YtpkaoabpifeigaaGreatDoor.PC

theorem setGats_append (l m : List Gat) : ∀ s : Bs, setGats s (l ++ m) = setGats (setGats s l) m := by
  induction l with
  | nil => intro s; rfl
  | cons a r ih => intro s; simp only [List.cons_append, setGats, ih]

theorem tru_set_same (s : Bs) (v : Nat) (l : Int) (h : varOf l = v) (hv : v < s.length) : tru (s.set v 49) l = !negOf l := by
  subst h
  simp [tru, hv]

theorem tru_set_other (s : Bs) (v : Nat) (l : Int) (h : varOf l ≠ v) : tru (s.set v 49) l = tru s l := by
  unfold tru
  rw [List.getElem?_set_ne (Ne.symm h)]

/-- gates renamed compute what they did -/
theorem setGats_ren (f : Int → Int) (K : Int → Prop) (hneg : ∀ l, K l → negOf (f l) = negOf l) : ∀ (gs : List Gat) (s t : Bs), (∀ l, K l → tru s l = tru t (f l)) →
    (∀ a ∈ gs, K a.left ∧ K a.right ∧ varOf a.lit < s.length ∧ varOf (f a.lit) < t.length ∧ ∀ l, K l → (varOf l = varOf a.lit ↔ varOf (f l) = varOf (f a.lit))) →
    ∀ l, K l → tru (setGats s gs) l = tru (setGats t (gs.map fun a => ⟨f a.lit, f a.left, f a.right⟩)) (f l) := by
  intro gs
  induction gs with
  | nil => intro s t h _ l hl; exact h l hl
  | cons a r ih =>
    intro s t h hg l hl
    obtain ⟨k1, k2, k3, k4, k5⟩ := hg a (by simp)
    simp only [List.map_cons, setGats]
    rw [← h _ k1, ← h _ k2]
    cases hc : (tru s a.left && tru s a.right) with
    | false =>
      simp only [Bool.false_eq_true, if_false]
      exact ih s t h (fun b hb => hg b (by simp [hb])) l hl
    | true =>
      simp only [if_true]
      refine ih _ _ (fun l hl => ?_) (fun b hb => ?_) l hl
      · by_cases e : varOf l = varOf a.lit
        · rw [tru_set_same _ _ _ e k3, tru_set_same _ _ _ ((k5 l hl).1 e) k4, hneg l hl]
        · rw [tru_set_other _ _ _ e, tru_set_other _ _ _ (fun e' => e ((k5 l hl).2 e')), h l hl]
      · obtain ⟨j1, j2, j3, j4, j5⟩ := hg b (by simp [hb])
        exact ⟨j1, j2, by simpa using j3, by simpa using j4, j5⟩

/-- one gate -/
def setGat (s : Bs) (a : Gat) : Bs := if tru s a.left && tru s a.right then s.set (varOf a.lit) 49 else s

theorem setGats_nil (s : Bs) : setGats s [] = s := rfl
theorem setGats_cons (s : Bs) (a : Gat) (r : List Gat) : setGats s (a :: r) = setGats (setGat s a) r := rfl

theorem setGat_length (s : Bs) (a : Gat) : (setGat s a).length = s.length := by unfold setGat; split <;> simp

theorem setGat_other (s : Bs) (a : Gat) (x : Nat) (h : x ≠ varOf a.lit) : (setGat s a)[x]? = s[x]? := by
  unfold setGat
  split
  · rw [List.getElem?_set_ne (Ne.symm h)]
  · rfl

theorem setGat_tru (s : Bs) (a : Gat) (l : Int) (h : varOf l ≠ varOf a.lit) : tru (setGat s a) l = tru s l := tru_congr _ _ _ (setGat_other s a _ h)

theorem setGat_lit (s : Bs) (a : Gat) (h : s[varOf a.lit]? = some 48) (l : Int) (hl : varOf l = varOf a.lit) : tru (setGat s a) l = ((tru s a.left && tru s a.right) != negOf l) := by
  have hlt : varOf a.lit < s.length := by
    rcases Nat.lt_or_ge (varOf a.lit) s.length with e | e
    · exact e
    · rw [List.getElem?_eq_none e] at h; cases h
  unfold setGat
  cases hc : (tru s a.left && tru s a.right) with
  | true => simp only [if_true]; rw [tru_set_same _ _ _ hl hlt]; simp
  | false => simp only [Bool.false_eq_true, if_false]; unfold tru; rw [hl, h]; rfl

theorem tru_opn (s : Bs) (l : Int) (h : 0 ≤ l) : tru s (opn l) = !tru s l := by
  unfold opn
  split
  · rename_i e
    have h1 : varOf (l + 1) = varOf l := by unfold varOf; omega
    have h2 : negOf (l + 1) = true := by simp [negOf]; omega
    have h3 : negOf l = false := by simp [negOf]; omega
    unfold tru
    rw [h1, h2, h3]; cases (s[varOf l]? == some 49) <;> rfl
  · rename_i e
    have h1 : varOf (l - 1) = varOf l := by unfold varOf; omega
    have h2 : negOf (l - 1) = false := by simp [negOf]; omega
    have h3 : negOf l = true := by simp [negOf]; omega
    unfold tru
    rw [h1, h2, h3]; cases (s[varOf l]? == some 49) <;> rfl

/-- four gates: one more output is looked at -/
theorem step_tru (s : Bs) (m p q b : Int) (hm : 0 ≤ m) (hp : 0 ≤ p ∧ p ≤ 2 * m + 1) (hq : 0 ≤ q ∧ q ≤ 2 * m + 1) (hb : 0 ≤ b ∧ b ≤ 2 * m + 1)
    (h48 : ∀ j : Nat, 1 ≤ j → j ≤ 4 → s[m.toNat + j]? = some 48) :
    tru (setGats s [⟨2 * (m + 1), p, opn q⟩, ⟨2 * (m + 2), opn p, q⟩, ⟨2 * (m + 3), 2 * (m + 1) + 1, 2 * (m + 2) + 1⟩, ⟨2 * (m + 4), opn b, 2 * (m + 3)⟩]) (2 * (m + 4) + 1) = (tru s b || (tru s p != tru s q)) := by
  have v1 : varOf (2 * (m + 1)) = m.toNat + 1 := by unfold varOf; omega
  have v2 : varOf (2 * (m + 2)) = m.toNat + 2 := by unfold varOf; omega
  have v3 : varOf (2 * (m + 3)) = m.toNat + 3 := by unfold varOf; omega
  have v4 : varOf (2 * (m + 4)) = m.toNat + 4 := by unfold varOf; omega
  have w1 : varOf (2 * (m + 1) + 1) = m.toNat + 1 := by unfold varOf; omega
  have w2 : varOf (2 * (m + 2) + 1) = m.toNat + 2 := by unfold varOf; omega
  have w4 : varOf (2 * (m + 4) + 1) = m.toNat + 4 := by unfold varOf; omega
  have vp : varOf p < m.toNat + 1 := by unfold varOf; omega
  have vq : varOf q < m.toNat + 1 := by unfold varOf; omega
  have vb : varOf b < m.toNat + 1 := by unfold varOf; omega
  have op : varOf (opn p) < m.toNat + 1 := by unfold varOf opn; split <;> omega
  have oq : varOf (opn q) < m.toNat + 1 := by unfold varOf opn; split <;> omega
  have ob : varOf (opn b) < m.toNat + 1 := by unfold varOf opn; split <;> omega
  have n1 : negOf (2 * (m + 1) + 1) = true := by simp [negOf]; omega
  have n2 : negOf (2 * (m + 2) + 1) = true := by simp [negOf]; omega
  have n3 : negOf (2 * (m + 3)) = false := by simp [negOf]
  have n4 : negOf (2 * (m + 4) + 1) = true := by simp [negOf]; omega
  simp only [setGats_cons, setGats_nil]
  obtain ⟨s1, h1⟩ : ∃ s1, s1 = setGat s ⟨2 * (m + 1), p, opn q⟩ := ⟨_, rfl⟩
  rw [← h1]
  obtain ⟨s2, h2⟩ : ∃ s2, s2 = setGat s1 ⟨2 * (m + 2), opn p, q⟩ := ⟨_, rfl⟩
  rw [← h2]
  obtain ⟨s3, h3⟩ : ∃ s3, s3 = setGat s2 ⟨2 * (m + 3), 2 * (m + 1) + 1, 2 * (m + 2) + 1⟩ := ⟨_, rfl⟩
  rw [← h3]
  have k1 : ∀ l, varOf l ≠ m.toNat + 1 → tru s1 l = tru s l := fun l hl => by rw [h1]; exact setGat_tru _ _ _ (by show _ ≠ varOf (2 * (m + 1)); rw [v1]; exact hl)
  have k2 : ∀ l, varOf l ≠ m.toNat + 2 → tru s2 l = tru s1 l := fun l hl => by rw [h2]; exact setGat_tru _ _ _ (by show _ ≠ varOf (2 * (m + 2)); rw [v2]; exact hl)
  have k3 : ∀ l, varOf l ≠ m.toNat + 3 → tru s3 l = tru s2 l := fun l hl => by rw [h3]; exact setGat_tru _ _ _ (by show _ ≠ varOf (2 * (m + 3)); rw [v3]; exact hl)
  have c1 : ∀ x, x ≠ m.toNat + 1 → s1[x]? = s[x]? := fun x hx => by rw [h1]; exact setGat_other _ _ _ (by show _ ≠ varOf (2 * (m + 1)); rw [v1]; exact hx)
  have c2 : ∀ x, x ≠ m.toNat + 2 → s2[x]? = s1[x]? := fun x hx => by rw [h2]; exact setGat_other _ _ _ (by show _ ≠ varOf (2 * (m + 2)); rw [v2]; exact hx)
  have c3 : ∀ x, x ≠ m.toNat + 3 → s3[x]? = s2[x]? := fun x hx => by rw [h3]; exact setGat_other _ _ _ (by show _ ≠ varOf (2 * (m + 3)); rw [v3]; exact hx)
  rw [setGat_lit s3 ⟨2 * (m + 4), opn b, 2 * (m + 3)⟩ (by show s3[varOf (2 * (m + 4))]? = _; rw [v4, c3 _ (by omega), c2 _ (by omega), c1 _ (by omega)]; exact h48 4 (by omega) (by omega)) _ (w4.trans v4.symm), n4]
  have e3 : tru s3 (2 * (m + 3)) = (tru s2 (2 * (m + 1) + 1) && tru s2 (2 * (m + 2) + 1)) := by
    rw [h3, setGat_lit s2 _ (by show s2[varOf (2 * (m + 3))]? = _; rw [v3, c2 _ (by omega), c1 _ (by omega)]; exact h48 3 (by omega) (by omega)) _ rfl, n3]; simp
  have e2 : tru s2 (2 * (m + 2) + 1) = !(tru s1 (opn p) && tru s1 q) := by
    rw [h2, setGat_lit s1 _ (by show s1[varOf (2 * (m + 2))]? = _; rw [v2, c1 _ (by omega)]; exact h48 2 (by omega) (by omega)) _ (w2.trans v2.symm), n2]; simp
  have e1 : tru s1 (2 * (m + 1) + 1) = !(tru s p && tru s (opn q)) := by
    rw [h1, setGat_lit s _ (by show s[varOf (2 * (m + 1))]? = _; rw [v1]; exact h48 1 (by omega) (by omega)) _ (w1.trans v1.symm), n1]; simp
  show ((tru s3 (opn b) && tru s3 (2 * (m + 3))) != true) = _
  rw [e3, e2, k2 _ (by omega), e1, k3 _ (by omega), k2 (opn b) (by omega), k1 (opn b) (by omega), k1 (opn p) (by omega), k1 q (by omega), tru_opn _ _ hb.1, tru_opn _ _ hp.1, tru_opn _ _ hq.1]
  cases tru s b <;> cases tru s p <;> cases tru s q <;> rfl

theorem setAll_append : ∀ (l m : List (Int × UInt8)) (s : Bs), setAll s (l ++ m) = setAll (setAll s l) m := by
  intro l
  induction l with
  | nil => intro m s; rfl
  | cons p r ih => intro m s; simp only [List.cons_append, setAll, ih]

/-- what is laid at renamed literals lies where the renamed variable is -/
theorem setAll_ren (f : Int → Int) (v u : Nat) : ∀ (l : List (Int × UInt8)) (s t : Bs), s[v]? = t[u]? → v < s.length → u < t.length → (∀ p ∈ l, (varOf p.1 = v ↔ varOf (f p.1) = u)) →
    (setAll s l)[v]? = (setAll t (l.map fun p => (f p.1, p.2)))[u]? := by
  intro l
  induction l with
  | nil => intro s t h _ _ _; exact h
  | cons p r ih =>
    intro s t h hv hu hp
    simp only [List.map_cons, setAll]
    refine ih _ _ ?_ (by simpa using hv) (by simpa using hu) (fun q hq => hp q (by simp [hq]))
    have hi := hp p (by simp)
    by_cases e : varOf p.1 = v
    · rw [e, hi.1 e]
      simp [hv, hu]
    · rw [List.getElem?_set_ne e, List.getElem?_set_ne (fun e' => e (hi.2 e')), h]

theorem start_join (a b : Circ) (x y i : Bs) (h : a.latches.length = x.length) : start (joinC a b) (x ++ y) i =
    setAll (setAll (setAll (List.replicate ((joinC a b).max.toNat + 1) 48) (a.inputs.zip i)) ((a.latches.map (·.lit)).zip x)) (((shiftC b a.inputs a.max).latches.map (·.lit)).zip y) := by
  have e : ((joinC a b).latches.map (·.lit)).zip (x ++ y) = (a.latches.map (·.lit)).zip x ++ ((shiftC b a.inputs a.max).latches.map (·.lit)).zip y := by
    show ((a.latches ++ (shiftC b a.inputs a.max).latches).map (·.lit)).zip (x ++ y) = _
    rw [List.map_append, List.zip_append (by simpa using h)]
  unfold start
  rw [e, setAll_append]
  rfl

theorem step_other (s : Bs) (m p q b : Int) (hm : 0 ≤ m) (x : Nat) (hx : x ≤ m.toNat ∨ m.toNat + 4 < x) :
    (setGats s [⟨2 * (m + 1), p, opn q⟩, ⟨2 * (m + 2), opn p, q⟩, ⟨2 * (m + 3), 2 * (m + 1) + 1, 2 * (m + 2) + 1⟩, ⟨2 * (m + 4), opn b, 2 * (m + 3)⟩])[x]? = s[x]? := by
  refine setGats_other _ _ _ fun a ha => ?_
  simp only [List.mem_cons, List.mem_nil_iff, or_false] at ha
  rcases ha with rfl | rfl | rfl | rfl <;> simp only [varOf] <;> omega

/-- all steps: is an output unlike? -/
theorem steps_tru (r : Bs) : ∀ (ps : List (Int × Int)) (s : Mk), 0 ≤ s.mx → (0 ≤ s.bad ∧ s.bad ≤ 2 * s.mx + 1) → (∀ p ∈ ps, (0 ≤ p.1 ∧ p.1 ≤ 2 * s.mx + 1) ∧ 0 ≤ p.2 ∧ p.2 ≤ 2 * s.mx + 1) →
    (∀ x : Nat, s.mx.toNat < x → x ≤ s.mx.toNat + 4 * ps.length → (setGats r s.gs)[x]? = some 48) →
    tru (setGats r (ps.foldl mkStep s).gs) (ps.foldl mkStep s).bad = (tru (setGats r s.gs) s.bad || ps.any fun p => tru (setGats r s.gs) p.1 != tru (setGats r s.gs) p.2) := by
  intro ps
  induction ps with
  | nil => intro s _ _ _ _; simp
  | cons p ps ih =>
    intro s h0 hb hp h48
    obtain ⟨hp1, hp2⟩ := hp p (by simp)
    simp only [List.length_cons] at h48
    have hst := step_tru (setGats r s.gs) s.mx p.1 p.2 s.bad h0 hp1 hp2 hb fun j h1 h2 => h48 _ (by omega) (by omega)
    have hot := step_other (setGats r s.gs) s.mx p.1 p.2 s.bad h0
    have hgs : setGats r (mkStep s p).gs = setGats (setGats r s.gs) [⟨2 * (s.mx + 1), p.1, opn p.2⟩, ⟨2 * (s.mx + 2), opn p.1, p.2⟩, ⟨2 * (s.mx + 3), 2 * (s.mx + 1) + 1, 2 * (s.mx + 2) + 1⟩, ⟨2 * (s.mx + 4), opn s.bad, 2 * (s.mx + 3)⟩] := setGats_append _ _ _
    rw [← hgs] at hst hot
    have hmx : (mkStep s p).mx = s.mx + 4 := rfl
    have hbd : (mkStep s p).bad = 2 * (s.mx + 4) + 1 := rfl
    rw [List.foldl_cons, ih (mkStep s p) (by omega) (by omega) (fun q hq => by have := hp q (by simp [hq]); omega) (fun x h1 h2 => by rw [hot x (by omega)]; exact h48 x (by omega) (by omega)), hbd, hst, List.any_cons, Bool.or_assoc]
    congr 2
    rw [Bool.eq_iff_iff]
    simp only [List.any_eq_true]
    have hk : ∀ q ∈ ps, tru (setGats r (mkStep s p).gs) q.1 = tru (setGats r s.gs) q.1 ∧ tru (setGats r (mkStep s p).gs) q.2 = tru (setGats r s.gs) q.2 := fun q hq => by
      have := hp q (by simp [hq])
      exact ⟨tru_congr _ _ _ (hot _ (by unfold varOf; omega)), tru_congr _ _ _ (hot _ (by unfold varOf; omega))⟩
    constructor
    · rintro ⟨q, hq, e⟩
      exact ⟨q, hq, by rw [← (hk q hq).1, ← (hk q hq).2]; exact e⟩
    · rintro ⟨q, hq, e⟩
      exact ⟨q, hq, by rw [(hk q hq).1, (hk q hq).2]; exact e⟩

theorem negOf_odd (l : Int) (h : 0 ≤ l) : negOf l = decide (l % 2 = 1) := by
  unfold negOf
  rw [Bool.eq_iff_iff]
  simp only [Bool.and_eq_true, decide_eq_true_eq]
  omega

theorem mov_neg (ins to_ : List Int) (n l : Int) (h : 0 ≤ l) (hn : 0 ≤ n) (ht : ∀ t ∈ to_, 2 ≤ t ∧ t % 2 = 0) : negOf (mov ins to_ n l) = negOf l := by
  obtain ⟨h1, h2, _⟩ := mov_some ins to_ n l h hn ht
  rw [negOf_odd _ h2, negOf_odd _ h, h1]

theorem mov_var_kind (ins to_ : List Int) (n l : Int) (hl : to_.length = ins.length) (hnd : (ins.map varOf).Nodup) (ht : ∀ t ∈ to_, 2 ≤ t ∧ t % 2 = 0) (h : 0 ≤ l) (hn : 0 ≤ n) :
    (l < 2 ∧ varOf (mov ins to_ n l) = 0) ∨ (∃ k, ∃ hk : k < ins.length, 2 ≤ l ∧ varOf l = varOf ins[k] ∧ varOf (mov ins to_ n l) = varOf (to_[k]'(by omega))) ∨
    (2 ≤ l ∧ (∀ d ∈ ins, varOf d ≠ varOf l) ∧ varOf (mov ins to_ n l) = varOf l + n.toNat) := by
  by_cases h2 : l < 2
  · refine .inl ⟨h2, ?_⟩
    rw [mov_low _ _ _ _ h2]
    unfold varOf
    omega
  · by_cases e : ∃ d ∈ ins, varOf d = varOf l
    · obtain ⟨d, hd, e⟩ := e
      obtain ⟨k, hk, rfl⟩ := List.getElem_of_mem hd
      refine .inr (.inl ⟨k, hk, by omega, e.symm, ?_⟩)
      rw [mov_in hnd hl hk (by omega) e.symm]
      have := ht _ (List.getElem_mem (show k < to_.length by omega))
      unfold varOf
      omega
    · have e' : ∀ d ∈ ins, varOf d ≠ varOf l := fun d hd hx => e ⟨d, hd, hx⟩
      refine .inr (.inr ⟨by omega, e', ?_⟩)
      rw [mov_far (by omega) e']
      unfold varOf
      omega

theorem map_inj {l : List Int} (h : (l.map varOf).Nodup) {i j : Nat} (hi : i < l.length) (hj : j < l.length) (e : varOf l[i] = varOf l[j]) : i = j := by
  have hp := List.pairwise_iff_getElem.1 h
  rcases Nat.lt_trichotomy i j with hlt | heq | hlt
  · exact absurd ((List.getElem_map _).trans (e.trans (List.getElem_map _).symm)) (hp i j (by simpa using hi) (by simpa using hj) hlt)
  · exact heq
  · exact absurd ((List.getElem_map _).trans (e.symm.trans (List.getElem_map _).symm)) (hp j i (by simpa using hj) (by simpa using hi) hlt)

theorem mov_var_iff (ins to_ : List Int) (n l l' : Int) (hl : to_.length = ins.length) (hnd : (ins.map varOf).Nodup) (hnt : (to_.map varOf).Nodup) (ht : ∀ t ∈ to_, 2 ≤ t ∧ t % 2 = 0) (htn : ∀ t ∈ to_, t ≤ 2 * n)
    (h : 0 ≤ l) (h' : 0 ≤ l') (hn : 0 ≤ n) : varOf l = varOf l' ↔ varOf (mov ins to_ n l) = varOf (mov ins to_ n l') := by
  have big : ∀ t ∈ to_, 1 ≤ varOf t ∧ varOf t ≤ n.toNat := fun t hx => by have := ht t hx; have := htn t hx; unfold varOf; omega
  have low : ∀ x : Int, 0 ≤ x → (x < 2 ↔ varOf x = 0) := fun x hx => by unfold varOf; omega
  rcases mov_var_kind ins to_ n l hl hnd ht h hn with ⟨a1, a2⟩ | ⟨k, hk, a1, a2, a3⟩ | ⟨a1, a2, a3⟩ <;>
  rcases mov_var_kind ins to_ n l' hl hnd ht h' hn with ⟨b1, b2⟩ | ⟨j, hj, b1, b2, b3⟩ | ⟨b1, b2, b3⟩
  · have := (low _ h).1 a1; have := (low _ h').1 b1; omega
  · have := (low _ h).1 a1; have := mt (low _ h').2 (by omega); have := big _ (List.getElem_mem (show j < to_.length by omega)); omega
  · have := (low _ h).1 a1; have := mt (low _ h').2 (by omega); omega
  · have := (low _ h').1 b1; have := mt (low _ h).2 (by omega); have := big _ (List.getElem_mem (show k < to_.length by omega)); omega
  · rw [a2, b2, a3, b3]
    constructor
    · intro e; have := map_inj hnd hk hj e; subst this; rfl
    · intro e; have := map_inj hnt (by omega) (by omega) e; subst this; rfl
  · have h1 := big _ (List.getElem_mem (show k < to_.length by omega))
    have h2 := b2 _ (List.getElem_mem hk)
    have := mt (low _ h').2 (by omega)
    constructor <;> intro e <;> omega
  · have := (low _ h').1 b1; have := mt (low _ h).2 (by omega); omega
  · have h1 := big _ (List.getElem_mem (show j < to_.length by omega))
    have h2 := a2 _ (List.getElem_mem hj)
    have := mt (low _ h).2 (by omega)
    constructor <;> intro e <;> omega
  · omega

theorem known_iff (c : Circ) (h : Right c) (l : Int) : known c l = true ↔ 0 ≤ l ∧ (l < 2 ∨ ∃ d ∈ c.defs, varOf d = varOf l) := by
  simp only [known, Bool.and_eq_true, decide_eq_true_eq, Bool.not_eq_true', kindS_ne, hasVar_iff]
  refine and_congr_right fun h0 => or_congr (by omega) ⟨?_, ?_⟩
  · rintro ⟨d, hd, h1, h2⟩
    exact ⟨d, hd, by unfold varOf; omega⟩
  · rintro ⟨d, hd, e⟩
    have := h.defs d hd
    exact ⟨d, hd, by omega, by unfold varOf at e; omega⟩

end Go.Proofs.YtpkaoabpifeigaaGreatDoor.PC

namespace Go.Proofs.YtpkaoabpifeigaaGreatDoor.PC

theorem setAll_congr (v : Nat) : ∀ (l : List (Int × UInt8)) (s t : Bs), s[v]? = t[v]? → v < s.length → v < t.length → (setAll s l)[v]? = (setAll t l)[v]? := by
  intro l
  induction l with
  | nil => intro s t h _ _; exact h
  | cons p r ih =>
    intro s t h hv hu
    simp only [setAll]
    refine ih _ _ ?_ (by simpa using hv) (by simpa using hu)
    by_cases e : varOf p.1 = v
    · rw [e]; simp [hv, hu]
    · rw [List.getElem?_set_ne e, List.getElem?_set_ne e, h]

/-- two circuits that may be joined -/
structure Two (a b : Circ) : Prop where
  ra : Right a
  rb : Right b
  ins : a.inputs.length = b.inputs.length
  outs : a.outputs.length = b.outputs.length

def jf (a b : Circ) (l : Int) : Int := mov b.inputs a.inputs a.max l

theorem Two.even {a b : Circ} (h : Two a b) : ∀ t ∈ a.inputs, 2 ≤ t ∧ t % 2 = 0 := ins_even a h.ra
theorem Two.top {a b : Circ} (h : Two a b) : ∀ t ∈ a.inputs, t ≤ 2 * a.max := fun t ht => (h.ra.defs t (mem_defs_in a t ht)).2.2

theorem Two.kind {a b : Circ} (h : Two a b) (l : Int) (h0 : 0 ≤ l) :
    (l < 2 ∧ varOf (jf a b l) = 0) ∨ (∃ k, ∃ hk : k < b.inputs.length, 2 ≤ l ∧ varOf l = varOf b.inputs[k] ∧ varOf (jf a b l) = varOf (a.inputs[k]'(by have := h.ins; omega))) ∨
    (2 ≤ l ∧ (∀ d ∈ b.inputs, varOf d ≠ varOf l) ∧ varOf (jf a b l) = varOf l + a.max.toNat) :=
  mov_var_kind b.inputs a.inputs a.max l h.ins (parts_nodup b h.rb).1 h.even h0 h.ra.max0

theorem Two.iff {a b : Circ} (h : Two a b) (l l' : Int) (h0 : 0 ≤ l) (h1 : 0 ≤ l') : varOf l = varOf l' ↔ varOf (jf a b l) = varOf (jf a b l') :=
  mov_var_iff b.inputs a.inputs a.max l l' h.ins (parts_nodup b h.rb).1 (parts_nodup a h.ra).1 h.even h.top h0 h1 h.ra.max0

theorem Two.neg {a b : Circ} (h : Two a b) (l : Int) (h0 : 0 ≤ l) : negOf (jf a b l) = negOf l := mov_neg b.inputs a.inputs a.max l h0 h.ra.max0 h.even

theorem Two.le {a b : Circ} (h : Two a b) (l : Int) (h0 : 0 ≤ l) (h1 : l ≤ 2 * b.max + 1) : 0 ≤ jf a b l ∧ jf a b l ≤ 2 * (a.max + b.max) + 1 := by
  have ha := h.ra.max0
  have hb := h.rb.max0
  refine ⟨(mov_some b.inputs a.inputs a.max l h0 ha h.even).2.1, ?_⟩
  have hk := h.kind l h0
  have hp := (mov_some b.inputs a.inputs a.max l h0 ha h.even)
  change jf a b l % 2 = _ ∧ 0 ≤ jf a b l ∧ (jf a b l < 2 ↔ _) at hp
  rcases hk with ⟨k1, k2⟩ | ⟨k, hk, k1, k2, k3⟩ | ⟨k1, k2, k3⟩
  · have := hp.2.2.2 k1; omega
  · have := h.top _ (List.getElem_mem (show k < a.inputs.length by have := h.ins; omega))
    unfold varOf at k3; omega
  · unfold varOf at k3; omega

theorem Two.lat {a b : Circ} (h : Two a b) (x : Lat) (hx : x ∈ b.latches) : jf a b x.lit = x.lit + 2 * a.max := mov_lat h.rb a.inputs a.max x hx
theorem Two.gat {a b : Circ} (h : Two a b) (x : Gat) (hx : x ∈ b.ands) : jf a b x.lit = x.lit + 2 * a.max := mov_gat h.rb a.inputs a.max x hx
theorem Two.inp {a b : Circ} (h : Two a b) (k : Nat) (hk : k < b.inputs.length) : jf a b b.inputs[k] = a.inputs[k]'(by have := h.ins; omega) := by
  have e := ins_even b h.rb _ (List.getElem_mem hk)
  unfold jf
  rw [mov_in (parts_nodup b h.rb).1 h.ins hk e.1 rfl, e.2]
  omega

/-- the miter's three numbers -/
theorem Two.mx {a b : Circ} (h : Two a b) : (joinC a b).max = a.max + b.max + 4 * a.outputs.length := by
  have := (mkN_shape a b h.outs a.outputs.length (Nat.le_refl _)).1
  rw [mkN_all a b h.outs] at this
  exact this

theorem Two.len {a b : Circ} (h : Two a b) (st i : Bs) : (start (joinC a b) st i).length = (a.max + b.max + 4 * a.outputs.length).toNat + 1 := by rw [start_length, h.mx]

theorem Two.latLits {a b : Circ} (_h : Two a b) : (shiftC b a.inputs a.max).latches.map (·.lit) = (b.latches.map (·.lit)).map (jf a b) := by
  simp only [shiftC, List.map_map]; rfl

theorem Two.startA {a b : Circ} (h : Two a b) (x y i : Bs) (hx : x.length = a.latches.length) (v : Nat) (hv : v ≤ a.max.toNat) : (start (joinC a b) (x ++ y) i)[v]? = (start a x i)[v]? := by
  have hb := h.rb.max0
  have ha := h.ra.max0
  rw [start_join a b x y i hx.symm, h.mx]
  rw [setAll_other _ _ _ fun p hp => by
    obtain ⟨q, hq, e⟩ := List.mem_map.1 (List.of_mem_zip hp).1
    obtain ⟨z, hz, rfl⟩ := List.mem_map.1 hq
    have hd := h.rb.defs _ (mem_defs_lat b z hz)
    rw [← e]
    change varOf (jf a b z.lit) ≠ v
    rw [h.lat z hz]
    unfold varOf; omega]
  unfold start
  refine setAll_congr v _ _ _ (setAll_congr v _ _ _ ?_ ?_ ?_) ?_ ?_ <;> (try simp only [setAll_length, List.length_replicate]) <;> (try omega)
  rw [List.getElem?_replicate, List.getElem?_replicate, if_pos (by omega), if_pos (by omega)]

theorem Two.startB {a b : Circ} (h : Two a b) (x y i : Bs) (hx : x.length = a.latches.length) (l : Int) (h0 : 0 ≤ l) (h1 : l ≤ 2 * b.max + 1) : (start (joinC a b) (x ++ y) i)[varOf (jf a b l)]? = (start b y i)[varOf l]? := by
  have hb := h.rb.max0
  have ha := h.ra.max0
  have hle := h.le l h0 h1
  have hlt : varOf (jf a b l) < (a.max + b.max + 4 * (a.outputs.length : Int)).toNat + 1 := by unfold varOf; omega
  have hlt2 : varOf l < b.max.toNat + 1 := by unfold varOf; omega
  rw [start_join a b x y i hx.symm, h.mx, h.latLits]
  have ei : a.inputs.zip i = (b.inputs.zip i).map fun p => (jf a b p.1, p.2) := by
    have : a.inputs = b.inputs.map (jf a b) := by
      refine List.ext_getElem (by simpa using h.ins) fun k hk hk' => ?_
      rw [List.getElem_map, h.inp k (by simpa using hk')]
    rw [this, List.zip_map_left]; rfl
  have el : ((b.latches.map (·.lit)).map (jf a b)).zip y = ((b.latches.map (·.lit)).zip y).map fun p => (jf a b p.1, p.2) := by
    rw [List.zip_map_left]; rfl
  have hskip : ∀ s : Bs, (setAll s ((a.latches.map (·.lit)).zip x))[varOf (jf a b l)]? = s[varOf (jf a b l)]? := fun s => by
    refine setAll_other _ _ _ fun p hp => ?_
    obtain ⟨z, hz, e⟩ := List.mem_map.1 (List.of_mem_zip hp).1
    have hd := h.ra.defs _ (mem_defs_lat a z hz)
    rw [← e]
    rcases h.kind l h0 with ⟨k1, k2⟩ | ⟨k, hk, k1, k2, k3⟩ | ⟨k1, k2, k3⟩
    · rw [k2]; change varOf z.lit ≠ 0; unfold varOf; omega
    · rw [k3]; exact (parts_nodup a h.ra).2.2 _ (List.getElem_mem _) z hz
    · rw [k3]; change varOf z.lit ≠ _; unfold varOf; omega
  rw [setAll_congr _ _ _ (setAll (List.replicate ((a.max + b.max + 4 * (a.outputs.length : Int)).toNat + 1) 48) (a.inputs.zip i)) (hskip _) (by simp only [setAll_length, List.length_replicate]; exact hlt) (by simp only [setAll_length, List.length_replicate]; exact hlt)]
  rw [ei, el]
  unfold start
  symm
  refine setAll_ren (jf a b) _ _ _ _ _ (setAll_ren (jf a b) _ _ _ _ _ ?_ ?_ ?_ ?_) ?_ ?_ ?_ <;> (try simp only [setAll_length, List.length_replicate]) <;> (try omega)
  · rw [List.getElem?_replicate, List.getElem?_replicate, if_pos hlt, if_pos hlt2]
  · intro p hp
    have := h.rb.defs _ (mem_defs_in b _ (List.of_mem_zip hp).1)
    exact h.iff _ _ (by omega) h0
  · intro p hp
    obtain ⟨z, hz, e⟩ := List.mem_map.1 (List.of_mem_zip hp).1
    have := h.rb.defs _ (mem_defs_lat b z hz)
    exact h.iff _ _ (by omega) h0

theorem steps_other (r : Bs) : ∀ (ps : List (Int × Int)) (s : Mk), 0 ≤ s.mx → ∀ v, v ≤ s.mx.toNat → (setGats r (ps.foldl mkStep s).gs)[v]? = (setGats r s.gs)[v]? := by
  intro ps
  induction ps with
  | nil => intro s _ v _; rfl
  | cons p ps ih =>
    intro s h0 v hv
    have hmx : (mkStep s p).mx = s.mx + 4 := rfl
    rw [List.foldl_cons, ih (mkStep s p) (by omega) v (by omega)]
    have hgs : setGats r (mkStep s p).gs = setGats (setGats r s.gs) [⟨2 * (s.mx + 1), p.1, opn p.2⟩, ⟨2 * (s.mx + 2), opn p.1, p.2⟩, ⟨2 * (s.mx + 3), 2 * (s.mx + 1) + 1, 2 * (s.mx + 2) + 1⟩, ⟨2 * (s.mx + 4), opn s.bad, 2 * (s.mx + 3)⟩] := setGats_append _ _ _
    rw [hgs]
    exact step_other _ _ _ _ _ h0 v (Or.inl hv)

theorem vals_join (a b : Circ) (st i : Bs) : vals (joinC a b) st i = setGats (start (joinC a b) st i) (mkAll a b).gs := rfl

/-- without the last gates -/
def bas (a b : Circ) (st i : Bs) : Bs := setGats (setGats (start (joinC a b) st i) a.ands) (shiftC b a.inputs a.max).ands

theorem Two.base {a b : Circ} (h : Two a b) (st i : Bs) (v : Nat) (hv : v ≤ (a.max + b.max).toNat) : (vals (joinC a b) st i)[v]? = (bas a b st i)[v]? := by
  rw [vals_join]
  unfold mkAll
  rw [steps_other _ _ (mk0 a b) (by have := h.ra.max0; have := h.rb.max0; simp only [mk0]; omega) v hv]
  unfold mk0 PC.bas
  simp only [setGats_append]

theorem Two.valsA {a b : Circ} (h : Two a b) (x y i : Bs) (hx : x.length = a.latches.length) (l : Int) (h0 : 0 ≤ l) (h1 : l ≤ 2 * a.max + 1) : tru (bas a b (x ++ y) i) l = tru (vals a x i) l := by
  have hb := h.rb.max0
  have ha := h.ra.max0
  have e1 : tru (bas a b (x ++ y) i) l = tru (setGats (start (joinC a b) (x ++ y) i) a.ands) l := by
    refine tru_congr _ _ _ ?_
    unfold PC.bas
    refine setGats_other _ _ _ fun g hg => ?_
    obtain ⟨z, hz, rfl⟩ := List.mem_map.1 hg
    have hd := h.rb.defs _ (mem_defs_gat b z hz)
    change varOf (jf a b z.lit) ≠ _
    rw [h.gat z hz]
    unfold varOf; omega
  rw [e1]
  have := setGats_ren id (fun l => 0 ≤ l ∧ l ≤ 2 * a.max + 1) (fun _ _ => rfl) a.ands (start a x i) (start (joinC a b) (x ++ y) i)
    (fun l hl => by
      refine tru_congr _ _ _ ?_
      exact (h.startA x y i hx (varOf l) (by unfold varOf; omega)).symm)
    (fun g hg => by
      obtain ⟨g1, g2, g3, g4⟩ := h.ra.gats g hg
      have hd := h.ra.defs _ (mem_defs_gat a g hg)
      refine ⟨known_range a h.ra _ g3, known_range a h.ra _ g4, ?_, ?_, fun l _ => Iff.rfl⟩
      · rw [start_length]; unfold varOf; omega
      · rw [h.len]; show varOf g.lit < _; unfold varOf; omega) l ⟨h0, h1⟩
  exact (this.trans (by rw [show (a.ands.map fun a => (⟨id a.lit, id a.left, id a.right⟩ : Gat)) = a.ands from List.map_id _]; rfl)).symm

theorem Two.valsB {a b : Circ} (h : Two a b) (x y i : Bs) (hx : x.length = a.latches.length) (l : Int) (h0 : 0 ≤ l) (h1 : l ≤ 2 * b.max + 1) : tru (bas a b (x ++ y) i) (jf a b l) = tru (vals b y i) l := by
  have hb := h.rb.max0
  have ha := h.ra.max0
  have := setGats_ren (jf a b) (fun l => 0 ≤ l ∧ l ≤ 2 * b.max + 1) (fun l hl => h.neg l hl.1) b.ands (start b y i) (setGats (start (joinC a b) (x ++ y) i) a.ands)
    (fun l hl => by
      have e : (setGats (start (joinC a b) (x ++ y) i) a.ands)[varOf (jf a b l)]? = (start b y i)[varOf l]? := by
        rw [← h.startB x y i hx l hl.1 hl.2]
        refine setGats_other _ _ _ fun g hg => ?_
        have hd := h.ra.defs _ (mem_defs_gat a g hg)
        rcases h.kind l hl.1 with ⟨k1, k2⟩ | ⟨k, hk, k1, k2, k3⟩ | ⟨k1, k2, k3⟩
        · rw [k2]; unfold varOf; omega
        · rw [k3]; exact Ne.symm ((gate_apart a h.ra g hg).1 _ (List.getElem_mem _))
        · rw [k3]; unfold varOf; omega
      unfold tru
      rw [e, h.neg l hl.1])
    (fun g hg => by
      obtain ⟨g1, g2, g3, g4⟩ := h.rb.gats g hg
      have hd := h.rb.defs _ (mem_defs_gat b g hg)
      refine ⟨known_range b h.rb _ g3, known_range b h.rb _ g4, ?_, ?_, fun l hl => h.iff l _ hl.1 (by omega)⟩
      · rw [start_length]; unfold varOf; omega
      · rw [setGats_length, h.len, h.gat g hg]; unfold varOf; omega) l ⟨h0, h1⟩
  exact this.symm

/-- a literal of the first circuit -/
theorem Two.truA {a b : Circ} (h : Two a b) (x y i : Bs) (hx : x.length = a.latches.length) (l : Int) (hk : known a l = true) : tru (vals (joinC a b) (x ++ y) i) l = tru (vals a x i) l := by
  have hr := known_range a h.ra l hk
  have := h.rb.max0
  rw [← h.valsA x y i hx l hr.1 hr.2]
  exact tru_congr _ _ _ (h.base _ _ (varOf _) (by unfold varOf; omega))

/-- a literal of the second circuit -/
theorem Two.truB {a b : Circ} (h : Two a b) (x y i : Bs) (hx : x.length = a.latches.length) (l : Int) (hk : known b l = true) : tru (vals (joinC a b) (x ++ y) i) (jf a b l) = tru (vals b y i) l := by
  have hr := known_range b h.rb l hk
  have hm := h.le l hr.1 hr.2
  rw [← h.valsB x y i hx l hr.1 hr.2]
  exact tru_congr _ _ _ (h.base _ _ (varOf _) (by unfold varOf; omega))

/-- the miter's Bad -/
theorem Two.bad {a b : Circ} (h : Two a b) (x y i : Bs) (hx : x.length = a.latches.length) :
    tru (vals (joinC a b) (x ++ y) i) (mkAll a b).bad = (a.outputs.zip b.outputs).any fun p => tru (vals a x i) p.1 != tru (vals b y i) p.2 := by
  have hb := h.rb.max0
  have ha := h.ra.max0
  have hbase : setGats (start (joinC a b) (x ++ y) i) (mk0 a b).gs = PC.bas a b (x ++ y) i := by unfold mk0 PC.bas; simp only [setGats_append]
  have hst := steps_tru (start (joinC a b) (x ++ y) i) (mks a b) (mk0 a b) (by simp only [mk0]; omega) (by simp only [mk0]; omega)
    (fun p hp => by
      obtain ⟨p1, p2⟩ := List.of_mem_zip (show (p.1, p.2) ∈ _ from hp)
      obtain ⟨o, ho, e⟩ := List.mem_map.1 p2
      have k1 := known_range a h.ra _ (h.ra.outK _ p1)
      have k2 := known_range b h.rb _ (h.rb.outK _ ho)
      have k3 := h.le o k2.1 k2.2
      change jf a b o = p.2 at e
      rw [e] at k3
      simp only [mk0]; omega)
    (fun v h1 h2 => by
      rw [mks_len a b h.outs] at h2
      simp only [mk0] at h1 h2
      rw [hbase]
      unfold PC.bas
      rw [setGats_other _ _ _ fun g hg => by
        obtain ⟨z, hz, rfl⟩ := List.mem_map.1 hg
        have hd := h.rb.defs _ (mem_defs_gat b z hz)
        change varOf (jf a b z.lit) ≠ _
        rw [h.gat z hz]; unfold varOf; omega]
      rw [setGats_other _ _ _ fun g hg => by
        have hd := h.ra.defs _ (mem_defs_gat a g hg)
        unfold varOf; omega]
      refine start_other (joinC a b) _ i v (by rw [h.mx]; omega) (fun d hd => ?_) (fun z hz => ?_)
      · have := h.ra.defs _ (mem_defs_in a d hd)
        unfold varOf; omega
      · rcases List.mem_append.1 (show z ∈ a.latches ++ (shiftC b a.inputs a.max).latches from hz) with hy | hy
        · have := h.ra.defs _ (mem_defs_lat a z hy)
          unfold varOf; omega
        · obtain ⟨q, hq, e⟩ := List.mem_map.1 hy
          have := h.rb.defs _ (mem_defs_lat b q hq)
          rw [← e]
          change varOf (jf a b q.lit) ≠ _
          rw [h.lat q hq]; unfold varOf; omega)
  rw [vals_join]
  refine hst.trans ?_
  rw [hbase]
  have hz : tru (PC.bas a b (x ++ y) i) (mk0 a b).bad = false := by
    show tru _ 0 = false
    rw [h.valsA x y i hx 0 (by omega) (by omega)]
    unfold tru
    rw [show varOf 0 = 0 from rfl, vals_zero a h.ra]; rfl
  rw [hz, Bool.false_or]
  have hmk : mks a b = (a.outputs.zip b.outputs).map fun p => (p.1, jf a b p.2) := by
    show a.outputs.zip (b.outputs.map (jf a b)) = _
    rw [List.zip_map_right]; rfl
  rw [hmk, List.any_map]
  rw [Bool.eq_iff_iff]
  simp only [List.any_eq_true, Function.comp_apply]
  refine exists_congr fun p => and_congr_right fun hp => ?_
  obtain ⟨p1, p2⟩ := List.of_mem_zip (show (p.1, p.2) ∈ _ from hp)
  have k1 := known_range a h.ra _ (h.ra.outK _ p1)
  have k2 := known_range b h.rb _ (h.rb.outK _ p2)
  rw [h.valsA x y i hx _ k1.1 k1.2, h.valsB x y i hx _ k2.1 k2.2]

end Go.Proofs.YtpkaoabpifeigaaGreatDoor.PC

namespace Go.Proofs.YtpkaoabpifeigaaGreatDoor.PC

theorem rising_pair : ∀ (l : List Gat), (∀ p, rising (some p) l = true ↔ (∀ b ∈ l, p < b.lit) ∧ l.Pairwise fun a b => a.lit < b.lit) ∧ (rising none l = true ↔ l.Pairwise fun a b => a.lit < b.lit) := by
  intro l
  induction l with
  | nil => exact ⟨fun p => by simp [rising], by simp [rising]⟩
  | cons a r ih =>
    refine ⟨fun p => ?_, ?_⟩
    · simp only [rising, Bool.and_eq_true, decide_eq_true_eq, ih.1, List.mem_cons, forall_eq_or_imp, List.pairwise_cons]
      constructor
      · rintro ⟨h1, h2, h3⟩
        exact ⟨⟨h1, fun b hb => by have := h2 b hb; omega⟩, h2, h3⟩
      · rintro ⟨⟨h1, _⟩, h2, h3⟩
        exact ⟨h1, h2, h3⟩
    · simp only [rising, ih.1, List.pairwise_cons]

/-- known by a list of what is defined -/
def KD (D : List Int) (l : Int) : Prop := 0 ≤ l ∧ (l < 2 ∨ ∃ d ∈ D, 0 ≤ d ∧ d / 2 = l / 2)

theorem known_KD (c : Circ) (l : Int) : known c l = true ↔ KD c.defs l := by
  simp only [known, Bool.and_eq_true, decide_eq_true_eq, Bool.not_eq_true', kindS_ne, hasVar_iff, KD]
  exact and_congr_right fun h0 => or_congr (by omega) Iff.rfl

theorem KD.mono {D E : List Int} {l : Int} (h : KD D l) (hs : ∀ d ∈ D, d ∈ E) : KD E l := by
  obtain ⟨h0, h1⟩ := h
  refine ⟨h0, ?_⟩
  rcases h1 with h1 | ⟨d, hd, h2⟩
  · exact .inl h1
  · exact .inr ⟨d, hs d hd, h2⟩

theorem KD.opn {D : List Int} {l : Int} (h : KD D l) : KD D (opn l) := by
  obtain ⟨h0, h1⟩ := h
  unfold PC.opn
  refine ⟨by split <;> omega, ?_⟩
  rcases h1 with h1 | ⟨d, hd, h2, h3⟩
  · left; split <;> omega
  · right; exact ⟨d, hd, h2, by split <;> omega⟩

/-- what holds of a miter in the making -/
structure Inv (D : List Int) (s : Mk) : Prop where
  m0 : 0 ≤ s.mx
  gat : ∀ g ∈ s.gs, KD (D ++ s.gs.map (·.lit)) g.left ∧ KD (D ++ s.gs.map (·.lit)) g.right ∧ g.left < g.lit ∧ g.right < g.lit
  rise : s.gs.Pairwise fun a b => a.lit < b.lit
  bad : KD (D ++ s.gs.map (·.lit)) s.bad
  defs : ∀ d ∈ D ++ s.gs.map (·.lit), 2 ≤ d ∧ d % 2 = 0 ∧ d ≤ 2 * s.mx
  nodup : (D ++ s.gs.map (·.lit)).Nodup

theorem Inv.top {D : List Int} {s : Mk} (h : Inv D s) {l : Int} (hk : KD (D ++ s.gs.map (·.lit)) l) : 0 ≤ l ∧ l ≤ 2 * s.mx + 1 := by
  obtain ⟨h0, h1⟩ := hk
  have := h.m0
  refine ⟨h0, ?_⟩
  rcases h1 with h1 | ⟨d, hd, _, h2⟩
  · omega
  · have := h.defs d hd; omega

theorem Inv.step {D : List Int} {s : Mk} (h : Inv D s) (p : Int × Int) (h1 : KD (D ++ s.gs.map (·.lit)) p.1) (h2 : KD (D ++ s.gs.map (·.lit)) p.2) : Inv D (mkStep s p) := by
  obtain ⟨t10, t11⟩ := h.top h1
  obtain ⟨t20, t21⟩ := h.top h2
  obtain ⟨t30, t31⟩ := h.top h.bad
  have m0 := h.m0
  have hop : ∀ l : Int, 0 ≤ l → l ≤ 2 * s.mx + 1 → opn l ≤ 2 * s.mx + 1 := fun l _ _ => by unfold PC.opn; split <;> omega
  have hgs : (mkStep s p).gs = s.gs ++ [⟨2 * (s.mx + 1), p.1, PC.opn p.2⟩, ⟨2 * (s.mx + 2), PC.opn p.1, p.2⟩, ⟨2 * (s.mx + 3), 2 * (s.mx + 1) + 1, 2 * (s.mx + 2) + 1⟩, ⟨2 * (s.mx + 4), PC.opn s.bad, 2 * (s.mx + 3)⟩] := rfl
  have hmx : (mkStep s p).mx = s.mx + 4 := rfl
  have hbd : (mkStep s p).bad = 2 * (s.mx + 4) + 1 := rfl
  have hl : D ++ (mkStep s p).gs.map (·.lit) = (D ++ s.gs.map (·.lit)) ++ [2 * (s.mx + 1), 2 * (s.mx + 2), 2 * (s.mx + 3), 2 * (s.mx + 4)] := by
    rw [hgs, List.map_append, ← List.append_assoc]; rfl
  have hmono : ∀ {l}, KD (D ++ s.gs.map (·.lit)) l → KD (D ++ (mkStep s p).gs.map (·.lit)) l := fun hk => hk.mono fun d hd => by rw [hl]; exact List.mem_append_left _ hd
  have hnew : ∀ d : Int, d ∈ [2 * (s.mx + 1), 2 * (s.mx + 2), 2 * (s.mx + 3), 2 * (s.mx + 4)] → KD (D ++ (mkStep s p).gs.map (·.lit)) d ∧ KD (D ++ (mkStep s p).gs.map (·.lit)) (d + 1) := fun d hd => by
    have hm : d ∈ D ++ (mkStep s p).gs.map (·.lit) := by rw [hl]; exact List.mem_append_right _ hd
    simp only [List.mem_cons, List.mem_nil_iff, or_false] at hd
    exact ⟨⟨by omega, .inr ⟨d, hm, by omega, rfl⟩⟩, ⟨by omega, .inr ⟨d, hm, by omega, by omega⟩⟩⟩
  have o1 := hop _ t10 t11
  have o2 := hop _ t20 t21
  have o3 := hop _ t30 t31
  refine ⟨by omega, ?_, ?_, ?_, ?_, ?_⟩
  · intro g hg
    rw [hgs] at hg
    rcases List.mem_append.1 hg with hg | hg
    · obtain ⟨g1, g2, g3, g4⟩ := h.gat g hg
      exact ⟨hmono g1, hmono g2, g3, g4⟩
    · simp only [List.mem_cons, List.mem_nil_iff, or_false] at hg
      rcases hg with rfl | rfl | rfl | rfl
      · exact ⟨hmono h1, hmono h2.opn, by show p.1 < 2 * (s.mx + 1); omega, by show PC.opn p.2 < 2 * (s.mx + 1); omega⟩
      · exact ⟨hmono h1.opn, hmono h2, by show PC.opn p.1 < 2 * (s.mx + 2); omega, by show p.2 < 2 * (s.mx + 2); omega⟩
      · exact ⟨(hnew _ (by simp)).2, (hnew _ (by simp)).2, by show 2 * (s.mx + 1) + 1 < 2 * (s.mx + 3); omega, by show 2 * (s.mx + 2) + 1 < 2 * (s.mx + 3); omega⟩
      · exact ⟨hmono h.bad.opn, (hnew _ (by simp)).1, by show PC.opn s.bad < 2 * (s.mx + 4); omega, by show 2 * (s.mx + 3) < 2 * (s.mx + 4); omega⟩
  · rw [hgs, List.pairwise_append]
    refine ⟨h.rise, by simp, fun x hx y hy => ?_⟩
    have := h.defs x.lit (List.mem_append_right _ (List.mem_map_of_mem hx))
    simp only [List.mem_cons, List.mem_nil_iff, or_false] at hy
    rcases hy with rfl | rfl | rfl | rfl
    · show x.lit < 2 * (s.mx + 1); omega
    · show x.lit < 2 * (s.mx + 2); omega
    · show x.lit < 2 * (s.mx + 3); omega
    · show x.lit < 2 * (s.mx + 4); omega
  · rw [hbd]; exact (hnew _ (by simp)).2
  · intro d hd
    rw [hl] at hd
    rcases List.mem_append.1 hd with hd | hd
    · have := h.defs d hd; omega
    · simp only [List.mem_cons, List.mem_nil_iff, or_false] at hd
      omega
  · rw [hl, List.nodup_append]
    refine ⟨h.nodup, by simp; omega, fun x hx y hy => ?_⟩
    have := h.defs x hx
    simp only [List.mem_cons, List.mem_nil_iff, or_false] at hy
    omega

theorem Inv.fold {D : List Int} : ∀ (ps : List (Int × Int)) (s : Mk), Inv D s → (∀ p ∈ ps, KD (D ++ s.gs.map (·.lit)) p.1 ∧ KD (D ++ s.gs.map (·.lit)) p.2) →
    Inv D (ps.foldl mkStep s) ∧ ∀ d ∈ D ++ s.gs.map (·.lit), d ∈ D ++ (ps.foldl mkStep s).gs.map (·.lit) := by
  intro ps
  induction ps with
  | nil => intro s h _; exact ⟨h, fun d hd => hd⟩
  | cons p ps ih =>
    intro s h hp
    have hs : ∀ d ∈ D ++ s.gs.map (·.lit), d ∈ D ++ (mkStep s p).gs.map (·.lit) := fun d hd => by
      simp only [List.mem_append] at hd ⊢
      rcases hd with hd | hd
      · exact .inl hd
      · right
        obtain ⟨g, hg, rfl⟩ := List.mem_map.1 hd
        exact List.mem_map_of_mem (List.mem_append_left _ hg)
    obtain ⟨h1, h2⟩ := hp p (by simp)
    obtain ⟨i1, i2⟩ := ih (mkStep s p) (h.step p h1 h2) fun q hq => ⟨(hp q (by simp [hq])).1.mono hs, (hp q (by simp [hq])).2.mono hs⟩
    exact ⟨i1, fun d hd => i2 d (hs d hd)⟩

def D0 (a b : Circ) : List Int := a.inputs ++ (a.latches ++ (shiftC b a.inputs a.max).latches).map (·.lit)

theorem Two.kA {a b : Circ} (_h : Two a b) {l : Int} (hk : known a l = true) : KD (D0 a b ++ (mk0 a b).gs.map (·.lit)) l := by
  refine ((known_KD a l).1 hk).mono fun d hd => ?_
  unfold Circ.defs at hd
  unfold D0 mk0
  simp only [List.mem_append, List.map_append] at hd ⊢
  rcases hd with (hd | hd) | hd
  · exact .inl (.inl hd)
  · exact .inl (.inr (.inl hd))
  · exact .inr (.inl hd)

theorem Two.kB {a b : Circ} (h : Two a b) {l : Int} (hk : known b l = true) : KD (D0 a b ++ (mk0 a b).gs.map (·.lit)) (jf a b l) := by
  obtain ⟨h0, h1⟩ := (known_KD b l).1 hk
  have hm := mov_some b.inputs a.inputs a.max l h0 h.ra.max0 h.even
  change jf a b l % 2 = _ ∧ 0 ≤ jf a b l ∧ (jf a b l < 2 ↔ _) at hm
  refine ⟨hm.2.1, ?_⟩
  rcases h1 with h1 | ⟨d, hd, hd0, hd1⟩
  · exact .inl (hm.2.2.2 h1)
  · right
    have e : varOf (jf a b d) = varOf (jf a b l) := (h.iff d l hd0 h0).1 (by unfold varOf; omega)
    have hd3 := (mov_some b.inputs a.inputs a.max d hd0 h.ra.max0 h.even).2.1
    change 0 ≤ jf a b d at hd3
    refine ⟨jf a b d, ?_, hd3, by unfold varOf at e; omega⟩
    unfold Circ.defs at hd
    unfold D0 mk0
    simp only [List.mem_append, List.map_append] at hd ⊢
    rcases hd with (hd | hd) | hd
    · obtain ⟨k, hk, rfl⟩ := List.getElem_of_mem hd
      rw [h.inp k hk]
      exact .inl (.inl (List.getElem_mem _))
    · rw [h.latLits]
      exact .inl (.inr (.inr (List.mem_map_of_mem hd)))
    · obtain ⟨g, hg, rfl⟩ := List.mem_map.1 hd
      exact .inr (.inr (List.mem_map.2 ⟨movGat b.inputs a.inputs a.max g, List.mem_map_of_mem hg, rfl⟩))

theorem Two.inv0 {a b : Circ} (h : Two a b) : Inv (D0 a b) (mk0 a b) := by
  have ha := h.ra.max0
  have hb := h.rb.max0
  have hmx : (mk0 a b).mx = a.max + b.max := rfl
  have hgs : (mk0 a b).gs = a.ands ++ (shiftC b a.inputs a.max).ands := rfl
  have hB : ∀ x ∈ (shiftC b a.inputs a.max).ands, ∃ g ∈ b.ands, x = ⟨g.lit + 2 * a.max, jf a b g.left, jf a b g.right⟩ := fun x hx => by
    obtain ⟨g, hg, rfl⟩ := List.mem_map.1 hx
    exact ⟨g, hg, by rw [← h.gat g hg]; rfl⟩
  have hL : ∀ x ∈ (shiftC b a.inputs a.max).latches, ∃ z ∈ b.latches, x.lit = z.lit + 2 * a.max := fun x hx => by
    obtain ⟨z, hz, rfl⟩ := List.mem_map.1 hx
    exact ⟨z, hz, by rw [← h.lat z hz]; rfl⟩
  refine ⟨by omega, ?_, ?_, ⟨by show (0 : Int) ≤ 0; omega, .inl (by show (0 : Int) < 2; omega)⟩, ?_, ?_⟩
  · intro g hg
    rw [hgs] at hg
    rcases List.mem_append.1 hg with hg | hg
    · obtain ⟨g1, g2, g3, g4⟩ := h.ra.gats g hg
      exact ⟨h.kA g3, h.kA g4, g1, g2⟩
    · obtain ⟨z, hz, rfl⟩ := hB g hg
      obtain ⟨g1, g2, g3, g4⟩ := h.rb.gats z hz
      have hd := h.rb.defs _ (mem_defs_gat b z hz)
      have hlt : ∀ l, known b l = true → l < z.lit → jf a b l < z.lit + 2 * a.max := fun l hk hl => by
        have hr := known_range b h.rb l hk
        have hm := mov_some b.inputs a.inputs a.max l hr.1 ha h.even
        change jf a b l % 2 = _ ∧ 0 ≤ jf a b l ∧ (jf a b l < 2 ↔ _) at hm
        rcases h.kind l hr.1 with ⟨k1, k2⟩ | ⟨k, hk, k1, k2, k3⟩ | ⟨k1, k2, k3⟩
        · have := hm.2.2.2 k1; omega
        · have := h.top _ (List.getElem_mem (show k < a.inputs.length by have := h.ins; omega))
          unfold varOf at k3; omega
        · unfold varOf at k3; omega
      exact ⟨h.kB g3, h.kB g4, hlt _ g3 g1, hlt _ g4 g2⟩
  · rw [hgs, List.pairwise_append]
    refine ⟨(rising_pair _).2.1 h.ra.rise, ?_, fun x hx y hy => ?_⟩
    · show (b.ands.map (movGat b.inputs a.inputs a.max)).Pairwise _
      rw [List.pairwise_map]
      refine List.Pairwise.imp_of_mem ?_ ((rising_pair _).2.1 h.rb.rise)
      intro x y hx hy hl
      change jf a b x.lit < jf a b y.lit
      rw [h.gat x hx, h.gat y hy]; omega
    · have := h.ra.defs _ (mem_defs_gat a x hx)
      obtain ⟨z, hz, rfl⟩ := hB y hy
      have := h.rb.defs _ (mem_defs_gat b z hz)
      show x.lit < z.lit + 2 * a.max
      omega
  · intro d hd
    rw [hgs, hmx] at *
    unfold D0 at hd
    simp only [List.mem_append, List.map_append] at hd
    rcases hd with (hd | hd | hd) | hd | hd
    · have := h.ra.defs d (mem_defs_in a d hd); omega
    · obtain ⟨z, hz, rfl⟩ := List.mem_map.1 hd
      have := h.ra.defs _ (mem_defs_lat a z hz); omega
    · obtain ⟨x, hx, rfl⟩ := List.mem_map.1 hd
      obtain ⟨z, hz, e⟩ := hL x hx
      have := h.rb.defs _ (mem_defs_lat b z hz); rw [e]; omega
    · obtain ⟨z, hz, rfl⟩ := List.mem_map.1 hd
      have := h.ra.defs _ (mem_defs_gat a z hz); omega
    · obtain ⟨x, hx, rfl⟩ := List.mem_map.1 hd
      obtain ⟨z, hz, rfl⟩ := hB x hx
      have := h.rb.defs _ (mem_defs_gat b z hz)
      show 2 ≤ z.lit + 2 * a.max ∧ (z.lit + 2 * a.max) % 2 = 0 ∧ z.lit + 2 * a.max ≤ _
      omega
  · have hperm : (D0 a b ++ (mk0 a b).gs.map (·.lit)).Perm (a.defs ++ ((shiftC b a.inputs a.max).latches.map (·.lit) ++ (shiftC b a.inputs a.max).ands.map (·.lit))) := by
      rw [hgs]
      unfold D0 Circ.defs
      simp only [List.map_append, List.append_assoc]
      refine List.Perm.append_left _ (List.Perm.append_left _ ?_)
      exact List.perm_append_comm_assoc _ _ _
    rw [hperm.nodup_iff, List.nodup_append]
    have e2 : (shiftC b a.inputs a.max).latches.map (·.lit) ++ (shiftC b a.inputs a.max).ands.map (·.lit) = (b.latches.map (·.lit) ++ b.ands.map (·.lit)).map (· + 2 * a.max) := by
      rw [List.map_append]
      congr 1
      · rw [h.latLits, List.map_map, List.map_map]
        exact List.map_congr_left fun z hz => h.lat z hz
      · show (b.ands.map (movGat b.inputs a.inputs a.max)).map (·.lit) = _
        rw [List.map_map, List.map_map]
        exact List.map_congr_left fun z hz => h.gat z hz
    have hnb : (b.latches.map (·.lit) ++ b.ands.map (·.lit)).Nodup := by
      have := h.rb.nodup
      unfold Circ.defs at this
      rw [List.append_assoc, List.nodup_append] at this
      exact this.2.1
    refine ⟨h.ra.nodup, ?_, fun x hx y hy => ?_⟩
    · rw [e2]
      rw [List.nodup_iff_pairwise_ne, List.pairwise_map]
      exact (List.nodup_iff_pairwise_ne.1 hnb).imp fun hne => by omega
    · have := h.ra.defs x hx
      rw [e2] at hy
      obtain ⟨d, hd, rfl⟩ := List.mem_map.1 hy
      have : 2 ≤ d := by
        refine (h.rb.defs d ?_).1
        unfold Circ.defs
        rw [List.append_assoc]
        exact List.mem_append_right _ hd
      omega

theorem Two.inv {a b : Circ} (h : Two a b) : Inv (D0 a b) (mkAll a b) ∧ ∀ d ∈ D0 a b ++ (mk0 a b).gs.map (·.lit), d ∈ D0 a b ++ (mkAll a b).gs.map (·.lit) := by
  refine Inv.fold (mks a b) (mk0 a b) h.inv0 fun p hp => ?_
  obtain ⟨p1, p2⟩ := List.of_mem_zip (show (p.1, p.2) ∈ _ from hp)
  obtain ⟨o, ho, e⟩ := List.mem_map.1 p2
  refine ⟨h.kA (h.ra.outK _ p1), ?_⟩
  rw [← e]
  exact h.kB (h.rb.outK _ ho)

theorem join_defs (a b : Circ) : (joinC a b).defs = D0 a b ++ (mkAll a b).gs.map (·.lit) := rfl

theorem Two.knA {a b : Circ} (h : Two a b) {l : Int} (hk : known a l = true) : known (joinC a b) l = true := by
  rw [known_KD, join_defs]
  exact (h.kA hk).mono h.inv.2
theorem Two.knB {a b : Circ} (h : Two a b) {l : Int} (hk : known b l = true) : known (joinC a b) (jf a b l) = true := by
  rw [known_KD, join_defs]
  exact (h.kB hk).mono h.inv.2

/-- the miter is a circuit -/
theorem Two.chk {a b : Circ} (h : Two a b) (hm : a.max + b.max + 4 * (a.outputs.length : Int) ≤ 2048) (hl : a.latches.length + b.latches.length ≤ 64) (hv : a.invars.length + b.invars.length ≤ 64) : chk (joinC a b) = true := by
  have ha := h.ra.max0
  have hb := h.rb.max0
  have hI := h.inv.1
  have hmx : (mkAll a b).mx = a.max + b.max + 4 * (a.outputs.length : Int) := h.mx
  unfold PC.chk
  simp only [Bool.and_eq_true, decide_eq_true_eq, List.all_eq_true, nodupB_iff, allKnown]
  refine ⟨⟨⟨⟨⟨⟨⟨⟨⟨⟨⟨⟨?_, ?_⟩, h.ra.ins⟩, ?_⟩, rfl⟩, ?_⟩, ?_⟩, ?_⟩, ?_⟩, ?_⟩, ?_⟩, ?_⟩, ?_⟩
  · rw [h.mx]; omega
  · rw [h.mx]; omega
  · show (a.latches ++ b.latches.map _).length ≤ 64
    simpa using hl
  · intro x hx
    rcases List.mem_append.1 (show x ∈ a.latches ++ (shiftC b a.inputs a.max).latches from hx) with hx | hx
    · simp only [latOk, Bool.and_eq_true, Bool.or_eq_true, decide_eq_true_eq]
      have := h.ra.latReset x hx
      exact ⟨by omega, h.knA (h.ra.latNext x hx)⟩
    · obtain ⟨z, hz, rfl⟩ := List.mem_map.1 hx
      simp only [latOk, Bool.and_eq_true, Bool.or_eq_true, decide_eq_true_eq]
      refine ⟨?_, h.knB (h.rb.latNext z hz)⟩
      have := h.rb.latReset z hz
      show (movReset b.inputs a.inputs a.max z = 0 ∨ movReset b.inputs a.inputs a.max z = 1) ∨ movReset b.inputs a.inputs a.max z = mov b.inputs a.inputs a.max z.lit
      unfold movReset
      split
      · exact .inr rfl
      · omega
  · intro g hg
    obtain ⟨g1, g2, g3, g4⟩ := hI.gat g hg
    simp only [gatOk, Bool.and_eq_true, decide_eq_true_eq]
    exact ⟨⟨⟨g3, g4⟩, by rw [known_KD, join_defs]; exact g1⟩, by rw [known_KD, join_defs]; exact g2⟩
  · exact (rising_pair _).2.2 hI.rise
  · intro d hd
    have := hI.defs d hd
    simp only [defOk, Bool.and_eq_true, decide_eq_true_eq]
    exact ⟨⟨this.1, this.2.1⟩, this.2.2⟩
  · exact hI.nodup
  · exact ⟨fun l hl => (by cases hl), by show ([] : List Int).length ≤ 64; simp⟩
  · refine ⟨fun l hl => ?_, by show [(mkAll a b).bad].length ≤ 64; simp⟩
    have : l = (mkAll a b).bad := by simpa using (show l ∈ [(mkAll a b).bad] from hl)
    rw [this, known_KD, join_defs]
    exact hI.bad
  · refine ⟨fun l hl => ?_, by show (a.invars ++ b.invars.map _).length ≤ 64; simpa using hv⟩
    rcases List.mem_append.1 (show l ∈ a.invars ++ b.invars.map (jf a b) from hl) with hl | hl
    · exact h.knA (h.ra.invK l hl)
    · obtain ⟨o, ho, rfl⟩ := List.mem_map.1 hl
      exact h.knB (h.rb.invK o ho)

theorem bits_app {x y : Bs} {n m : Nat} (h : bitsOk x n = true) (h' : bitsOk y m = true) : bitsOk (x ++ y) (n + m) = true := by
  simp only [bitsOk, Bool.and_eq_true, List.all_append, decide_eq_true_eq, List.length_append] at *
  exact ⟨⟨h.1, h'.1⟩, by omega⟩

/-- its steps are both's -/
theorem Two.nexts {a b : Circ} (h : Two a b) (x y i : Bs) (hx : x.length = a.latches.length) : nexts (joinC a b) (vals (joinC a b) (x ++ y) i) = nexts a (vals a x i) ++ nexts b (vals b y i) := by
  show (a.latches ++ b.latches.map (movLat b.inputs a.inputs a.max)).map _ = _
  rw [List.map_append, List.map_map]
  unfold PC.nexts
  congr 1
  · exact List.map_congr_left fun z hz => by rw [h.truA x y i hx _ (h.ra.latNext z hz)]
  · refine List.map_congr_left fun z hz => ?_
    show (if tru _ (jf a b z.next) then (49 : UInt8) else 48) = _
    rw [h.truB x y i hx _ (h.rb.latNext z hz)]

/-- what must be is both's -/
theorem Two.allowed {a b : Circ} (h : Two a b) (x y i : Bs) (hx : x.length = a.latches.length) : allowed (joinC a b) [] (vals (joinC a b) (x ++ y) i) = (allowed a [] (vals a x i) && allowed b [] (vals b y i)) := by
  unfold PC.allowed
  simp only [List.all_nil, Bool.and_true]
  show (a.invars ++ b.invars.map (jf a b)).all _ = _
  rw [List.all_append, List.all_map]
  rw [Bool.eq_iff_iff]
  simp only [Bool.and_eq_true, List.all_eq_true, Function.comp_apply]
  refine and_congr (forall_congr' fun l => forall_congr' fun hl => ?_) (forall_congr' fun l => forall_congr' fun hl => ?_)
  · rw [h.truA x y i hx _ (h.ra.invK l hl)]
  · rw [h.truB x y i hx _ (h.rb.invK l hl)]

/-- what is at first is both's -/
theorem Two.initial {a b : Circ} (h : Two a b) (x y : Bs) (hx : bitsOk x a.latches.length = true) (hy : bitsOk y b.latches.length = true) : initial (joinC a b) (x ++ y) = (initial a x && initial b y) := by
  have hl : (joinC a b).latches.length = a.latches.length + b.latches.length := by show (a.latches ++ b.latches.map _).length = _; simp
  unfold PC.initial
  rw [hl, bits_app hx hy, hx, hy]
  simp only [Bool.true_and]
  show ((a.latches ++ b.latches.map (movLat b.inputs a.inputs a.max)).zip (x ++ y)).all _ = _
  rw [List.zip_append ((bitsOk_mem hx).2.symm), List.all_append, List.zip_map_left, List.all_map]
  congr 1
  rw [Bool.eq_iff_iff]
  simp only [List.all_eq_true, Function.comp_apply]
  refine forall_congr' fun p => forall_congr' fun hp => ?_
  have hz := (List.of_mem_zip (show (p.1, p.2) ∈ _ from hp)).1
  have e1 : (Prod.map (movLat b.inputs a.inputs a.max) id p).1.reset = movReset b.inputs a.inputs a.max p.1 := rfl
  have e2 : (Prod.map (movLat b.inputs a.inputs a.max) id p).1.lit = p.1.lit + 2 * a.max := by rw [← h.lat p.1 hz]; rfl
  have e3 : (Prod.map (movLat b.inputs a.inputs a.max) (id : UInt8 → UInt8) p).2 = p.2 := rfl
  rw [e1, e2, e3]
  have hd := h.rb.defs _ (mem_defs_lat b p.1 hz)
  have hr := h.rb.latReset p.1 hz
  have ha := h.ra.max0
  have hj := h.lat p.1 hz
  unfold movReset
  split
  · rename_i e
    have e5 : mov b.inputs a.inputs a.max p.1.lit = p.1.lit + 2 * a.max := hj
    rw [e5, e]
    simp
  · rename_i e
    have e4 : (p.1.reset != p.1.lit + 2 * a.max) = true := by rw [bne_iff_ne]; omega
    have e5 : (p.1.reset != p.1.lit) = true := by rw [bne_iff_ne]; exact e
    rw [e4, e5]

theorem join_two {a b : Circ} (h : joinE a b = 0) : Two a b ∧ a.max + b.max + 4 * (a.outputs.length : Int) ≤ 2048 ∧ a.latches.length + b.latches.length ≤ 64 ∧ a.invars.length + b.invars.length ≤ 64 := by
  unfold joinE at h
  split at h
  · rename_i h1; exact absurd h h1
  · rename_i h1
    have hT := tog_ok (Decidable.not_not.1 h1)
    split at h
    · cases h
    · exact ⟨⟨right_of a hT.1, right_of b hT.2.1, hT.2.2.1, hT.2.2.2⟩, by omega, by omega, by omega⟩

end Go.Proofs.YtpkaoabpifeigaaGreatDoor.PC

namespace Go.Proofs.YtpkaoabpifeigaaGreatDoor
open Go.RowKit Go.Shelf

set_option maxRecDepth 100000 in
set_option maxHeartbeats 4000000 in
theorem rAllowed_any (c : PC.Circ) (vc va : Value) (assume : List (List Int)) (m : List UInt8) (w : World) (h : IsCirc w vc c) (hA : Lists w va assume) (hm : m.length ≤ 9223372036854775807) :
    Calls Tryz.prog 18 #[vc, va, .string ⟨m.toArray⟩] w fun e w' => e = .returned (.bool (PC.allowed c assume m)) ∧ Below w.heap.size w w' := by
  obtain ⟨vi, vl, vo, vb, vv, va', vn, rfl, hp, hmx⟩ := h
  obtain ⟨av, capv, rfl, hv1, hv2, hv3⟩ := hp.invars.open_
  obtain ⟨asm, caps, rfl, hs1, hs2, hs3⟩ := hA.open_
  clear hp hA
  have HV := Lib.hid hv3
  have HS := Lib.hid hs3
  clear hv3 hs3
  obtain ⟨R, hR⟩ : ∃ R, R = PC.allowed c assume m := ⟨_, rfl⟩
  rw [← hR]
  have HR := Lib.hid hR
  clear hR
  have hb1 : Below w.heap.size w (w.alloc (.cells #[.int .i64 c.max, vi, vl, vo, vb, .slice av c.invars.length capv, va', vn] 27)) := (Below.refl _ _).alloc (Nat.le_refl _) _
  have hbx := Box8.new w (.int .i64 c.max) vi vl vo vb (.slice av c.invars.length capv) va' vn 27
  go_enter Tryz.func18, Tryz.ntmps18
  go_wp2
  obtain ⟨w1, hw1⟩ : ∃ w1, w1 = w.alloc (.cells #[.int .i64 c.max, vi, vl, vo, vb, .slice av c.invars.length capv, va', vn] 27) := ⟨_, rfl⟩
  rw [← hw1] at hb1 hbx ⊢
  clear hw1
  obtain ⟨q0, q1, q2, q3, q4, q5, q6, q7⟩ := hbx
  go_loopg [7] c.invars.length (fun gg s7 wr => ∃ k : Nat, k ≤ c.invars.length ∧ c.invars.length - k ≤ gg ∧ s7 = .int .i64 k ∧ w1 = wr ∧ Aside (∀ j (hj : j < k) (h : j < c.invars.length), PC.tru m c.invars[j] = true))
  case atStart => exact ⟨0, Nat.zero_le _, by omega, rfl, rfl, fun j hj => absurd hj (Nat.not_lt_zero _)⟩
  case round =>
    obtain ⟨k, hk, hg, rfl, rfl, A⟩ := hrel
    by_cases hlt : k < c.invars.length
    · obtain ⟨b', off, rfl, hbs, hry, hc⟩ := HV.out k hlt
      have hmea : ∀ g : Nat, c.invars.length - k ≤ g → c.invars.length - (k + 1) < g := fun g h => by omega
      have hc := (hb1.cell hbs).trans hc
      generalize hy : c.invars[k] = y at *
      have Y := Lib.hid hy
      clear hy
      have hltz : (k : Int) < (c.invars.length : Int) := by omega
      have hT := rTrue_any m y w1 hry hm
      cases hq : PC.tru m y with
      | true =>
        rw [hq] at hT
        have Q := Lib.hid hq
        clear hq
        go_wp2_with (go_at_call 20; refine hT.mono ?_; rintro e w2 ⟨rfl, rfl⟩)
        go_roundg (c.invars.length - (k + 1))
        case measure => exact hmea _ hg
        case rel =>
          refine ⟨k + 1, by omega, by omega, by go_num, rfl, (show Aside _ from fun j hj h => ?_)⟩
          by_cases e : j = k
          · subst e; rw [Y.out]; exact Q.out
          · exact A.out j (by omega) h
      | false =>
        rw [hq] at hT
        have Q := Lib.hid hq
        clear hq
        go_wp2_with (go_at_call 20; refine hT.mono ?_; rintro e w2 ⟨rfl, rfl⟩)
        go_ret
        have : R = false := by
          rw [HR.out, PC.allowed, Bool.and_eq_false_iff]
          left
          rw [List.all_eq_false]
          exact ⟨c.invars[k], List.getElem_mem hlt, by rw [Y.out, Q.out]; decide⟩
        exact ⟨by rw [this]; rfl, hb1⟩
    · have hltz : ¬ (k : Int) < (c.invars.length : Int) := by omega
      obtain rfl : k = c.invars.length := by omega
      have S1 : Hid (c.invars.all (PC.tru m) = true) := by
        show _ = _
        rw [List.all_eq_true]
        intro x hx
        obtain ⟨j, hj, rfl⟩ := List.getElem_of_mem hx
        exact A.out j hj hj
      clear A HV
      go_wp2
      go_loopg [8] assume.length (fun gg s8 wr => ∃ k : Nat, k ≤ assume.length ∧ assume.length - k ≤ gg ∧ s8 = .int .i64 k ∧ w1 = wr ∧ Aside (∀ j (hj : j < k) (h : j < assume.length), PC.holds m assume[j] = true))
      case atStart => exact ⟨0, Nat.zero_le _, by omega, rfl, rfl, fun j hj => absurd hj (Nat.not_lt_zero _)⟩
      case round =>
        clear hg hk hlt hltz
        obtain ⟨k, hk, hg, rfl, rfl, A⟩ := hrel
        by_cases hlt : k < assume.length
        · obtain ⟨b', off, u, rfl, hbs, hc, hiu⟩ := HS.out k hlt
          have hmea : ∀ g : Nat, assume.length - k ≤ g → assume.length - (k + 1) < g := fun g h => by omega
          have hc := (hb1.cell hbs).trans hc
          have hiu := hiu.mono hb1
          generalize hy : assume[k] = y at *
          have Y := Lib.hid hy
          clear hy
          have hltz : (k : Int) < (assume.length : Int) := by omega
          have hH := Lib.hid (rHolds_any m y u w1 hiu hm)
          go_wp2_with fail
          cases hq : PC.holds m y with
          | true =>
            refine hH.out.mono ?_
            rintro e w2 ⟨rfl, rfl⟩
            rw [hq]
            have Q := Lib.hid hq
            clear hq
            go_wp2_with fail
            go_roundg (assume.length - (k + 1))
            case measure => exact hmea _ hg
            case rel =>
              refine ⟨k + 1, by omega, by omega, by go_num, rfl, (show Aside _ from fun j hj h => ?_)⟩
              by_cases e : j = k
              · subst e; rw [Y.out]; exact Q.out
              · exact A.out j (by omega) h
          | false =>
            refine hH.out.mono ?_
            rintro e w2 ⟨rfl, rfl⟩
            rw [hq]
            have Q := Lib.hid hq
            clear hq
            go_wp2_with fail
            go_ret
            have : R = false := by
              rw [HR.out, PC.allowed, Bool.and_eq_false_iff]
              right
              rw [List.all_eq_false]
              exact ⟨assume[k], List.getElem_mem hlt, by rw [Y.out, Q.out]; decide⟩
            exact ⟨by rw [this]; rfl, hb1⟩
        · have hltz : ¬ (k : Int) < (assume.length : Int) := by omega
          obtain rfl : k = assume.length := by omega
          go_wp2
          go_ret
          have : R = true := by
            rw [HR.out, PC.allowed, S1.out, Bool.true_and, List.all_eq_true]
            intro x hx
            obtain ⟨j, hj, rfl⟩ := List.getElem_of_mem hx
            exact A.out j hj hj
          exact ⟨by rw [this]; rfl, hb1⟩

end Go.Proofs.YtpkaoabpifeigaaGreatDoor

namespace Go.Proofs.YtpkaoabpifeigaaGreatDoor
open Go.RowKit Go.Shelf
attribute [local simp] mk_get

/-- may a latch begin so? -/
def iniOk (x : PC.Lat) (b : UInt8) : Bool := !(x.reset != x.lit && (x.reset == 1) != (b == 49))

set_option maxRecDepth 100000 in
set_option maxHeartbeats 2000000 in
theorem rInitial_any (c : PC.Circ) (vc : Value) (st : List UInt8) (w : World) (h : IsCirc w vc c) (hs : st.length ≤ 9223372036854775807) :
    Calls Tryz.prog 19 #[vc, .string ⟨st.toArray⟩] w fun e w' => e = .returned (.bool (PC.initial c st)) ∧ Below w.heap.size w w' := by
  have hB := fun w => rBits_any st c.latches.length w hs
  obtain ⟨vi, vl, vo, vb, vv, va, vn, rfl, hp, hm⟩ := h
  obtain ⟨al, capl, rfl, hl1, hl2, hl3⟩ := hp.latches.open_
  clear hp
  have HL := Lib.hid hl3
  clear hl3
  have hb0 : Below w.heap.size w (w.alloc (.cells #[.int .i64 c.max, vi, .slice al c.latches.length capl, vo, vb, vv, va, vn] 27)) := (Below.refl _ _).alloc (Nat.le_refl _) _
  have hbx := Lib.hid (Box8.new w (.int .i64 c.max) vi (.slice al c.latches.length capl) vo vb vv va vn 27)
  obtain ⟨R, hR⟩ : ∃ R, R = PC.initial c st := ⟨_, rfl⟩
  rw [← hR]
  have HR := Lib.hid hR
  clear hR
  cases hbt : PC.bitsOk st c.latches.length with
  | false =>
    rw [hbt] at hB
    have : R = false := by rw [HR.out, PC.initial, hbt]; rfl
    rw [this]
    clear hbt HR this
    go_enter Tryz.func19, Tryz.ntmps19
    go_wp2_with (go_at_call 22; refine (hB _).mono ?_; rintro e w1 ⟨rfl, rfl⟩)
    go_ret
    exact ⟨rfl, hb0⟩
  | true =>
    rw [hbt] at hB
    have hlen := ((bitsOk_step _ _).1 hbt).2
    have hiff : Hid (R = true ↔ ∀ k (hk : k < c.latches.length), iniOk c.latches[k] (st[k]'(by omega)) = true) := by
      show _ ↔ _
      rw [HR.out, PC.initial, hbt, Bool.true_and, PC.all_zip c.latches st hlen]; rfl
    clear hbt
    go_enter Tryz.func19, Tryz.ntmps19
    go_wp2_with (go_at_call 22; refine (hB _).mono ?_; rintro e w1 ⟨rfl, rfl⟩)
    obtain ⟨W1, hW1⟩ : ∃ W1, W1 = w.alloc (.cells #[.int .i64 c.max, vi, .slice al c.latches.length capl, vo, vb, vv, va, vn] 27) := ⟨_, rfl⟩
    rw [← hW1] at hb0 hbx ⊢
    clear hW1 hB
    obtain ⟨q0, q1, q2, q3, q4, q5, q6, q7⟩ := hbx.out
    go_loopg [5] st.length (fun gg s5 wr => ∃ k : Nat, k ≤ st.length ∧ st.length - k ≤ gg ∧ s5 = .int .i64 k ∧ W1 = wr ∧ Aside (∀ j (hj : j < k) (h : j < c.latches.length), iniOk c.latches[j] (st[j]'(by omega)) = true))
    case atStart => exact ⟨0, Nat.zero_le _, by omega, rfl, rfl, fun j hj => absurd hj (Nat.not_lt_zero _)⟩
    case round =>
      obtain ⟨k, hk, hg, rfl, rfl, A⟩ := hrel
      by_cases hlt : k < st.length
      · have hltl : k < c.latches.length := by omega
        obtain ⟨b, off, rfl, hbs, ⟨hxr, _, hxs⟩, c0, _, c2⟩ := HL.out k hltl
        have c0 := (hb0.cell hbs).trans c0
        have c2 := (hb0.cell hbs).trans c2
        have hmea : ∀ g : Nat, st.length - k ≤ g → st.length - (k + 1) < g := fun g h => by omega
        obtain ⟨y, hy⟩ : ∃ y, st[k] = y := ⟨_, rfl⟩
        have HT0 : Hid (iniOk c.latches[k] st[k] = !(c.latches[k].reset != c.latches[k].lit && (c.latches[k].reset == 1) != ((y.toNat : Int) == 49))) := by
          show _ = _
          rw [← u8_beq49, ← hy]; rfl
        generalize c.latches[k].reset = r at *
        generalize c.latches[k].lit = l at *
        have hltz : (k : Int) < (st.length : Int) := by omega
        have hltlz : (k : Int) < (c.latches.length : Int) := by omega
        by_cases h1 : r = l
        · have e1 : (r != l) = false := by simpa using h1
          have HT : Hid (iniOk c.latches[k] st[k] = true) := by show _ = _; rw [HT0.out, e1]; rfl
          clear HT0 h1
          go_wp2
          go_roundg (st.length - (k + 1))
          case measure => exact hmea _ hg
          case rel =>
            refine ⟨k + 1, by omega, by omega, by go_num, rfl, (show Aside _ from fun j hj h => ?_)⟩
            by_cases e : j = k
            · subst e; exact HT.out
            · exact A.out j (by omega) h
        · have e1 : (r != l) = true := by simpa using h1
          clear h1
          cases e2 : (r == 1) with
          | true =>
            cases e3 : ((y.toNat : Int) == 49) with
            | true =>
              have HT : Hid (iniOk c.latches[k] st[k] = true) := by show _ = _; rw [HT0.out, e1, e2, e3]; rfl
              clear HT0
              go_wp2
              go_roundg (st.length - (k + 1))
              case measure => exact hmea _ hg
              case rel =>
                refine ⟨k + 1, by omega, by omega, by go_num, rfl, (show Aside _ from fun j hj h => ?_)⟩
                by_cases e : j = k
                · subst e; exact HT.out
                · exact A.out j (by omega) h
            | false =>
              have HT : Hid (iniOk c.latches[k] st[k] = false) := by show _ = _; rw [HT0.out, e1, e2, e3]; rfl
              clear HT0
              go_wp2
              go_ret
              have : R = false := by
                rw [Bool.eq_false_iff]
                intro hr
                have := (hiff.out.1 hr) k hltl
                rw [HT.out] at this
                cases this
              exact ⟨by rw [this]; rfl, hb0⟩
          | false =>
            cases e3 : ((y.toNat : Int) == 49) with
            | true =>
              have HT : Hid (iniOk c.latches[k] st[k] = false) := by show _ = _; rw [HT0.out, e1, e2, e3]; rfl
              clear HT0
              go_wp2
              go_ret
              have : R = false := by
                rw [Bool.eq_false_iff]
                intro hr
                have := (hiff.out.1 hr) k hltl
                rw [HT.out] at this
                cases this
              exact ⟨by rw [this]; rfl, hb0⟩
            | false =>
              have HT : Hid (iniOk c.latches[k] st[k] = true) := by show _ = _; rw [HT0.out, e1, e2, e3]; rfl
              clear HT0
              go_wp2
              go_roundg (st.length - (k + 1))
              case measure => exact hmea _ hg
              case rel =>
                refine ⟨k + 1, by omega, by omega, by go_num, rfl, (show Aside _ from fun j hj h => ?_)⟩
                by_cases e : j = k
                · subst e; exact HT.out
                · exact A.out j (by omega) h
      · have hltz : ¬ (k : Int) < (st.length : Int) := by omega
        obtain rfl : k = st.length := by omega
        go_wp2
        go_ret
        have : R = true := hiff.out.2 fun j hj => A.out j (by omega) hj
        exact ⟨by rw [this]; rfl, hb0⟩

end Go.Proofs.YtpkaoabpifeigaaGreatDoor

namespace Go.Proofs.YtpkaoabpifeigaaGreatDoor
open Go.RowKit Go.Shelf
attribute [local simp] mk_get

theorem nil_lists (w : World) : Lists w (.slice none 0 0) [] := ⟨[], rfl, Cells.nil _ _, fun _ hk => absurd hk (Nat.not_lt_zero _)⟩
theorem band_known : (∀ b, (true && b) = b) ∧ ∀ b, (false && b) = false := ⟨Bool.true_and, Bool.false_and⟩

theorem Ints.at_ {w : World} {ao : Option Addr} {cap n : Nat} {l : List Int} (h : Ints w (.slice ao n cap) l) (k : Nat) (hk : k < l.length) :
    ∃ b o, ao = some ⟨b, o, none⟩ ∧ b < w.heap.size ∧ rng l[k] ∧ w.cell? ⟨b, o + k, none⟩ = some (.int .i64 l[k]) := by
  obtain ⟨ao', cap', e, _, _, h3⟩ := h.open_
  cases e
  exact h3 k hk

theorem join_tog {a b : PC.Circ} : (PC.togE a b ≠ 0 → PC.joinE a b = PC.togE a b) ∧ (PC.togE a b = 0 → PC.joinE a b ≠ 0 → PC.joinE a b = 5 ∧
    (a.max + b.max + 4 * (a.outputs.length : Int) > 2048 ∨ a.latches.length + b.latches.length > 64 ∨ a.invars.length + b.invars.length > 64)) := by
  constructor
  · intro h
    rw [PC.joinE, if_pos h]
  · intro h h5
    have hno : ¬ PC.togE a b ≠ 0 := by rw [h]; decide
    unfold PC.joinE at h5 ⊢
    rw [if_neg hno] at h5 ⊢
    split
    · rename_i hc
      exact ⟨rfl, hc⟩
    · rename_i hc
      rw [if_neg hc] at h5
      exact absurd rfl h5

/-- why there are no values -/
theorem vals_five {c : PC.Circ} {st i : List UInt8} (hc : PC.chk c = true) (h : PC.valuesE c st i ≠ 0) : PC.valuesE c st i = 5 := by
  unfold PC.valuesE at h ⊢
  rw [if_neg (by rw [hc]; decide)] at h ⊢
  split
  · rfl
  · rename_i h1
    rw [if_neg h1] at h
    exact absurd rfl h

/-- what a miter answers -/
theorem joins_law {a b : PC.Circ} (h : PC.joinE a b = 0) (x y i : List UInt8) (h1 : PC.valuesE a x i = 0) (h2 : PC.valuesE b y i = 0) :
    PC.valuesE (PC.joinC a b) (x ++ y) i = 0 ∧ nextS (PC.joinC a b) (x ++ y) i = nextS a x i ++ nextS b y i ∧
    PC.tru (PC.valuesS (PC.joinC a b) (x ++ y) i) (PC.mkAll a b).bad = unlikeB a b (PC.valuesS a x i) (PC.valuesS b y i) ∧
    PC.allowed (PC.joinC a b) [] (PC.valuesS (PC.joinC a b) (x ++ y) i) = (PC.allowed a [] (PC.valuesS a x i) && PC.allowed b [] (PC.valuesS b y i)) ∧
    PC.initial (PC.joinC a b) (x ++ y) = (PC.initial a x && PC.initial b y) := by
  obtain ⟨hT, s1, s2, s3⟩ := PC.join_two h
  obtain ⟨ca, bx, bi⟩ := PC.chk_of_valuesE a x i h1
  obtain ⟨cb, bY, bi'⟩ := PC.chk_of_valuesE b y i h2
  have hll : (PC.joinC a b).latches.length = a.latches.length + b.latches.length := by show (a.latches ++ b.latches.map _).length = _; simp
  obtain ⟨e1, e2, e3⟩ := vals_ok (hT.chk s1 s2 s3) (st := x ++ y) (inp := i) (by rw [hll]; exact PC.bits_app bx bY) bi
  obtain ⟨_, a2, a3⟩ := vals_ok ca bx bi
  obtain ⟨_, b2, b3⟩ := vals_ok cb bY bi'
  have hx := (PC.bitsOk_mem bx).2
  rw [e2, e3, a2, a3, b2, b3]
  exact ⟨e1, hT.nexts x y i hx, hT.bad x y i hx, hT.allowed x y i hx, hT.initial x y bx bY⟩


set_option maxRecDepth 100000 in
set_option maxHeartbeats 16000000 in
theorem mJoins_walk (a : PC.Circ) (va : Value) (b : PC.Circ) (vb : Value) (x y i : List UInt8) (w : World) (ha : IsCirc w va a) (fa : Fits a) (hb : IsCirc w vb b) (fb : Fits b) (hx : x.length ≤ 140737488351232) (hy : y.length ≤ 140737488351232) (hi : i.length ≤ 140737488351232) :
    Calls Tryz.prog 5 #[va, vb, .string ⟨x.toArray⟩, .string ⟨y.toArray⟩, .string ⟨i.toArray⟩] w fun e w' => e = .returned (.bool true) ∧ Below w.heap.size w w' := by
  have HA := Lib.hid ha
  have HB := Lib.hid hb
  obtain ⟨xi, xj, xl, xm, xo, xp, xb, xc, xv, xw, xa, xq, xn, xr, rfl, hpa⟩ := row_slices ha
  obtain ⟨yi, yj, yl, ym, yo, yp, yb, yc, yv, yw, ya, yq, yn, yr, rfl, hpb⟩ := row_slices hb
  clear ha hb hpa hpb
  have r1 := (RowL.new (T := 27) w [.int .i64 a.max, .slice xi a.inputs.length xj, .slice xl a.latches.length xm, .slice xo a.outputs.length xp, .slice xb a.bads.length xc, .slice xv a.invars.length xw, .slice xa a.ands.length xq, .slice xn a.names.length xr]).mono ((Below.refl _ _).alloc (Nat.le_refl _) (.cells #[.int .i64 b.max, .slice yi b.inputs.length yj, .slice yl b.latches.length ym, .slice yo b.outputs.length yp, .slice yb b.bads.length yc, .slice yv b.invars.length yw, .slice ya b.ands.length yq, .slice yn b.names.length yr] 27))
  have r2 := RowL.new (T := 27) (w.alloc (.cells #[.int .i64 a.max, .slice xi a.inputs.length xj, .slice xl a.latches.length xm, .slice xo a.outputs.length xp, .slice xb a.bads.length xc, .slice xv a.invars.length xw, .slice xa a.ands.length xq, .slice xn a.names.length xr] 27)) [.int .i64 b.max, .slice yi b.inputs.length yj, .slice yl b.latches.length ym, .slice yo b.outputs.length yp, .slice yb b.bads.length yc, .slice yv b.invars.length yw, .slice ya b.ands.length yq, .slice yn b.names.length yr]
  rw [World.size_alloc] at r2
  have hb0 := ((Below.refl w.heap.size w).alloc (Nat.le_refl _) (.cells #[.int .i64 a.max, .slice xi a.inputs.length xj, .slice xl a.latches.length xm, .slice xo a.outputs.length xp, .slice xb a.bads.length xc, .slice xv a.invars.length xw, .slice xa a.ands.length xq, .slice xn a.names.length xr] 27)).alloc (by simp) (.cells #[.int .i64 b.max, .slice yi b.inputs.length yj, .slice yl b.latches.length ym, .slice yo b.outputs.length yp, .slice yb b.bads.length yc, .slice yv b.invars.length yw, .slice ya b.ands.length yq, .slice yn b.names.length yr] 27)
  obtain ⟨W, hW⟩ : ∃ W, W = (w.alloc (.cells #[.int .i64 a.max, .slice xi a.inputs.length xj, .slice xl a.latches.length xm, .slice xo a.outputs.length xp, .slice xb a.bads.length xc, .slice xv a.invars.length xw, .slice xa a.ands.length xq, .slice xn a.names.length xr] 27)).alloc (.cells #[.int .i64 b.max, .slice yi b.inputs.length yj, .slice yl b.latches.length ym, .slice yo b.outputs.length yp, .slice yb b.bads.length yc, .slice yv b.invars.length yw, .slice ya b.ands.length yq, .slice yn b.names.length yr] 27) := ⟨_, rfl⟩
  rw [← hW] at r1 r2 hb0
  have HW := Lib.hid hW
  have R1 := Lib.hid r1
  have R2 := Lib.hid r2
  have HB0 := Lib.hid hb0
  clear hW r1 r2 hb0
  have HXL := Lib.hid hx
  have HYL := Lib.hid hy
  have HIL := Lib.hid hi
  clear hx hy hi
  go_enter Tryz.func5, Tryz.ntmps5
  go_wp2_with fail
  rw [← HW.out]
  refine (alive36_any _).mono ?_
  rintro e w1 ⟨rfl, hb1⟩
  have HB1 := Lib.hid (Below.of HB0.out hb1)
  have S1 := Lib.hid (R1.out.mono hb1)
  have S2 := Lib.hid (R2.out.mono hb1)
  clear hb1 R1 R2 HB0 HW
  obtain ⟨T, hT⟩ : ∃ T, T = PC.togE a b := ⟨_, rfl⟩
  obtain ⟨E, hE⟩ : ∃ E, E = PC.joinE a b := ⟨_, rfl⟩
  obtain ⟨DD, hDD⟩ : ∃ D, D = PC.joinD a b := ⟨_, rfl⟩
  have hJ := Lib.hid (mJoin_any a b _ _ w1 (HA.out.mono HB1.out) (HB.out.mono HB1.out))
  rw [← hE, ← hDD] at hJ
  have HT := Lib.hid hT
  have HE := Lib.hid hE
  have HDD := Lib.hid hDD
  clear hT hE hDD
  have q := S1.out
  have q0 := q.cell 0 _ rfl
  have q1 := q.cell 1 _ rfl
  have q2 := q.cell 2 _ rfl
  have q3 := q.cell 3 _ rfl
  have q4 := q.cell 4 _ rfl
  have q5 := q.cell 5 _ rfl
  have q6 := q.cell 6 _ rfl
  have q7 := q.cell 7 _ rfl
  have z := S2.out
  have z0 := z.cell 0 _ rfl
  have z1 := z.cell 1 _ rfl
  have z2 := z.cell 2 _ rfl
  have z3 := z.cell 3 _ rfl
  have z4 := z.cell 4 _ rfl
  have z5 := z.cell 5 _ rfl
  have z6 := z.cell 6 _ rfl
  have z7 := z.cell 7 _ rfl
  go_wp2_with fail
  refine hJ.out.mono ?_
  rintro e w2 ⟨u, rfl, hU, hb2⟩
  clear q q0 q1 q2 q3 q4 q5 q6 q7
  clear z z0 z1 z2 z3 z4 z5 z6 z7
  have HU := Lib.hid hU
  obtain ⟨zi, zj, zl, zm, zo, zp, zb, zc, zv, zw, za, zq, zn, zr, rfl, hpd⟩ := row_slices hU
  have hbq : Below w2.heap.size w2 (w2.alloc (.cells #[.int .i64 DD.max, .slice zi DD.inputs.length zj, .slice zl DD.latches.length zm, .slice zo DD.outputs.length zp, .slice zb DD.bads.length zc, .slice zv DD.invars.length zw, .slice za DD.ands.length zq, .slice zn DD.names.length zr] 27)) := (Below.refl _ _).alloc (Nat.le_refl _) _
  have r3 := RowL.new (T := 27) w2 [.int .i64 DD.max, .slice zi DD.inputs.length zj, .slice zl DD.latches.length zm, .slice zo DD.outputs.length zp, .slice zb DD.bads.length zc, .slice zv DD.invars.length zw, .slice za DD.ands.length zq, .slice zn DD.names.length zr]
  have r1 := (S1.out.mono hb2).mono hbq
  have r2 := (S2.out.mono hb2).mono hbq
  have hpd := hpd.mono hbq
  have hud := HU.out.mono hbq
  have hbv := Below.of HB1.out (Below.of hb2 hbq)
  obtain ⟨V, hV⟩ : ∃ V, V = w2.alloc (.cells #[.int .i64 DD.max, .slice zi DD.inputs.length zj, .slice zl DD.latches.length zm, .slice zo DD.outputs.length zp, .slice zb DD.bads.length zc, .slice zv DD.invars.length zw, .slice za DD.ands.length zq, .slice zn DD.names.length zr] 27) := ⟨_, rfl⟩
  rw [← hV] at r1 r2 r3 hpd hbv hud
  have R1 := Lib.hid r1
  have R2 := Lib.hid r2
  have R3 := Lib.hid r3
  have HPD := Lib.hid hpd
  have HUD := Lib.hid hud
  have HBV := Lib.hid hbv
  have HV := Lib.hid hV
  clear hV r1 r2 r3 hpd hud hbv hbq hU HU hb2 S1 S2 HB1 hJ
  have hTg := Lib.hid (together36_any a b _ _ V (HA.out.mono HBV.out) (HB.out.mono HBV.out) fa fb)
  rw [← HT.out] at hTg
  have q := R1.out
  have q0 := q.cell 0 _ rfl
  have q1 := q.cell 1 _ rfl
  have q2 := q.cell 2 _ rfl
  have q3 := q.cell 3 _ rfl
  have q4 := q.cell 4 _ rfl
  have q5 := q.cell 5 _ rfl
  have q6 := q.cell 6 _ rfl
  have q7 := q.cell 7 _ rfl
  have z := R2.out
  have z0 := z.cell 0 _ rfl
  have z1 := z.cell 1 _ rfl
  have z2 := z.cell 2 _ rfl
  have z3 := z.cell 3 _ rfl
  have z4 := z.cell 4 _ rfl
  have z5 := z.cell 5 _ rfl
  have z6 := z.cell 6 _ rfl
  have z7 := z.cell 7 _ rfl
  rw [HV.out] at q0 q1 q2 q3 q4 q5 q6 q7 z0 z1 z2 z3 z4 z5 z6 z7
  go_wp2_with fail
  rw [← HV.out]
  clear HV
  generalize w2.heap.size = Q at *
  refine hTg.out.mono ?_
  rintro e w3 ⟨rfl, hb3⟩
  clear q q0 q1 q2 q3 q4 q5 q6 q7
  clear z z0 z1 z2 z3 z4 z5 z6 z7
  have HB3 := Lib.hid (Below.of HBV.out hb3)
  have U1 := Lib.hid (R1.out.mono hb3)
  have U2 := Lib.hid (R2.out.mono hb3)
  have U3 := Lib.hid (R3.out.mono hb3)
  have HU3 := Lib.hid (HUD.out.mono hb3)
  have HP3 := Lib.hid (HPD.out.mono hb3)
  clear hb3 R1 R2 R3 HBV hTg HUD HPD
  obtain ⟨X, hX⟩ : ∃ X, X = w3 := ⟨_, rfl⟩
  subst hX
  have hNum := Lib.hid fun x w => num36_any x w
  have hJT := Lib.hid (join_tog (a := a) (b := b))
  by_cases hz : T = 0
  case neg =>
    have hzb : (T != 0) = true := by simpa using hz
    have hee : E = T := by rw [HE.out, hJT.out.1 (by rw [← HT.out]; exact hz), HT.out]
    have hd : DD = PC.noC := by rw [HDD.out, PC.joinD, ← HE.out, hee, if_neg hz]
    have hq : (T == T) = true := by simp
    clear hz
    subst hee
    subst hd
    have k4 : X.cell? ⟨Q, 4, none⟩ = some (.slice zb 0 zc) := U3.out.cell 4 _ rfl
    go_wp2_with (go_at_call 15; refine (hNum.out _ _).mono ?_; rintro e w4 ⟨rfl, rfl⟩)
    go_ret
    exact ⟨by first | rfl | simp, HB3.out⟩
  case pos =>
    have hzb : (T != 0) = false := by simpa using hz
    have hO := Lib.hid (PC.tog_ok (HT.out.symm.trans hz))
    have hRa := Lib.hid (PC.right_of a hO.out.1)
    have hRb := Lib.hid (PC.right_of b hO.out.2.1)
    by_cases hE0 : E = 0
    case neg =>
      obtain ⟨h5, hor⟩ := hJT.out.2 (HT.out.symm.trans hz) (by rw [← HE.out]; exact hE0)
      have e5 : E = 5 := HE.out.trans h5
      have hd : DD = PC.noC := by rw [HDD.out, PC.joinD, h5, if_neg (by decide)]
      clear hE0 h5
      subst e5
      subst hd
      have HOR := Lib.hid hor
      clear hor HE HDD HT hJT
      have a0 := hRa.out.max0
      have a1 := hRa.out.max1
      have b0 := hRb.out.max0
      have b1 := hRb.out.max1
      have aol := hRa.out.outs
      have e1 : IntKind.i64.wrap (a.max + b.max) = a.max + b.max := IntWalk.i64_in _ (by omega)
      have e0 : IntKind.i64.wrap (4 * (a.outputs.length : Int)) = 4 * (a.outputs.length : Int) := IntWalk.i64_in _ (by omega)
      have e2 : IntKind.i64.wrap (a.max + b.max + 4 * (a.outputs.length : Int)) = a.max + b.max + 4 * (a.outputs.length : Int) := IntWalk.i64_in _ (by omega)
      have e3 : IntKind.i64.wrap ((a.latches.length : Int) + (b.latches.length : Int)) = (a.latches.length : Int) + (b.latches.length : Int) := IntWalk.i64_in _ (by have := hRa.out.lats; have := hRb.out.lats; omega)
      have e4 : IntKind.i64.wrap ((a.invars.length : Int) + (b.invars.length : Int)) = (a.invars.length : Int) + (b.invars.length : Int) := IntWalk.i64_in _ (by have := hRa.out.invs; have := hRb.out.invs; omega)
      have q := U1.out
      have q0 := q.cell 0 _ rfl
      have q1 := q.cell 1 _ rfl
      have q2 := q.cell 2 _ rfl
      have q3 := q.cell 3 _ rfl
      have q4 := q.cell 4 _ rfl
      have q5 := q.cell 5 _ rfl
      have q6 := q.cell 6 _ rfl
      have q7 := q.cell 7 _ rfl
      have z := U2.out
      have z0 := z.cell 0 _ rfl
      have z1 := z.cell 1 _ rfl
      have z2 := z.cell 2 _ rfl
      have z3 := z.cell 3 _ rfl
      have z4 := z.cell 4 _ rfl
      have z5 := z.cell 5 _ rfl
      have z6 := z.cell 6 _ rfl
      have z7 := z.cell 7 _ rfl
      have k4 : X.cell? ⟨Q, 4, none⟩ = some (.slice zb 0 zc) := U3.out.cell 4 _ rfl
      clear a0 a1 b0 b1 aol
      subst hz
      by_cases c1 : a.max + b.max + 4 * (a.outputs.length : Int) > 2048
      · have d1 : decide (a.max + b.max + 4 * (a.outputs.length : Int) > 2048) = true := by simpa using c1
        go_wp2_with fail
        go_ret
        exact ⟨by first | rfl | simp, HB3.out⟩
      · have d1 : decide (a.max + b.max + 4 * (a.outputs.length : Int) > 2048) = false := by simpa using c1
        by_cases c2 : a.latches.length + b.latches.length > 64
        · have c2z : (a.latches.length : Int) + (b.latches.length : Int) > 64 := by omega
          have d2 : decide ((a.latches.length : Int) + (b.latches.length : Int) > 64) = true := by rw [decide_eq_true_eq]; omega
          clear c2
          go_wp2_with fail
          go_ret
          exact ⟨by first | rfl | simp, HB3.out⟩
        · have c2z : ¬ (a.latches.length : Int) + (b.latches.length : Int) > 64 := by omega
          have d2 : decide ((a.latches.length : Int) + (b.latches.length : Int) > 64) = false := by rw [decide_eq_false_iff_not]; omega
          have c3 : (a.invars.length : Int) + (b.invars.length : Int) > 64 := by have := HOR.out; omega
          have d3 : decide ((a.invars.length : Int) + (b.invars.length : Int) > 64) = true := by rw [decide_eq_true_eq]; omega
          clear c2
          go_wp2_with fail
          go_ret
          exact ⟨by first | rfl | simp, HB3.out⟩
    case pos =>
      have hJE := Lib.hid (HE.out.symm.trans hE0)
      have hd : DD = PC.joinC a b := by rw [HDD.out, PC.joinD, hJE.out, if_pos rfl]
      have hTw := Lib.hid (PC.join_two hJE.out)
      have hck : PC.chk DD = true := by rw [hd]; exact hTw.out.1.chk hTw.out.2.1 hTw.out.2.2.1 hTw.out.2.2.2
      have hll : DD.latches.length = a.latches.length + b.latches.length := by rw [hd]; show (a.latches ++ b.latches.map _).length = _; simp
      have hil : DD.inputs.length = a.inputs.length := by rw [hd]; rfl
      have hbl : DD.bads = [(PC.mkAll a b).bad] := by rw [hd]; rfl
      have hbl1 : DD.bads.length = 1 := by rw [hbl]; rfl
      have hgl : Fits DD := by
        unfold Fits
        have := PC.ands_len DD (PC.right_of DD hck)
        omega
      have HD := Lib.hid hd
      have HCK := Lib.hid hck
      have HFD := Lib.hid hgl
      have HBL := Lib.hid hbl
      subst hz
      subst hE0
      have hJ := Lib.hid (joins_law hJE.out x y i)
      rw [← hd] at hJ
      obtain ⟨b1, o1, rfl, g1, g2, g3⟩ := HP3.out.bads.at_ 0 (by rw [hbl1]; decide)
      have g2' : rng (PC.mkAll a b).bad := by simpa [hbl] using g2
      have g3' : X.cell? ⟨b1, o1, none⟩ = some (.int .i64 (PC.mkAll a b).bad) := by simpa [hbl] using g3
      rw [hil, hll, hbl1] at U3 HU3
      have G1 := Lib.hid g1
      have G2 := Lib.hid g2'
      have G3 := Lib.hid g3'
      have hC := Lib.hid (rCheck_any DD _ X HU3.out hgl)
      rw [hck] at hC
      have e3 : IntKind.i64.wrap ((a.latches.length : Int) + (b.latches.length : Int)) = ((a.latches.length + b.latches.length : Nat) : Int) := by rw [IntWalk.i64_in _ (by have := hRa.out.lats; have := hRb.out.lats; omega)]; rfl
      have hVA : Hid (∀ z, Below X.heap.size X z → _) := fun z hz => rValues_any a _ x i z (HA.out.mono (Below.of HB3.out hz)) fa (by have := HXL.out; omega) (by have := HIL.out; omega)
      have hVB : Hid (∀ z, Below X.heap.size X z → _) := fun z hz => rValues_any b _ y i z (HB.out.mono (Below.of HB3.out hz)) fb (by have := HYL.out; omega) (by have := HIL.out; omega)
      have hVM : Hid (∀ z, Below X.heap.size X z → _) := fun z hz => rValues_any DD _ (x ++ y) i z (HU3.out.mono hz) HFD.out (by have := HXL.out; have := HYL.out; rw [List.length_append]; omega) (by have := HIL.out; omega)
      have hNA : Hid (∀ z, Below X.heap.size X z → _) := fun z hz => rNext_any a _ x i z (HA.out.mono (Below.of HB3.out hz)) fa (by have := HXL.out; omega) (by have := HIL.out; omega)
      have hNB : Hid (∀ z, Below X.heap.size X z → _) := fun z hz => rNext_any b _ y i z (HB.out.mono (Below.of HB3.out hz)) fb (by have := HYL.out; omega) (by have := HIL.out; omega)
      have hNM : Hid (∀ z, Below X.heap.size X z → _) := fun z hz => rNext_any DD _ (x ++ y) i z (HU3.out.mono hz) HFD.out (by have := HXL.out; have := HYL.out; rw [List.length_append]; omega) (by have := HIL.out; omega)
      have hIA : Hid (∀ z, Below X.heap.size X z → _) := fun z hz => rInitial_any a _ x z (HA.out.mono (Below.of HB3.out hz)) (by have := HXL.out; omega)
      have hIB : Hid (∀ z, Below X.heap.size X z → _) := fun z hz => rInitial_any b _ y z (HB.out.mono (Below.of HB3.out hz)) (by have := HYL.out; omega)
      have hIM : Hid (∀ z, Below X.heap.size X z → _) := fun z hz => rInitial_any DD _ (x ++ y) z (HU3.out.mono hz) (by have := HXL.out; have := HYL.out; rw [List.length_append]; omega)
      have hlen : ∀ {c : PC.Circ} {s j : List UInt8}, PC.chk c = true → (PC.valuesS c s j).length ≤ 9223372036854775807 := by
        intro c s j hc
        unfold PC.valuesS
        split
        · rw [PC.vals_length]; have := (PC.right_of c hc).max1; omega
        · simp
      have hAA : Hid (∀ z, Below X.heap.size X z → _) := fun z hz => rAllowed_any a _ _ [] (PC.valuesS a x i) z (HA.out.mono (Below.of HB3.out hz)) (nil_lists z) (hlen hO.out.1)
      have hAB : Hid (∀ z, Below X.heap.size X z → _) := fun z hz => rAllowed_any b _ _ [] (PC.valuesS b y i) z (HB.out.mono (Below.of HB3.out hz)) (nil_lists z) (hlen hO.out.2.1)
      have hAM : Hid (∀ z, Below X.heap.size X z → _) := fun z hz => rAllowed_any DD _ _ [] (PC.valuesS DD (x ++ y) i) z (HU3.out.mono hz) (nil_lists z) (hlen HCK.out)
      have hTM : Hid (∀ z, _) := fun z => rTrue_any (PC.valuesS DD (x ++ y) i) (PC.mkAll a b).bad z G2.out (hlen HCK.out)
      have hUN : Hid (∀ z, Below X.heap.size X z → _) := fun z hz => unlike36_any a b _ _ (PC.valuesS a x i) (PC.valuesS b y i) z (HA.out.mono (Below.of HB3.out hz)) (HB.out.mono (Below.of HB3.out hz)) hO.out.2.2.2 (hlen hO.out.1) (hlen hO.out.2.1)
      have h5A := Lib.hid (vals_five (st := x) (i := i) hO.out.1)
      have h5B := Lib.hid (vals_five (st := y) (i := i) hO.out.2.1)
      obtain ⟨EA, hEA⟩ : ∃ e, e = PC.valuesE a x i := ⟨_, rfl⟩
      obtain ⟨EB, hEB⟩ : ∃ e, e = PC.valuesE b y i := ⟨_, rfl⟩
      rw [← hEA] at hVA hJ h5A
      rw [← hEB] at hVB hJ h5B
      clear hEA hEB hlen g3' g2' g3 g2 g1 hbl hbl1 hil hll hgl hck hd hJT hNum
      generalize PC.valuesS a x i = VA at *
      generalize PC.valuesS b y i = VB at *
      have q := U1.out
      have q0 := q.cell 0 _ rfl
      have q1 := q.cell 1 _ rfl
      have q2 := q.cell 2 _ rfl
      have q3 := q.cell 3 _ rfl
      have q4 := q.cell 4 _ rfl
      have q5 := q.cell 5 _ rfl
      have q6 := q.cell 6 _ rfl
      have q7 := q.cell 7 _ rfl
      have z := U2.out
      have z0 := z.cell 0 _ rfl
      have z1 := z.cell 1 _ rfl
      have z2 := z.cell 2 _ rfl
      have z3 := z.cell 3 _ rfl
      have z4 := z.cell 4 _ rfl
      have z5 := z.cell 5 _ rfl
      have z6 := z.cell 6 _ rfl
      have z7 := z.cell 7 _ rfl
      have u := U3.out
      have u0 := u.cell 0 _ rfl
      have u1 := u.cell 1 _ rfl
      have u2 := u.cell 2 _ rfl
      have u3 := u.cell 3 _ rfl
      have u4 := u.cell 4 _ rfl
      have u5 := u.cell 5 _ rfl
      have u6 := u.cell 6 _ rfl
      have u7 := u.cell 7 _ rfl
      go_wp2_with fail
      refine hC.out.mono ?_
      rintro e w4 ⟨rfl, hb4⟩
      have C4 := Lib.hid hb4
      clear hb4 hC
      clear q q0 q1 q2 q3 q4 q5 q6 q7
      clear z z0 z1 z2 z3 z4 z5 z6 z7
      clear u u0 u1 u2 u3 u4 u5 u6 u7
      have q := (U1.out.mono C4.out)
      have q0 := q.cell 0 _ rfl
      have q1 := q.cell 1 _ rfl
      have q2 := q.cell 2 _ rfl
      have q3 := q.cell 3 _ rfl
      have q4 := q.cell 4 _ rfl
      have q5 := q.cell 5 _ rfl
      have q6 := q.cell 6 _ rfl
      have q7 := q.cell 7 _ rfl
      have z := (U2.out.mono C4.out)
      have z0 := z.cell 0 _ rfl
      have z1 := z.cell 1 _ rfl
      have z2 := z.cell 2 _ rfl
      have z3 := z.cell 3 _ rfl
      have z4 := z.cell 4 _ rfl
      have z5 := z.cell 5 _ rfl
      have z6 := z.cell 6 _ rfl
      have z7 := z.cell 7 _ rfl
      have u := (U3.out.mono C4.out)
      have u0 := u.cell 0 _ rfl
      have u1 := u.cell 1 _ rfl
      have u2 := u.cell 2 _ rfl
      have u3 := u.cell 3 _ rfl
      have u4 := u.cell 4 _ rfl
      have u5 := u.cell 5 _ rfl
      have u6 := u.cell 6 _ rfl
      have u7 := u.cell 7 _ rfl
      go_wp2_with fail
      refine (hVA.out _ C4.out).mono ?_
      rintro e w5 ⟨rfl, hb5⟩
      have C5 := Lib.hid (Below.of C4.out hb5)
      clear hb5 hVA C4
      clear q q0 q1 q2 q3 q4 q5 q6 q7
      clear z z0 z1 z2 z3 z4 z5 z6 z7
      clear u u0 u1 u2 u3 u4 u5 u6 u7
      have q := (U1.out.mono C5.out)
      have q0 := q.cell 0 _ rfl
      have q1 := q.cell 1 _ rfl
      have q2 := q.cell 2 _ rfl
      have q3 := q.cell 3 _ rfl
      have q4 := q.cell 4 _ rfl
      have q5 := q.cell 5 _ rfl
      have q6 := q.cell 6 _ rfl
      have q7 := q.cell 7 _ rfl
      have z := (U2.out.mono C5.out)
      have z0 := z.cell 0 _ rfl
      have z1 := z.cell 1 _ rfl
      have z2 := z.cell 2 _ rfl
      have z3 := z.cell 3 _ rfl
      have z4 := z.cell 4 _ rfl
      have z5 := z.cell 5 _ rfl
      have z6 := z.cell 6 _ rfl
      have z7 := z.cell 7 _ rfl
      have u := (U3.out.mono C5.out)
      have u0 := u.cell 0 _ rfl
      have u1 := u.cell 1 _ rfl
      have u2 := u.cell 2 _ rfl
      have u3 := u.cell 3 _ rfl
      have u4 := u.cell 4 _ rfl
      have u5 := u.cell 5 _ rfl
      have u6 := u.cell 6 _ rfl
      have u7 := u.cell 7 _ rfl
      go_wp2_with fail
      refine (hVB.out _ C5.out).mono ?_
      rintro e w6 ⟨rfl, hb6⟩
      have C6 := Lib.hid (Below.of C5.out hb6)
      clear hb6 hVB C5
      clear q q0 q1 q2 q3 q4 q5 q6 q7
      clear z z0 z1 z2 z3 z4 z5 z6 z7
      clear u u0 u1 u2 u3 u4 u5 u6 u7
      have q := (U1.out.mono C6.out)
      have q0 := q.cell 0 _ rfl
      have q1 := q.cell 1 _ rfl
      have q2 := q.cell 2 _ rfl
      have q3 := q.cell 3 _ rfl
      have q4 := q.cell 4 _ rfl
      have q5 := q.cell 5 _ rfl
      have q6 := q.cell 6 _ rfl
      have q7 := q.cell 7 _ rfl
      have z := (U2.out.mono C6.out)
      have z0 := z.cell 0 _ rfl
      have z1 := z.cell 1 _ rfl
      have z2 := z.cell 2 _ rfl
      have z3 := z.cell 3 _ rfl
      have z4 := z.cell 4 _ rfl
      have z5 := z.cell 5 _ rfl
      have z6 := z.cell 6 _ rfl
      have z7 := z.cell 7 _ rfl
      have u := (U3.out.mono C6.out)
      have u0 := u.cell 0 _ rfl
      have u1 := u.cell 1 _ rfl
      have u2 := u.cell 2 _ rfl
      have u3 := u.cell 3 _ rfl
      have u4 := u.cell 4 _ rfl
      have u5 := u.cell 5 _ rfl
      have u6 := u.cell 6 _ rfl
      have u7 := u.cell 7 _ rfl
      by_cases hA0 : EA = 0
      case neg =>
        have e5 := h5A.out hA0
        clear hA0 h5A h5B hJ
        subst e5
        go_wp2_with fail
        go_ret
        exact ⟨by first | rfl | simp, Below.of HB3.out C6.out⟩
      case pos =>
        by_cases hB0 : EB = 0
        case neg =>
          have e5 := h5B.out hB0
          clear hB0 h5A h5B hJ
          subst hA0
          subst e5
          go_wp2_with fail
          go_ret
          exact ⟨by first | rfl | simp, Below.of HB3.out C6.out⟩
        case pos =>
          obtain ⟨j1, j2, j3, j4, j5⟩ := hJ.out hA0 hB0
          rw [j1] at hVM
          rw [j2] at hNM
          rw [j3] at hTM
          rw [j4] at hAM
          rw [j5] at hIM
          clear hJ j1 j2 j3 j4 j5 h5A h5B
          subst hA0
          subst hB0
          generalize PC.valuesS DD (x ++ y) i = VM at *
          generalize unlikeB a b VA VB = UL at *
          have hna : (nextS a x i).length ≤ 64 := by unfold nextS; split <;> simp [PC.nexts]; exact hRa.out.lats
          have hnb : (nextS b y i).length ≤ 64 := by unfold nextS; split <;> simp [PC.nexts]; exact hRb.out.lats
          generalize nextS a x i = NA at *
          generalize nextS b y i = NB at *
          have hxy : ¬ 9223372036854775807 < x.length + y.length := by have := HXL.out; have := HYL.out; omega
          have hnn : ¬ 9223372036854775807 < NA.length + NB.length := by omega
          clear hna hnb
          generalize (PC.mkAll a b).bad = BD at *
          have hcat : (ByteArray.mk x.toArray) ++ (ByteArray.mk y.toArray) = ⟨(x ++ y).toArray⟩ := cat_eq x y
          have hcatN : (ByteArray.mk NA.toArray) ++ (ByteArray.mk NB.toArray) = ⟨(NA ++ NB).toArray⟩ := cat_eq NA NB
          go_wp2_with fail
          refine (hVM.out _ C6.out).mono ?_
          rintro e w7 ⟨rfl, hb7⟩
          have C7 := Lib.hid (Below.of C6.out hb7)
          clear hb7 hVM C6
          clear q q0 q1 q2 q3 q4 q5 q6 q7
          clear z z0 z1 z2 z3 z4 z5 z6 z7
          clear u u0 u1 u2 u3 u4 u5 u6 u7
          have q := (U1.out.mono C7.out)
          have q0 := q.cell 0 _ rfl
          have q1 := q.cell 1 _ rfl
          have q2 := q.cell 2 _ rfl
          have q3 := q.cell 3 _ rfl
          have q4 := q.cell 4 _ rfl
          have q5 := q.cell 5 _ rfl
          have q6 := q.cell 6 _ rfl
          have q7 := q.cell 7 _ rfl
          have z := (U2.out.mono C7.out)
          have z0 := z.cell 0 _ rfl
          have z1 := z.cell 1 _ rfl
          have z2 := z.cell 2 _ rfl
          have z3 := z.cell 3 _ rfl
          have z4 := z.cell 4 _ rfl
          have z5 := z.cell 5 _ rfl
          have z6 := z.cell 6 _ rfl
          have z7 := z.cell 7 _ rfl
          have u := (U3.out.mono C7.out)
          have u0 := u.cell 0 _ rfl
          have u1 := u.cell 1 _ rfl
          have u2 := u.cell 2 _ rfl
          have u3 := u.cell 3 _ rfl
          have u4 := u.cell 4 _ rfl
          have u5 := u.cell 5 _ rfl
          have u6 := u.cell 6 _ rfl
          have u7 := u.cell 7 _ rfl
          go_wp2_with fail
          refine (hNA.out _ C7.out).mono ?_
          rintro e w8 ⟨rfl, hb8⟩
          have C8 := Lib.hid (Below.of C7.out hb8)
          clear hb8 hNA C7
          clear q q0 q1 q2 q3 q4 q5 q6 q7
          clear z z0 z1 z2 z3 z4 z5 z6 z7
          clear u u0 u1 u2 u3 u4 u5 u6 u7
          have q := (U1.out.mono C8.out)
          have q0 := q.cell 0 _ rfl
          have q1 := q.cell 1 _ rfl
          have q2 := q.cell 2 _ rfl
          have q3 := q.cell 3 _ rfl
          have q4 := q.cell 4 _ rfl
          have q5 := q.cell 5 _ rfl
          have q6 := q.cell 6 _ rfl
          have q7 := q.cell 7 _ rfl
          have z := (U2.out.mono C8.out)
          have z0 := z.cell 0 _ rfl
          have z1 := z.cell 1 _ rfl
          have z2 := z.cell 2 _ rfl
          have z3 := z.cell 3 _ rfl
          have z4 := z.cell 4 _ rfl
          have z5 := z.cell 5 _ rfl
          have z6 := z.cell 6 _ rfl
          have z7 := z.cell 7 _ rfl
          have u := (U3.out.mono C8.out)
          have u0 := u.cell 0 _ rfl
          have u1 := u.cell 1 _ rfl
          have u2 := u.cell 2 _ rfl
          have u3 := u.cell 3 _ rfl
          have u4 := u.cell 4 _ rfl
          have u5 := u.cell 5 _ rfl
          have u6 := u.cell 6 _ rfl
          have u7 := u.cell 7 _ rfl
          go_wp2_with fail
          refine (hNB.out _ C8.out).mono ?_
          rintro e w9 ⟨rfl, hb9⟩
          have C9 := Lib.hid (Below.of C8.out hb9)
          clear hb9 hNB C8
          clear q q0 q1 q2 q3 q4 q5 q6 q7
          clear z z0 z1 z2 z3 z4 z5 z6 z7
          clear u u0 u1 u2 u3 u4 u5 u6 u7
          have q := (U1.out.mono C9.out)
          have q0 := q.cell 0 _ rfl
          have q1 := q.cell 1 _ rfl
          have q2 := q.cell 2 _ rfl
          have q3 := q.cell 3 _ rfl
          have q4 := q.cell 4 _ rfl
          have q5 := q.cell 5 _ rfl
          have q6 := q.cell 6 _ rfl
          have q7 := q.cell 7 _ rfl
          have z := (U2.out.mono C9.out)
          have z0 := z.cell 0 _ rfl
          have z1 := z.cell 1 _ rfl
          have z2 := z.cell 2 _ rfl
          have z3 := z.cell 3 _ rfl
          have z4 := z.cell 4 _ rfl
          have z5 := z.cell 5 _ rfl
          have z6 := z.cell 6 _ rfl
          have z7 := z.cell 7 _ rfl
          have u := (U3.out.mono C9.out)
          have u0 := u.cell 0 _ rfl
          have u1 := u.cell 1 _ rfl
          have u2 := u.cell 2 _ rfl
          have u3 := u.cell 3 _ rfl
          have u4 := u.cell 4 _ rfl
          have u5 := u.cell 5 _ rfl
          have u6 := u.cell 6 _ rfl
          have u7 := u.cell 7 _ rfl
          go_wp2_with fail
          refine (hNM.out _ C9.out).mono ?_
          rintro e w10 ⟨rfl, hb10⟩
          have C10 := Lib.hid (Below.of C9.out hb10)
          clear hb10 hNM C9
          clear q q0 q1 q2 q3 q4 q5 q6 q7
          clear z z0 z1 z2 z3 z4 z5 z6 z7
          clear u u0 u1 u2 u3 u4 u5 u6 u7
          have q := (U1.out.mono C10.out)
          have q0 := q.cell 0 _ rfl
          have q1 := q.cell 1 _ rfl
          have q2 := q.cell 2 _ rfl
          have q3 := q.cell 3 _ rfl
          have q4 := q.cell 4 _ rfl
          have q5 := q.cell 5 _ rfl
          have q6 := q.cell 6 _ rfl
          have q7 := q.cell 7 _ rfl
          have z := (U2.out.mono C10.out)
          have z0 := z.cell 0 _ rfl
          have z1 := z.cell 1 _ rfl
          have z2 := z.cell 2 _ rfl
          have z3 := z.cell 3 _ rfl
          have z4 := z.cell 4 _ rfl
          have z5 := z.cell 5 _ rfl
          have z6 := z.cell 6 _ rfl
          have z7 := z.cell 7 _ rfl
          have u := (U3.out.mono C10.out)
          have u0 := u.cell 0 _ rfl
          have u1 := u.cell 1 _ rfl
          have u2 := u.cell 2 _ rfl
          have u3 := u.cell 3 _ rfl
          have u4 := u.cell 4 _ rfl
          have u5 := u.cell 5 _ rfl
          have u6 := u.cell 6 _ rfl
          have u7 := u.cell 7 _ rfl
          go_wp2_with fail
          refine (hAA.out _ C10.out).mono ?_
          rintro e w11 ⟨rfl, hb11⟩
          have C11 := Lib.hid (Below.of C10.out hb11)
          clear hb11 hAA C10
          clear q q0 q1 q2 q3 q4 q5 q6 q7
          clear z z0 z1 z2 z3 z4 z5 z6 z7
          clear u u0 u1 u2 u3 u4 u5 u6 u7
          have q := (U1.out.mono C11.out)
          have q0 := q.cell 0 _ rfl
          have q1 := q.cell 1 _ rfl
          have q2 := q.cell 2 _ rfl
          have q3 := q.cell 3 _ rfl
          have q4 := q.cell 4 _ rfl
          have q5 := q.cell 5 _ rfl
          have q6 := q.cell 6 _ rfl
          have q7 := q.cell 7 _ rfl
          have z := (U2.out.mono C11.out)
          have z0 := z.cell 0 _ rfl
          have z1 := z.cell 1 _ rfl
          have z2 := z.cell 2 _ rfl
          have z3 := z.cell 3 _ rfl
          have z4 := z.cell 4 _ rfl
          have z5 := z.cell 5 _ rfl
          have z6 := z.cell 6 _ rfl
          have z7 := z.cell 7 _ rfl
          have u := (U3.out.mono C11.out)
          have u0 := u.cell 0 _ rfl
          have u1 := u.cell 1 _ rfl
          have u2 := u.cell 2 _ rfl
          have u3 := u.cell 3 _ rfl
          have u4 := u.cell 4 _ rfl
          have u5 := u.cell 5 _ rfl
          have u6 := u.cell 6 _ rfl
          have u7 := u.cell 7 _ rfl
          generalize PC.allowed a [] VA = A1 at *
          generalize PC.allowed b [] VB = A2 at *
          generalize PC.initial a x = I1 at *
          generalize PC.initial b y = I2 at *
          cases A1 with
          | true =>
            go_wp2_with fail
            refine (hAB.out _ C11.out).mono ?_
            rintro e w12 ⟨rfl, hb12⟩
            have C12 := Lib.hid (Below.of C11.out hb12)
            clear hb12 hAB C11
            clear q q0 q1 q2 q3 q4 q5 q6 q7
            clear z z0 z1 z2 z3 z4 z5 z6 z7
            clear u u0 u1 u2 u3 u4 u5 u6 u7
            have q := (U1.out.mono C12.out)
            have q0 := q.cell 0 _ rfl
            have q1 := q.cell 1 _ rfl
            have q2 := q.cell 2 _ rfl
            have q3 := q.cell 3 _ rfl
            have q4 := q.cell 4 _ rfl
            have q5 := q.cell 5 _ rfl
            have q6 := q.cell 6 _ rfl
            have q7 := q.cell 7 _ rfl
            have z := (U2.out.mono C12.out)
            have z0 := z.cell 0 _ rfl
            have z1 := z.cell 1 _ rfl
            have z2 := z.cell 2 _ rfl
            have z3 := z.cell 3 _ rfl
            have z4 := z.cell 4 _ rfl
            have z5 := z.cell 5 _ rfl
            have z6 := z.cell 6 _ rfl
            have z7 := z.cell 7 _ rfl
            have u := (U3.out.mono C12.out)
            have u0 := u.cell 0 _ rfl
            have u1 := u.cell 1 _ rfl
            have u2 := u.cell 2 _ rfl
            have u3 := u.cell 3 _ rfl
            have u4 := u.cell 4 _ rfl
            have u5 := u.cell 5 _ rfl
            have u6 := u.cell 6 _ rfl
            have u7 := u.cell 7 _ rfl
            go_wp2_with fail
            refine (hIA.out _ C12.out).mono ?_
            rintro e w13 ⟨rfl, hb13⟩
            have C13 := Lib.hid (Below.of C12.out hb13)
            clear hb13 hIA C12
            clear q q0 q1 q2 q3 q4 q5 q6 q7
            clear z z0 z1 z2 z3 z4 z5 z6 z7
            clear u u0 u1 u2 u3 u4 u5 u6 u7
            have q := (U1.out.mono C13.out)
            have q0 := q.cell 0 _ rfl
            have q1 := q.cell 1 _ rfl
            have q2 := q.cell 2 _ rfl
            have q3 := q.cell 3 _ rfl
            have q4 := q.cell 4 _ rfl
            have q5 := q.cell 5 _ rfl
            have q6 := q.cell 6 _ rfl
            have q7 := q.cell 7 _ rfl
            have z := (U2.out.mono C13.out)
            have z0 := z.cell 0 _ rfl
            have z1 := z.cell 1 _ rfl
            have z2 := z.cell 2 _ rfl
            have z3 := z.cell 3 _ rfl
            have z4 := z.cell 4 _ rfl
            have z5 := z.cell 5 _ rfl
            have z6 := z.cell 6 _ rfl
            have z7 := z.cell 7 _ rfl
            have u := (U3.out.mono C13.out)
            have u0 := u.cell 0 _ rfl
            have u1 := u.cell 1 _ rfl
            have u2 := u.cell 2 _ rfl
            have u3 := u.cell 3 _ rfl
            have u4 := u.cell 4 _ rfl
            have u5 := u.cell 5 _ rfl
            have u6 := u.cell 6 _ rfl
            have u7 := u.cell 7 _ rfl
            cases I1 with
            | true =>
              go_wp2_with fail
              refine (hIB.out _ C13.out).mono ?_
              rintro e w14 ⟨rfl, hb14⟩
              have C14 := Lib.hid (Below.of C13.out hb14)
              clear hb14 hIB C13
              clear q q0 q1 q2 q3 q4 q5 q6 q7
              clear z z0 z1 z2 z3 z4 z5 z6 z7
              clear u u0 u1 u2 u3 u4 u5 u6 u7
              have q := (U1.out.mono C14.out)
              have q0 := q.cell 0 _ rfl
              have q1 := q.cell 1 _ rfl
              have q2 := q.cell 2 _ rfl
              have q3 := q.cell 3 _ rfl
              have q4 := q.cell 4 _ rfl
              have q5 := q.cell 5 _ rfl
              have q6 := q.cell 6 _ rfl
              have q7 := q.cell 7 _ rfl
              have z := (U2.out.mono C14.out)
              have z0 := z.cell 0 _ rfl
              have z1 := z.cell 1 _ rfl
              have z2 := z.cell 2 _ rfl
              have z3 := z.cell 3 _ rfl
              have z4 := z.cell 4 _ rfl
              have z5 := z.cell 5 _ rfl
              have z6 := z.cell 6 _ rfl
              have z7 := z.cell 7 _ rfl
              have u := (U3.out.mono C14.out)
              have u0 := u.cell 0 _ rfl
              have u1 := u.cell 1 _ rfl
              have u2 := u.cell 2 _ rfl
              have u3 := u.cell 3 _ rfl
              have u4 := u.cell 4 _ rfl
              have u5 := u.cell 5 _ rfl
              have u6 := u.cell 6 _ rfl
              have u7 := u.cell 7 _ rfl
              clear q q0 q1 q2 q3 q4 q5 q6 q7
              clear z z0 z1 z2 z3 z4 z5 z6 z7
              clear u u0 u1 u2 u3 u4 u5 u6 u7
              have D1 := Lib.hid (U1.out.mono C14.out)
              have D2 := Lib.hid (U2.out.mono C14.out)
              have D3 := Lib.hid (U3.out.mono C14.out)
              obtain ⟨Z, hZ⟩ : ∃ Z, Z = w14 := ⟨_, rfl⟩
              subst hZ
              have l0 : ∀ x : Later Z, _ := fun x => (D1.out.mono x.below).cell 0 _ rfl
              have l1 : ∀ x : Later Z, _ := fun x => (D1.out.mono x.below).cell 1 _ rfl
              have l2 : ∀ x : Later Z, _ := fun x => (D1.out.mono x.below).cell 2 _ rfl
              have l3 : ∀ x : Later Z, _ := fun x => (D1.out.mono x.below).cell 3 _ rfl
              have l4 : ∀ x : Later Z, _ := fun x => (D1.out.mono x.below).cell 4 _ rfl
              have l5 : ∀ x : Later Z, _ := fun x => (D1.out.mono x.below).cell 5 _ rfl
              have l6 : ∀ x : Later Z, _ := fun x => (D1.out.mono x.below).cell 6 _ rfl
              have l7 : ∀ x : Later Z, _ := fun x => (D1.out.mono x.below).cell 7 _ rfl
              have m0 : ∀ x : Later Z, _ := fun x => (D2.out.mono x.below).cell 0 _ rfl
              have m1 : ∀ x : Later Z, _ := fun x => (D2.out.mono x.below).cell 1 _ rfl
              have m2 : ∀ x : Later Z, _ := fun x => (D2.out.mono x.below).cell 2 _ rfl
              have m3 : ∀ x : Later Z, _ := fun x => (D2.out.mono x.below).cell 3 _ rfl
              have m4 : ∀ x : Later Z, _ := fun x => (D2.out.mono x.below).cell 4 _ rfl
              have m5 : ∀ x : Later Z, _ := fun x => (D2.out.mono x.below).cell 5 _ rfl
              have m6 : ∀ x : Later Z, _ := fun x => (D2.out.mono x.below).cell 6 _ rfl
              have m7 : ∀ x : Later Z, _ := fun x => (D2.out.mono x.below).cell 7 _ rfl
              have n0 : ∀ x : Later Z, _ := fun x => (D3.out.mono x.below).cell 0 _ rfl
              have n1 : ∀ x : Later Z, _ := fun x => (D3.out.mono x.below).cell 1 _ rfl
              have n2 : ∀ x : Later Z, _ := fun x => (D3.out.mono x.below).cell 2 _ rfl
              have n3 : ∀ x : Later Z, _ := fun x => (D3.out.mono x.below).cell 3 _ rfl
              have n4 : ∀ x : Later Z, _ := fun x => (D3.out.mono x.below).cell 4 _ rfl
              have n5 : ∀ x : Later Z, _ := fun x => (D3.out.mono x.below).cell 5 _ rfl
              have n6 : ∀ x : Later Z, _ := fun x => (D3.out.mono x.below).cell 6 _ rfl
              have n7 : ∀ x : Later Z, _ := fun x => (D3.out.mono x.below).cell 7 _ rfl
              have p0 : ∀ x : Later Z, x.at_.cell? ⟨b1, o1, none⟩ = some (.int .i64 BD) := fun x => ((Below.of C14.out x.below).cell G1.out).trans G3.out
              have t1 : ∀ x : Later Z, _ := fun x => hTM.out x.at_
              have t2 : ∀ x : Later Z, _ := fun x => hUN.out x.at_ (Below.of C14.out x.below)
              have t3 : ∀ x : Later Z, _ := fun x => hAM.out x.at_ (Below.of C14.out x.below)
              have t4 : ∀ x : Later Z, _ := fun x => hIM.out x.at_ (Below.of C14.out x.below)
              simp only [band_known] at t3 t4
              go_wp2_with fail
              refine wp_region_later (by kernel_rfl) (by kernel_rfl) ?_; (repeat (go_big_quiet_step ((first | (go_at_call 20; with_reducible exact Calls.later_same (t1 _)) | (go_at_call 21; with_reducible exact Calls.later (t2 _)) | (go_at_call 18; with_reducible exact Calls.later (t3 _)) | (go_at_call 19; with_reducible exact Calls.later (t4 _)))))); refine wpQuiet_nil ?_; rintro w3 ⟨⟨_, hb3⟩, rfl⟩
              go_wp2_with fail
              go_ret
              exact ⟨by first | rfl | simp, Below.of HB3.out (Below.of C14.out hb3)⟩
            | false =>
              clear q q0 q1 q2 q3 q4 q5 q6 q7
              clear z z0 z1 z2 z3 z4 z5 z6 z7
              clear u u0 u1 u2 u3 u4 u5 u6 u7
              have D1 := Lib.hid (U1.out.mono C13.out)
              have D2 := Lib.hid (U2.out.mono C13.out)
              have D3 := Lib.hid (U3.out.mono C13.out)
              obtain ⟨Z, hZ⟩ : ∃ Z, Z = w13 := ⟨_, rfl⟩
              subst hZ
              have l0 : ∀ x : Later Z, _ := fun x => (D1.out.mono x.below).cell 0 _ rfl
              have l1 : ∀ x : Later Z, _ := fun x => (D1.out.mono x.below).cell 1 _ rfl
              have l2 : ∀ x : Later Z, _ := fun x => (D1.out.mono x.below).cell 2 _ rfl
              have l3 : ∀ x : Later Z, _ := fun x => (D1.out.mono x.below).cell 3 _ rfl
              have l4 : ∀ x : Later Z, _ := fun x => (D1.out.mono x.below).cell 4 _ rfl
              have l5 : ∀ x : Later Z, _ := fun x => (D1.out.mono x.below).cell 5 _ rfl
              have l6 : ∀ x : Later Z, _ := fun x => (D1.out.mono x.below).cell 6 _ rfl
              have l7 : ∀ x : Later Z, _ := fun x => (D1.out.mono x.below).cell 7 _ rfl
              have m0 : ∀ x : Later Z, _ := fun x => (D2.out.mono x.below).cell 0 _ rfl
              have m1 : ∀ x : Later Z, _ := fun x => (D2.out.mono x.below).cell 1 _ rfl
              have m2 : ∀ x : Later Z, _ := fun x => (D2.out.mono x.below).cell 2 _ rfl
              have m3 : ∀ x : Later Z, _ := fun x => (D2.out.mono x.below).cell 3 _ rfl
              have m4 : ∀ x : Later Z, _ := fun x => (D2.out.mono x.below).cell 4 _ rfl
              have m5 : ∀ x : Later Z, _ := fun x => (D2.out.mono x.below).cell 5 _ rfl
              have m6 : ∀ x : Later Z, _ := fun x => (D2.out.mono x.below).cell 6 _ rfl
              have m7 : ∀ x : Later Z, _ := fun x => (D2.out.mono x.below).cell 7 _ rfl
              have n0 : ∀ x : Later Z, _ := fun x => (D3.out.mono x.below).cell 0 _ rfl
              have n1 : ∀ x : Later Z, _ := fun x => (D3.out.mono x.below).cell 1 _ rfl
              have n2 : ∀ x : Later Z, _ := fun x => (D3.out.mono x.below).cell 2 _ rfl
              have n3 : ∀ x : Later Z, _ := fun x => (D3.out.mono x.below).cell 3 _ rfl
              have n4 : ∀ x : Later Z, _ := fun x => (D3.out.mono x.below).cell 4 _ rfl
              have n5 : ∀ x : Later Z, _ := fun x => (D3.out.mono x.below).cell 5 _ rfl
              have n6 : ∀ x : Later Z, _ := fun x => (D3.out.mono x.below).cell 6 _ rfl
              have n7 : ∀ x : Later Z, _ := fun x => (D3.out.mono x.below).cell 7 _ rfl
              have p0 : ∀ x : Later Z, x.at_.cell? ⟨b1, o1, none⟩ = some (.int .i64 BD) := fun x => ((Below.of C13.out x.below).cell G1.out).trans G3.out
              have t1 : ∀ x : Later Z, _ := fun x => hTM.out x.at_
              have t2 : ∀ x : Later Z, _ := fun x => hUN.out x.at_ (Below.of C13.out x.below)
              have t3 : ∀ x : Later Z, _ := fun x => hAM.out x.at_ (Below.of C13.out x.below)
              have t4 : ∀ x : Later Z, _ := fun x => hIM.out x.at_ (Below.of C13.out x.below)
              simp only [band_known] at t3 t4
              go_wp2_with fail
              refine wp_region_later (by kernel_rfl) (by kernel_rfl) ?_; (repeat (go_big_quiet_step ((first | (go_at_call 20; with_reducible exact Calls.later_same (t1 _)) | (go_at_call 21; with_reducible exact Calls.later (t2 _)) | (go_at_call 18; with_reducible exact Calls.later (t3 _)) | (go_at_call 19; with_reducible exact Calls.later (t4 _)))))); refine wpQuiet_nil ?_; rintro w3 ⟨⟨_, hb3⟩, rfl⟩
              go_wp2_with fail
              go_ret
              exact ⟨by first | rfl | simp, Below.of HB3.out (Below.of C13.out hb3)⟩
          | false =>
            go_wp2_with fail
            refine (hIA.out _ C11.out).mono ?_
            rintro e w12 ⟨rfl, hb12⟩
            have C12 := Lib.hid (Below.of C11.out hb12)
            clear hb12 hIA C11
            clear q q0 q1 q2 q3 q4 q5 q6 q7
            clear z z0 z1 z2 z3 z4 z5 z6 z7
            clear u u0 u1 u2 u3 u4 u5 u6 u7
            have q := (U1.out.mono C12.out)
            have q0 := q.cell 0 _ rfl
            have q1 := q.cell 1 _ rfl
            have q2 := q.cell 2 _ rfl
            have q3 := q.cell 3 _ rfl
            have q4 := q.cell 4 _ rfl
            have q5 := q.cell 5 _ rfl
            have q6 := q.cell 6 _ rfl
            have q7 := q.cell 7 _ rfl
            have z := (U2.out.mono C12.out)
            have z0 := z.cell 0 _ rfl
            have z1 := z.cell 1 _ rfl
            have z2 := z.cell 2 _ rfl
            have z3 := z.cell 3 _ rfl
            have z4 := z.cell 4 _ rfl
            have z5 := z.cell 5 _ rfl
            have z6 := z.cell 6 _ rfl
            have z7 := z.cell 7 _ rfl
            have u := (U3.out.mono C12.out)
            have u0 := u.cell 0 _ rfl
            have u1 := u.cell 1 _ rfl
            have u2 := u.cell 2 _ rfl
            have u3 := u.cell 3 _ rfl
            have u4 := u.cell 4 _ rfl
            have u5 := u.cell 5 _ rfl
            have u6 := u.cell 6 _ rfl
            have u7 := u.cell 7 _ rfl
            cases I1 with
            | true =>
              go_wp2_with fail
              refine (hIB.out _ C12.out).mono ?_
              rintro e w13 ⟨rfl, hb13⟩
              have C13 := Lib.hid (Below.of C12.out hb13)
              clear hb13 hIB C12
              clear q q0 q1 q2 q3 q4 q5 q6 q7
              clear z z0 z1 z2 z3 z4 z5 z6 z7
              clear u u0 u1 u2 u3 u4 u5 u6 u7
              have q := (U1.out.mono C13.out)
              have q0 := q.cell 0 _ rfl
              have q1 := q.cell 1 _ rfl
              have q2 := q.cell 2 _ rfl
              have q3 := q.cell 3 _ rfl
              have q4 := q.cell 4 _ rfl
              have q5 := q.cell 5 _ rfl
              have q6 := q.cell 6 _ rfl
              have q7 := q.cell 7 _ rfl
              have z := (U2.out.mono C13.out)
              have z0 := z.cell 0 _ rfl
              have z1 := z.cell 1 _ rfl
              have z2 := z.cell 2 _ rfl
              have z3 := z.cell 3 _ rfl
              have z4 := z.cell 4 _ rfl
              have z5 := z.cell 5 _ rfl
              have z6 := z.cell 6 _ rfl
              have z7 := z.cell 7 _ rfl
              have u := (U3.out.mono C13.out)
              have u0 := u.cell 0 _ rfl
              have u1 := u.cell 1 _ rfl
              have u2 := u.cell 2 _ rfl
              have u3 := u.cell 3 _ rfl
              have u4 := u.cell 4 _ rfl
              have u5 := u.cell 5 _ rfl
              have u6 := u.cell 6 _ rfl
              have u7 := u.cell 7 _ rfl
              clear q q0 q1 q2 q3 q4 q5 q6 q7
              clear z z0 z1 z2 z3 z4 z5 z6 z7
              clear u u0 u1 u2 u3 u4 u5 u6 u7
              have D1 := Lib.hid (U1.out.mono C13.out)
              have D2 := Lib.hid (U2.out.mono C13.out)
              have D3 := Lib.hid (U3.out.mono C13.out)
              obtain ⟨Z, hZ⟩ : ∃ Z, Z = w13 := ⟨_, rfl⟩
              subst hZ
              have l0 : ∀ x : Later Z, _ := fun x => (D1.out.mono x.below).cell 0 _ rfl
              have l1 : ∀ x : Later Z, _ := fun x => (D1.out.mono x.below).cell 1 _ rfl
              have l2 : ∀ x : Later Z, _ := fun x => (D1.out.mono x.below).cell 2 _ rfl
              have l3 : ∀ x : Later Z, _ := fun x => (D1.out.mono x.below).cell 3 _ rfl
              have l4 : ∀ x : Later Z, _ := fun x => (D1.out.mono x.below).cell 4 _ rfl
              have l5 : ∀ x : Later Z, _ := fun x => (D1.out.mono x.below).cell 5 _ rfl
              have l6 : ∀ x : Later Z, _ := fun x => (D1.out.mono x.below).cell 6 _ rfl
              have l7 : ∀ x : Later Z, _ := fun x => (D1.out.mono x.below).cell 7 _ rfl
              have m0 : ∀ x : Later Z, _ := fun x => (D2.out.mono x.below).cell 0 _ rfl
              have m1 : ∀ x : Later Z, _ := fun x => (D2.out.mono x.below).cell 1 _ rfl
              have m2 : ∀ x : Later Z, _ := fun x => (D2.out.mono x.below).cell 2 _ rfl
              have m3 : ∀ x : Later Z, _ := fun x => (D2.out.mono x.below).cell 3 _ rfl
              have m4 : ∀ x : Later Z, _ := fun x => (D2.out.mono x.below).cell 4 _ rfl
              have m5 : ∀ x : Later Z, _ := fun x => (D2.out.mono x.below).cell 5 _ rfl
              have m6 : ∀ x : Later Z, _ := fun x => (D2.out.mono x.below).cell 6 _ rfl
              have m7 : ∀ x : Later Z, _ := fun x => (D2.out.mono x.below).cell 7 _ rfl
              have n0 : ∀ x : Later Z, _ := fun x => (D3.out.mono x.below).cell 0 _ rfl
              have n1 : ∀ x : Later Z, _ := fun x => (D3.out.mono x.below).cell 1 _ rfl
              have n2 : ∀ x : Later Z, _ := fun x => (D3.out.mono x.below).cell 2 _ rfl
              have n3 : ∀ x : Later Z, _ := fun x => (D3.out.mono x.below).cell 3 _ rfl
              have n4 : ∀ x : Later Z, _ := fun x => (D3.out.mono x.below).cell 4 _ rfl
              have n5 : ∀ x : Later Z, _ := fun x => (D3.out.mono x.below).cell 5 _ rfl
              have n6 : ∀ x : Later Z, _ := fun x => (D3.out.mono x.below).cell 6 _ rfl
              have n7 : ∀ x : Later Z, _ := fun x => (D3.out.mono x.below).cell 7 _ rfl
              have p0 : ∀ x : Later Z, x.at_.cell? ⟨b1, o1, none⟩ = some (.int .i64 BD) := fun x => ((Below.of C13.out x.below).cell G1.out).trans G3.out
              have t1 : ∀ x : Later Z, _ := fun x => hTM.out x.at_
              have t2 : ∀ x : Later Z, _ := fun x => hUN.out x.at_ (Below.of C13.out x.below)
              have t3 : ∀ x : Later Z, _ := fun x => hAM.out x.at_ (Below.of C13.out x.below)
              have t4 : ∀ x : Later Z, _ := fun x => hIM.out x.at_ (Below.of C13.out x.below)
              simp only [band_known] at t3 t4
              go_wp2_with fail
              refine wp_region_later (by kernel_rfl) (by kernel_rfl) ?_; (repeat (go_big_quiet_step ((first | (go_at_call 20; with_reducible exact Calls.later_same (t1 _)) | (go_at_call 21; with_reducible exact Calls.later (t2 _)) | (go_at_call 18; with_reducible exact Calls.later (t3 _)) | (go_at_call 19; with_reducible exact Calls.later (t4 _)))))); refine wpQuiet_nil ?_; rintro w3 ⟨⟨_, hb3⟩, rfl⟩
              go_wp2_with fail
              go_ret
              exact ⟨by first | rfl | simp, Below.of HB3.out (Below.of C13.out hb3)⟩
            | false =>
              clear q q0 q1 q2 q3 q4 q5 q6 q7
              clear z z0 z1 z2 z3 z4 z5 z6 z7
              clear u u0 u1 u2 u3 u4 u5 u6 u7
              have D1 := Lib.hid (U1.out.mono C12.out)
              have D2 := Lib.hid (U2.out.mono C12.out)
              have D3 := Lib.hid (U3.out.mono C12.out)
              obtain ⟨Z, hZ⟩ : ∃ Z, Z = w12 := ⟨_, rfl⟩
              subst hZ
              have l0 : ∀ x : Later Z, _ := fun x => (D1.out.mono x.below).cell 0 _ rfl
              have l1 : ∀ x : Later Z, _ := fun x => (D1.out.mono x.below).cell 1 _ rfl
              have l2 : ∀ x : Later Z, _ := fun x => (D1.out.mono x.below).cell 2 _ rfl
              have l3 : ∀ x : Later Z, _ := fun x => (D1.out.mono x.below).cell 3 _ rfl
              have l4 : ∀ x : Later Z, _ := fun x => (D1.out.mono x.below).cell 4 _ rfl
              have l5 : ∀ x : Later Z, _ := fun x => (D1.out.mono x.below).cell 5 _ rfl
              have l6 : ∀ x : Later Z, _ := fun x => (D1.out.mono x.below).cell 6 _ rfl
              have l7 : ∀ x : Later Z, _ := fun x => (D1.out.mono x.below).cell 7 _ rfl
              have m0 : ∀ x : Later Z, _ := fun x => (D2.out.mono x.below).cell 0 _ rfl
              have m1 : ∀ x : Later Z, _ := fun x => (D2.out.mono x.below).cell 1 _ rfl
              have m2 : ∀ x : Later Z, _ := fun x => (D2.out.mono x.below).cell 2 _ rfl
              have m3 : ∀ x : Later Z, _ := fun x => (D2.out.mono x.below).cell 3 _ rfl
              have m4 : ∀ x : Later Z, _ := fun x => (D2.out.mono x.below).cell 4 _ rfl
              have m5 : ∀ x : Later Z, _ := fun x => (D2.out.mono x.below).cell 5 _ rfl
              have m6 : ∀ x : Later Z, _ := fun x => (D2.out.mono x.below).cell 6 _ rfl
              have m7 : ∀ x : Later Z, _ := fun x => (D2.out.mono x.below).cell 7 _ rfl
              have n0 : ∀ x : Later Z, _ := fun x => (D3.out.mono x.below).cell 0 _ rfl
              have n1 : ∀ x : Later Z, _ := fun x => (D3.out.mono x.below).cell 1 _ rfl
              have n2 : ∀ x : Later Z, _ := fun x => (D3.out.mono x.below).cell 2 _ rfl
              have n3 : ∀ x : Later Z, _ := fun x => (D3.out.mono x.below).cell 3 _ rfl
              have n4 : ∀ x : Later Z, _ := fun x => (D3.out.mono x.below).cell 4 _ rfl
              have n5 : ∀ x : Later Z, _ := fun x => (D3.out.mono x.below).cell 5 _ rfl
              have n6 : ∀ x : Later Z, _ := fun x => (D3.out.mono x.below).cell 6 _ rfl
              have n7 : ∀ x : Later Z, _ := fun x => (D3.out.mono x.below).cell 7 _ rfl
              have p0 : ∀ x : Later Z, x.at_.cell? ⟨b1, o1, none⟩ = some (.int .i64 BD) := fun x => ((Below.of C12.out x.below).cell G1.out).trans G3.out
              have t1 : ∀ x : Later Z, _ := fun x => hTM.out x.at_
              have t2 : ∀ x : Later Z, _ := fun x => hUN.out x.at_ (Below.of C12.out x.below)
              have t3 : ∀ x : Later Z, _ := fun x => hAM.out x.at_ (Below.of C12.out x.below)
              have t4 : ∀ x : Later Z, _ := fun x => hIM.out x.at_ (Below.of C12.out x.below)
              simp only [band_known] at t3 t4
              go_wp2_with fail
              refine wp_region_later (by kernel_rfl) (by kernel_rfl) ?_; (repeat (go_big_quiet_step ((first | (go_at_call 20; with_reducible exact Calls.later_same (t1 _)) | (go_at_call 21; with_reducible exact Calls.later (t2 _)) | (go_at_call 18; with_reducible exact Calls.later (t3 _)) | (go_at_call 19; with_reducible exact Calls.later (t4 _)))))); refine wpQuiet_nil ?_; rintro w3 ⟨⟨_, hb3⟩, rfl⟩
              go_wp2_with fail
              go_ret
              exact ⟨by first | rfl | simp, Below.of HB3.out (Below.of C12.out hb3)⟩

end Go.Proofs.YtpkaoabpifeigaaGreatDoor

namespace Go.Proofs.YtpkaoabpifeigaaGreatDoor.miterJoins
open Go.ChangeShapes Go.WideShapes Go.ChangeAt Go.RowKit

theorem laidOut : laidOutB Tryz.prog = true := by kernel_rfl
theorem own : ownKnob Tryz.prog.godebug = none := by kernel_rfl

theorem weigh {H : Type} {P : Program} {ts : List TypeId} {ds : List (DataW H)} (h : (DataW.weightsEach P ts ds).all (· ≤ reachBytes) = true) {j : Nat} {t : TypeId} {d : DataW H} (ht : ts[j]? = some t) (hd : ds[j]? = some d) : Wt P 140737488351232 t d := by
  intro n hn
  have := List.all_eq_true.1 h _ (DataW.weights_mem_each ht hd n hn)
  exact of_decide_eq_true this

/-- the leaves of a table -/
def leaves (l : List (DataW Unit)) : List Value := l.map fun | .lit (.int k n) => .int k n | _ => .bool false
def leaves1 : DataW Unit → List Value
  | .agg l => leaves l
  | _ => []
def leaves2 : DataW Unit → List Value
  | .agg l => l.flatMap leaves1
  | _ => []

/-- a world in which the listed tables lie -/
noncomputable def laidWorld (os : Os) : World :=
  let w0 := World.holding Tryz.prog os ⟨#[], #[], []⟩
  { w0 with heap := (w0.heap.modify 1 (fun x => match x with
      | .cells _ t frozen => .cells (leaves1 Rows.laid_unicode_utf8_first).toArray t frozen
      | o => o)).modify 2 (fun x => match x with
      | .cells _ t frozen => .cells (leaves2 Rows.laid_unicode_utf8_acceptRanges).toArray t frozen
      | o => o) }

def exArgs : Array Value := #[.agg #[.int .i64 0, .slice none 0 0, .slice none 0 0, .slice none 0 0, .slice none 0 0, .slice none 0 0, .slice none 0 0, .slice none 0 0], .agg #[.int .i64 0, .slice none 0 0, .slice none 0 0, .slice none 0 0, .slice none 0 0, .slice none 0 0, .slice none 0 0, .slice none 0 0], .string ⟨#[]⟩, .string ⟨#[]⟩, .string ⟨#[]⟩]

theorem laid_met (os : Os) : laidMet Tryz.prog Rows.miterJoinsRow.laid ((laidWorld os).forCall (fun _ _ => 0) ⟨#[], exArgs, []⟩).memory :=
  laidMet_of_run' 8 (by kernel_rfl) (by kernel_rfl)

theorem reads (os : Os) {H : Type} (enc : TypeId × Value → H) : ∃ places, DataW.whole enc Tryz.prog ((laidWorld os).forCall (fun _ _ => 0) ⟨#[], exArgs, []⟩).memory Tryz.f5.params.toList Rows.miterJoinsSpec.vars false exArgs.toList 8 = some ([.agg [.lit (.int .i64 0), .nil, .nil, .nil, .nil, .nil, .nil, .nil], .agg [.lit (.int .i64 0), .nil, .nil, .nil, .nil, .nil, .nil, .nil], .lit (.string []), .lit (.string []), .lit (.string [])], [], places) :=
  ⟨[], by kernel_rfl⟩

set_option maxRecDepth 100000 in
set_option maxHeartbeats 1000000 in
theorem lifted (os : Os) (started : os.Started) (H : Type) (enc : TypeId × Value → H) (F : Stop.Interp) :
    ReturnsInHanded {} Tryz.checked os 5 .any ((OpenSpec.ofChange Rows.miterJoinsSpec).preRow enc Tryz.prog Tryz.f5 Rows.miterJoinsRow.domain false Rows.miterJoinsRow.laid) (((OpenSpec.ofChange Rows.miterJoinsSpec).at F).post enc Tryz.prog Tryz.f5 false true false false) := by
  obtain ⟨places, hx⟩ := reads os enc
  refine returnsInHanded_of_row (C := Tryz.checked) (s := OpenSpec.ofChange Rows.miterJoinsSpec) own started (by kernel_rfl) Tryz.func5
    (witness_row_at (enc := enc) (C := Tryz.checked) false (laidWorld os) exArgs rfl (by kernel_rfl) (by kernel_rfl) (by kernel_rfl)
      (OpenSpec.preRow_of_cond 8 hx (by kernel_rfl) (fun k hk => by cases hk) (by kernel_rfl) (laid_met os))) ?_
  intro W base args ds gs before hval0 hW _ _ hsz hL _ _
  have hval : ∀ (j : Nat) t v, Tryz.f5.params[j]? = some t → args[j]? = some v → Value.okWide Tryz.prog W .any base t v := hval0
  have hW' := hW
  obtain ⟨p, q, hA0, hV, rfl, hfz, hnd⟩ := hW
  have hA : DataW.TrodAll enc Tryz.prog W 0 (fun _ => true) true Tryz.f5.params.toList args.toList ds p := hA0
  have hsz : (DataW.weightsEach Tryz.prog (Tryz.f5.params.toList ++ []) (ds ++ gs)).all (· ≤ reachBytes) = true := hsz
  rw [Tryz.params5] at hA hval hsz
  obtain ⟨v0, vs0, d0, ds0, p0, q0, hargs, rfl, rfl, h0, r0⟩ := trodAll_cons hA
  obtain ⟨v1, vs1, d1, ds1, p1, q1, rfl, rfl, rfl, h1, r1⟩ := trodAll_cons r0
  obtain ⟨v2, vs2, d2, ds2, p2, q2, rfl, rfl, rfl, h2, r2⟩ := trodAll_cons r1
  obtain ⟨v3, vs3, d3, ds3, p3, q3, rfl, rfl, rfl, h3, r3⟩ := trodAll_cons r2
  obtain ⟨v4, vs4, d4, ds4, p4, q4, rfl, rfl, rfl, h4, r4⟩ := trodAll_cons r3
  obtain ⟨rfl, rfl, rfl⟩ := trodAll_nil r4
  obtain rfl : args = #[v0, v1, v2, v3, v4] := by cases args; simp_all
  obtain ⟨rfl, rfl⟩ := trodVars_none hV
  have hv0 := hval 0 27 v0 rfl rfl
  unfold Value.okWide at hv0
  rw [Tryz.underlying27] at hv0
  obtain ⟨cs0, rfl, hcs0, _⟩ := hv0
  obtain ⟨n0, h0⟩ := h0
  obtain ⟨c0, hc0, hcw0⟩ := tr_circ h0
  have hw0 := hcw0 _ (weigh hsz (j := 0) rfl rfl)
  have hcs0 : IsCirc W (.agg cs0) c0 := by simpa [Value.cells] using hc0
  have hv1 := hval 1 27 v1 rfl rfl
  unfold Value.okWide at hv1
  rw [Tryz.underlying27] at hv1
  obtain ⟨cs1, rfl, hcs1, _⟩ := hv1
  obtain ⟨n1, h1⟩ := h1
  obtain ⟨c1, hc1, hcw1⟩ := tr_circ h1
  have hw1 := hcw1 _ (weigh hsz (j := 1) rfl rfl)
  have hcs1 : IsCirc W (.agg cs1) c1 := by simpa [Value.cells] using hc1
  obtain ⟨s2, rfl, rfl, rfl, hm2⟩ := Go.ChangeMaps.open_string Tryz.underlying9 (hval 2 9 v2 rfl rfl) h2
  obtain ⟨s3, rfl, rfl, rfl, hm3⟩ := Go.ChangeMaps.open_string Tryz.underlying9 (hval 3 9 v3 rfl rfl) h3
  obtain ⟨s4, rfl, rfl, rfl, hm4⟩ := Go.ChangeMaps.open_string Tryz.underlying9 (hval 4 9 v4 rfl rfl) h4
  clear hA0 hval0
  simp only [List.append_nil] at hW'
  have hb2 : s2.data.toList.length ≤ 140737488351232 := by
    have := sized_string hsz (j := 2) (t := 9) rfl rfl
    exact this
  have hst2 : s2 = ⟨s2.data.toList.toArray⟩ := by cases s2; simp
  have hb3 : s3.data.toList.length ≤ 140737488351232 := by
    have := sized_string hsz (j := 3) (t := 9) rfl rfl
    exact this
  have hst3 : s3 = ⟨s3.data.toList.toArray⟩ := by cases s3; simp
  have hb4 : s4.data.toList.length ≤ 140737488351232 := by
    have := sized_string hsz (j := 4) (t := 9) rfl rfl
    exact this
  have hst4 : s4 = ⟨s4.data.toList.toArray⟩ := by cases s4; simp
  have hwk := mJoins_walk c0 (.agg cs0) c1 (.agg cs1) s2.data.toList s3.data.toList s4.data.toList W hcs0 (by unfold Fits; omega) hcs1 (by unfold Fits; omega) (by omega) (by omega) (by omega)
  rw [← hst2, ← hst3, ← hst4] at hwk
  refine hwk.mono fun e W' ⟨he, hg⟩ => ?_
  subst he
  exact ⟨_, rfl, post_law laidOut (by rw [Tryz.params5]; intro t ht; simp only [List.mem_cons, List.mem_nil_iff, or_false] at ht; rcases ht with rfl | rfl | rfl | rfl | rfl <;> exact ⟨by kernel_rfl, of_decide_eq_true (by kernel_rfl)⟩) rfl hW' hg
    (trodAll_cons_mk (shut_bool Tryz.underlying4 _) trodAll_mk0) rfl rfl⟩

theorem said : Rows.MiterJoinsSaid :=
  OpenClaim.holds_of_cond 5 Tryz.f5 rfl rfl rfl rfl rfl rfl rfl ⟨rfl, rfl, rfl, rfl, rfl⟩ rfl rfl rfl rfl rfl (by kernel_rfl) Tryz.func5 (by kernel_rfl)
    (of_decide_eq_true (by kernel_rfl)) (by unfold Func.isWrapper; first | (rw [if_pos (by decide +kernel)]; kernel_rfl) | (rw [if_neg (by decide +kernel)]; exact ⟨rfl, rfl⟩))
    (fun os started H enc _ F => by rw [OpenClaim.pre_eq_preRow]; exact lifted os started H enc F)

theorem plain (f : FuncId) (fn : Func) (hf : Tryz.pinned.checked.prog.funcNamed Rows.miterJoinsRow.func = some f) (hfn : Tryz.pinned.checked.prog.funcs[f]? = some fn) :
    true = Tryz.pinned.checked.prog.looks [] ∧ ∀ (j : Nat) t, fn.params[j]? = some t → Tryz.pinned.checked.prog.wantsStandIn t = false := by
  obtain rfl : f = 5 := Option.some.inj ((show Tryz.prog.funcNamed Rows.miterJoinsRow.func = some 5 by kernel_rfl).symm.trans hf) |>.symm
  obtain rfl : fn = Tryz.f5 := (Option.some.inj (Tryz.func5.symm.trans hfn)).symm
  refine ⟨by kernel_rfl, fun j t ht => ?_⟩
  rw [Tryz.params5] at ht
  have hm := Array.mem_of_getElem? ht
  simp only [List.mem_cons, List.mem_nil_iff, or_false, List.mem_toArray] at hm
  rcases hm with rfl | rfl | rfl | rfl | rfl
  · exact (show Tryz.prog.wantsStandIn 27 = false by kernel_rfl)
  · exact (show Tryz.prog.wantsStandIn 27 = false by kernel_rfl)
  · exact (show Tryz.prog.wantsStandIn 9 = false by kernel_rfl)
  · exact (show Tryz.prog.wantsStandIn 9 = false by kernel_rfl)
  · exact (show Tryz.prog.wantsStandIn 9 = false by kernel_rfl)

theorem card : Rows.MiterJoinsCardSaid :=
  Claim7.holds_tied_plain_at .later [] _ _ _ _ said (fun _ h => by cases h) (by kernel_rfl) (fun _ h => by cases h) miterJoins_row_tie rfl ⟨rfl, rfl⟩ (by kernel_rfl) rfl plain (by kernel_rfl)
#print axioms card

end Go.Proofs.YtpkaoabpifeigaaGreatDoor.miterJoins
