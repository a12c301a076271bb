/- Contract: what is known of both. -/
import Derived.Test.YtlakfaalpijhiaaDoorWalkYN
import Derived.Maps.AppendAt
namespace Go.Proofs.YtlakfaalpijhiaaDoor
open Go.RowKit Go.Shelf
attribute [local simp] mk_get

theorem OwnB.puts {B g N : Nat} : ∀ (bs : List UInt8) (o : Nat) (w : World) (xs : List UInt8), OwnB w B g N xs → o + bs.length ≤ N →
    OwnB (w.setCells g o (bs.map octV)) B g N (xs.take o ++ bs ++ xs.drop (o + bs.length)) ∧ w.grownBy (w.setCells g o (bs.map octV)) (some g)
  | [], o, w, xs, h, _ => by
    refine ⟨?_, World.grownBy.refl _ _⟩
    have : xs.take o ++ [] ++ xs.drop (o + ([] : List UInt8).length) = xs := by simp
    rw [this]
    exact h
  | b :: r, o, w, xs, h, hl => by
    obtain ⟨h1, h2⟩ := h.put o b
    have hxs : xs.length = N := h.1
    simp only [List.length_cons] at hl
    obtain ⟨h3, h4⟩ := OwnB.puts r (o + 1) _ _ h1 (by omega)
    refine ⟨?_, h2.trans h4⟩
    have e : (xs.set o b).take (o + 1) ++ r ++ (xs.set o b).drop (o + 1 + r.length) = xs.take o ++ (b :: r) ++ xs.drop (o + (b :: r).length) := by
      rw [List.take_succ_eq_append_getElem (by rw [List.length_set]; omega), List.getElem_set_self, List.take_set_of_le (Nat.le_refl _), List.drop_set_of_lt (by omega), show o + 1 + r.length = o + (r.length + 1) by omega]
      simp [List.append_assoc]
    rw [e] at h3
    exact h3

/-- the joined row while it fills -/
def joinN (a b : List UInt8) (k : Nat) : List UInt8 := (PC.joinT a b).take k ++ a.drop k

theorem joinN_succ (a b : List UInt8) (k : Nat) (h : k < a.length) (h' : k < b.length) (hl : a.length = b.length) : joinN a b (k + 1) = if a[k] = b[k] then joinN a b k else (joinN a b k).set k 120 := by
  have hj : k < (PC.joinT a b).length := by rw [PC.join_length a b hl]; exact h
  have hlk : ((PC.joinT a b).take k).length = k := by rw [List.length_take]; omega
  unfold joinN
  rw [List.take_succ_eq_append_getElem hj, PC.join_get a b k hj h h', List.append_assoc]
  by_cases e : a[k] = b[k]
  · rw [if_pos e, if_pos e, List.drop_eq_getElem_cons h]
    rfl
  · rw [if_neg e, if_neg e, List.set_append_right _ _ (by omega), hlk, Nat.sub_self, List.drop_eq_getElem_cons h]
    rfl

set_option maxRecDepth 100000 in
set_option maxHeartbeats 4000000 in
theorem joined_any (a b : List UInt8) (w : World) (hl : a.length = b.length) (ha : a.length ≤ 4096) :
    Calls Tryd.prog 41 #[.string ⟨a.toArray⟩, .string ⟨b.toArray⟩] w fun e w' => e = .returned (.string ⟨(PC.joinT a b).toArray⟩) ∧ Below w.heap.size w w' := by
  have hmk := run_make_row' (P := Tryd.prog) 45 5 (.int .u8 0) 1 Tryd.underlying45 infoB rfl .i64 .i64 a.length (by omega) (by omega)
  have hO0 : OwnB (w.alloc (.cells (madeCells #[(.int .u8 0 : Value)] a.length) 5)) w.heap.size w.heap.size a.length (List.replicate a.length 0) := by
    refine ⟨List.length_replicate, ?_⟩
    have := World.ownsRow_lit (base := w.heap.size) (size := 1) (e := 5) w (madeCells #[(.int .u8 0 : Value)] a.length) a.length (Nat.le_refl _) (by show _ ≤ 9223372036854775807; omega) (by simp [size_madeCells])
    have e : (madeCells #[(.int .u8 0 : Value)] a.length).toList = (List.replicate a.length (0 : UInt8)).map octV := by
      rw [List.map_replicate]
      apply List.ext_getElem?
      intro j
      by_cases hj : j < a.length
      · simp [madeCells, hj, Nat.mod_one]
      · simp [madeCells, hj]
    rw [e] at this
    exact this
  obtain ⟨hO1, hG1⟩ := OwnB.puts a 0 _ _ hO0 (by omega)
  rw [List.take_zero, List.nil_append, Nat.zero_add, List.drop_eq_nil_of_le (by simp), List.append_nil] at hO1
  have hcp := fun ty => run_copy_string (P := Tryd.prog) (w.alloc (.cells (madeCells #[(.int .u8 0 : Value)] a.length) 5)) 45 9 ty 5 w.heap.size 0 a.length a.length ⟨a.toArray⟩ Tryd.underlying45 (fun _ => rfl) (by simp [ByteArray.size]) (fun j hj => by
      have hj' : j < a.length := by simpa [ByteArray.size] using hj
      obtain ⟨⟨y, h1⟩, _⟩ := hO0.spot j hj'
      rw [Nat.zero_add, h1]; rfl) (fun j hj => by
      have hj' : j < a.length := by simpa [ByteArray.size] using hj
      rw [Nat.zero_add]
      exact (hO0.spot j hj').2)
  have hbG := Lib.hid (((Below.refl w.heap.size w).alloc (Nat.le_refl _) (.cells (madeCells #[(.int .u8 0 : Value)] a.length) 5)).grown hG1 (by simp) (fun k e => by cases e; exact Nat.le_refl _))
  have HO1 := Lib.hid hO1
  have hdat : ((⟨a.toArray⟩ : ByteArray).data.toList.map fun x => Value.int .u8 (x.toNat : Int)) = a.map octV := by simp
  have HL := Lib.hid hl
  clear hO0 hO1 hG1 hl
  go_enter Tryd.func41, Tryd.ntmps41
  go_wp2_with fail
  go_loopg [15] a.length (fun gg s15 wr => ∃ k : Nat, k ≤ a.length ∧ a.length - k ≤ gg ∧ s15 = .int .i64 k ∧ Hid (OwnB wr w.heap.size w.heap.size a.length (joinN a b k)) ∧ Below w.heap.size w wr)
  case atStart =>
    refine ⟨0, Nat.zero_le _, by omega, rfl, ?_, ?_⟩
    · have e : joinN a b 0 = a := by simp [joinN]
      rw [e]
      exact HO1
    · exact hbG.out
  case round =>
    obtain ⟨k, hk, hg, rfl, hrow, hbr⟩ := hrel
    by_cases hlt : k < a.length
    · have hmea : Hid (∀ g : Nat, a.length - k ≤ g → a.length - (k + 1) < g) := fun g h => by omega
      have HG := Lib.hid hg
      have hltb : k < b.length := by rw [← HL.out]; exact hlt
      obtain ⟨x, hx⟩ : ∃ x, a[k] = x := ⟨_, rfl⟩
      obtain ⟨y, hy⟩ : ∃ y, b[k] = y := ⟨_, rfl⟩
      have hstep := Lib.hid (joinN_succ a b k hlt hltb HL.out)
      rw [hx, hy] at hstep
      have hltz : (k : Int) < (a.length : Int) := by omega
      have hltbz : (k : Int) < (b.length : Int) := by omega
      clear hg
      by_cases h1 : x = y
      · have e1 : ((x.toNat : Int) != (y.toNat : Int)) = false := by rw [h1]; simp
        have hs1 : Hid (joinN a b (k + 1) = joinN a b k) := by show _ = _; rw [hstep.out, if_pos h1]
        clear h1 hstep
        go_wp2_with fail
        refine wp_region_later (by kernel_rfl) (by kernel_rfl) ?_; (repeat (go_big_quiet_step (fail))); refine wpQuiet_nil ?_; rintro w3 ⟨⟨_, hb3⟩, rfl⟩
        have hr3 := Lib.hid (hrow.out.below hb3)
        go_wp2_with fail
        go_roundg (a.length - (k + 1))
        case measure => exact hmea.out _ HG.out
        case rel => exact ⟨k + 1, by omega, by omega, by go_num, by rw [hs1.out]; exact hr3, Below.of hbr hb3⟩
      · have e1 : ((x.toNat : Int) != (y.toNat : Int)) = true := by
          have : x.toNat ≠ y.toNat := fun e => h1 (UInt8.toNat_inj.1 e)
          simp; omega
        have hs1 : Hid (joinN a b (k + 1) = (joinN a b k).set k 120) := by show _ = _; rw [hstep.out, if_neg h1]
        clear h1 hstep
        go_wp2_with fail
        refine wp_region_later (by kernel_rfl) (by kernel_rfl) ?_; (repeat (go_big_quiet_step (fail))); refine wpQuiet_nil ?_; rintro w3 ⟨⟨_, hb3⟩, rfl⟩
        have hr3 := Lib.hid (hrow.out.below hb3)
        obtain ⟨⟨y0, hc⟩, hfz⟩ := hr3.out.spot k hlt
        obtain ⟨hP1, hP2⟩ := hr3.out.put k 120
        have HP1 : Hid (OwnB (w3.setCell ⟨w.heap.size, k, none⟩ (.int .u8 120)) w.heap.size w.heap.size a.length ((joinN a b k).set k 120)) := hP1
        have HB : Hid (Below w.heap.size w (w3.setCell ⟨w.heap.size, k, none⟩ (.int .u8 120))) := (Below.of hbr hb3).grown hP2 (Below.of hbr hb3).size (fun k e => by cases e; exact Nat.le_refl _)
        clear hP1 hP2
        go_wp2_with fail
        go_roundg (a.length - (k + 1))
        case measure => exact hmea.out _ HG.out
        case rel => exact ⟨k + 1, by omega, by omega, by go_num, by rw [hs1.out]; exact HP1, HB.out⟩
    · have hltz : ¬ (k : Int) < (a.length : Int) := by omega
      obtain rfl : k = a.length := by omega
      have hO := hrow.out
      have e : joinN a b a.length = PC.joinT a b := by
        unfold joinN
        rw [List.take_of_length_le (by rw [PC.join_length a b HL.out]; exact Nat.le_refl _), List.drop_eq_nil_of_le (Nat.le_refl _), List.append_nil]
      rw [e] at hO
      have hconv := conv_own hO (by omega)
      clear e hO
      go_wp2_with fail
      go_ret
      exact ⟨rfl, hbr⟩

end Go.Proofs.YtlakfaalpijhiaaDoor
