/- Contract: slices.Repeat of one octet. -/
import Derived.Test.YtpkaoabpifeigaaGreatDoorWalkM1
import Derived.Deep.OwnRows
import Derived.Laws.CopyOwn
import Derived.StillTailTactics
namespace Go.Proofs.YtpkaoabpifeigaaGreatDoor
open Go.RowKit Go.Shelf

theorem infoB : (Tryz.prog.info? 5).map (fun i => (i.zero, i.size, i.bytes)) = some (some (.int .u8 0), 1, 1) := by kernel_rfl
theorem sizeB : (Tryz.prog.info? 5).map (·.size) = some 1 := by kernel_rfl

theorem bMul_one (n : Nat) (hn : n < 18446744073709551616) (w : World) : Calls Tryz.prog 92 #[.int .u64 1, .int .u64 n] w fun e w' => e = .returned (.tuple #[.int .u64 0, .int .u64 n]) ∧ w = w' := by
  have h := Tryz.bits_Mul 1 n (by decide) hn w
  rw [Nat.one_mul, Nat.div_eq_of_lt hn, Nat.mod_eq_of_lt hn] at h
  exact h.mono fun e w' ⟨h1, h2⟩ => ⟨h1, h2.symm⟩

/-- the new row while it fills -/
def rowB (n k : Nat) : List Value := List.replicate k (octV 48) ++ List.replicate (n - k) (.int .u8 0)
theorem rowB_len (n k : Nat) (h : k ≤ n) : (rowB n k).length = n := by simp [rowB]; omega
theorem rowB_splice (n k m : Nat) (_h : k + m ≤ n) : splice (rowB n k) k (List.replicate m (octV 48)) = rowB n (k + m) := by
  unfold splice rowB
  have e1 : (List.replicate k (octV 48) ++ List.replicate (n - k) (Value.int .u8 0)).take k = List.replicate k (octV 48) := by simp
  have e2 : (List.replicate k (octV 48) ++ List.replicate (n - k) (Value.int .u8 0)).drop (k + m) = List.replicate (n - (k + m)) (.int .u8 0) := by
    rw [List.drop_append]; simp; omega
  rw [e1, List.length_replicate, e2, ← List.append_assoc, List.replicate_append_replicate]

theorem made_rowB (n : Nat) : madeCells #[(.int .u8 0 : Value)] n = (rowB n 0).toArray := by
  apply Array.ext
  · simp [size_madeCells, rowB]
  · intro i h1 h2
    simp [madeCells, rowB, Nat.mod_one]

set_option maxRecDepth 100000 in
set_option maxHeartbeats 1000000 in
theorem Repeat_any (n bx : Nat) (w : World) (_hbx : bx < w.heap.size) (hc : w.cell? ⟨bx, 0, none⟩ = some (.int .u8 48)) (h1 : 1 ≤ n) (hn : n ≤ 4096) :
    Calls Tryz.prog 97 #[.slice (some ⟨bx, 0, none⟩) 1 1, .int .i64 n] w fun e w' => e = .returned (.slice (some ⟨w.heap.size, 0, none⟩) n n) ∧
      w'.ownsRow w.heap.size 5 1 (.slice (some ⟨w.heap.size, 0, none⟩) n n) n ((List.replicate n (48 : UInt8)).map octV) ∧ Below w.heap.size w w' := by
  have hM := fun w => bMul_one n (by omega) w
  have hmk := run_make_row' (P := Tryz.prog) 109 5 (.int .u8 0) 1 Tryz.underlying109 infoB rfl .i64 .i64 n (by omega) (by omega)
  have hn2 : n ≤ 9223372036854775807 := by omega
  go_enter Tryz.func97, Tryz.ntmps97
  have hg0 : Hid ((w.alloc (.cells (madeCells #[(.int .u8 0 : Value)] n) 5)).heap[w.heap.size]? = some (.cells (rowB n 0).toArray 5 (0, 0))) := by
    show _ = _
    rw [made_rowB]; exact heap_alloc_new w _
  have hb0 : Below w.heap.size w (w.alloc (.cells (madeCells #[(.int .u8 0 : Value)] n) 5)) := (Below.refl _ _).alloc (Nat.le_refl _) _
  have hp0 : Hid (∀ j v, [octV 48][j]? = some v → (w.alloc (.cells (madeCells #[(.int .u8 0 : Value)] n) 5)).cell? ((⟨bx, 0, none⟩ : Addr).add j) = some v) := fun j v hj => by
    cases j with
    | zero =>
      have : octV 48 = v := by simpa using hj
      rw [← this, Go.WideShapes.add_plain]
      exact past1 hc _
    | succ j => simp at hj
  have hl0 := rowB_len n 0 (Nat.zero_le _)
  have hmin : Nat.min 1 n = 1 := by simp [Nat.min_def]; omega
  obtain ⟨R0, hR0⟩ : ∃ R, R = rowB n 0 := ⟨_, rfl⟩
  rw [← hR0] at hg0 hl0
  have HR0 := Lib.hid hR0
  clear hR0
  go_wp2_with (first | (go_at_call 92; refine (hM _).mono ?_; rintro e w1 ⟨rfl, rfl⟩) | (show wpList _ _ _ ({ dst := some 33, op := .call _, type := _, pos := _, after := _, guard := _ } :: _) _ _; refine wpList_copy_splice rfl _ _ 109 109 rfl 5 Tryz.underlying109 sizeB _ _ _ _ _ _ rfl rfl w.heap.size 0 R0 5 hg0.out [octV 48] (by rw [hmin]; rfl) (fun _ => ⟨rfl, _, rfl, hp0.out⟩) (by rw [hl0]; exact h1) (by intro v hv; simp at hv; subst hv; rfl) w.heap.size w hb0 (Nat.le_refl _) ?_; intro w2 HG2 hb2))
  have HG3 : Hid (w2.heap[w.heap.size]? = some (.cells (rowB n 1).toArray 5 (0, 0))) := by
    have := HG2.out
    rw [HR0.out] at this
    have e := rowB_splice n 0 1 (by omega)
    rw [show List.replicate 1 (octV 48) = [octV 48] from rfl, Nat.zero_add] at e
    rw [e] at this
    exact this
  clear HG2 hg0 hb0 hp0 hl0 HR0 hmin hM hmk
  clear hc
  go_loopg [8] n (fun gg s8 wr => ∃ k : Nat, 1 ≤ k ∧ k ≤ n ∧ n - k ≤ gg ∧ s8 = .int .i64 k ∧ Hid (wr.heap[w.heap.size]? = some (.cells (rowB n k).toArray 5 (0, 0))) ∧ Below w.heap.size w wr)
  case atStart => exact ⟨1, Nat.le_refl _, h1, by omega, rfl, HG3, hb2⟩
  case round =>
    obtain ⟨k, hk1, hk, hg, rfl, hrow, hbr⟩ := hrel
    by_cases hlt : k < n
    · have hltz : (k : Int) < (n : Int) := by omega
      obtain ⟨m, hm⟩ : ∃ m, m = Nat.min k (n - k) := ⟨_, rfl⟩
      have hm1 : 1 ≤ m := by rw [hm]; simp [Nat.min_def]; split <;> omega
      have hm2 : k + m ≤ n ∧ m ≤ k := by rw [hm]; simp [Nat.min_def]; split <;> omega
      obtain ⟨CS, hCS⟩ : ∃ CS, CS = List.replicate m (octV 48) := ⟨_, rfl⟩
      have hCl : CS.length = m := by rw [hCS, List.length_replicate]
      have hcn : Hid (CS.length = Nat.min k (n - k)) := by show _ = _; rw [hCl, hm]
      have hcell : Hid (∀ j v, CS[j]? = some v → wr.drew.cell? ((⟨w.heap.size, 0, none⟩ : Addr).add j) = some v) := fun j v hj => by
        rw [Go.WideShapes.add_plain, Nat.zero_add]
        obtain ⟨hj1, hj2⟩ := List.getElem?_eq_some_iff.1 hj
        have : v = octV 48 := by rw [← hj2]; simp [hCS]
        rw [this]
        show wr.cell? _ = _
        unfold World.cell?
        rw [hrow.out]
        have hjk : j < k := by omega
        simp only [rowB]
        have : (List.replicate k (octV 48) ++ List.replicate (n - k) (.int .u8 0 : Value))[j]? = some (octV 48) := by rw [List.getElem?_append_left (by simp; omega)]; simp [hjk]
        simpa using this
      have hfit : Hid (k + CS.length ≤ (rowB n k).length) := by show _ ≤ _; rw [rowB_len n k hk]; omega
      have hone : Hid (∀ v ∈ CS, v.oneCell' = true) := fun v hv => by rw [hCS] at hv; rw [(List.mem_replicate.1 hv).2]; rfl
      have hsp : Hid (splice (rowB n k) k CS = rowB n (k + m)) := by show _ = _; rw [hCS]; exact rowB_splice n k m hm2.1
      obtain ⟨RK, hRK⟩ : ∃ R, R = rowB n k := ⟨_, rfl⟩
      rw [← hRK] at hrow hfit hsp
      have hmz : ((k : Int) + (m : Int)) ≤ 9223372036854775807 := by omega
      have hnk : ¬ n = k := by omega
      have HC := Lib.hid hCl
      have HM2 := Lib.hid hm2
      clear hRK hCS hm hCl hm2
      go_wp2_with fail
      go_region_law (refine step_copy_splice rfl (.tmp 41) (.tmp 44) 109 109 rfl 5 Tryz.underlying109 sizeB (some ⟨w.heap.size, k, none⟩) (some ⟨w.heap.size, 0, none⟩) (n - k) (n - k) k n (by first | (simp [Act.eval, Act.put]; done) | (simp [Act.eval, Act.put]; omega)) (by simp [Act.eval, Act.put]) w.heap.size k RK 5 hrow.out CS hcn.out (fun _ => ⟨rfl, _, rfl, hcell.out⟩) hfit.out hone.out w.heap.size w hbr.drew (Nat.le_refl _) ?_; rw [HC.out]; intro w4 HG4 hb4)
      go_wp2_with fail
      have HG5 : Hid (w4.heap[w.heap.size]? = some (.cells (rowB n (k + m)).toArray 5 (0, 0))) := by
        have := HG4.out
        rw [hsp.out] at this
        exact this
      clear HG4
      go_roundg (n - (k + m))
      case measure => omega
      case rel => exact ⟨k + m, by omega, HM2.out.1, Nat.le_refl _, by rw [IntWalk.i64_in _ (by omega)]; rfl, HG5, hb4⟩
    · have hltz : ¬ (k : Int) < (n : Int) := by omega
      obtain rfl : k = n := by omega
      go_wp2_with fail
      go_ret
      refine ⟨rfl, ⟨by simp, .inr ⟨w.heap.size, k, (rowB k k).toArray, rfl, Nat.le_refl _, hrow.out, Nat.le_refl _, by unfold maxLen; omega, by simp [rowB_len], ?_⟩⟩, hbr⟩
      have e2 : rowB k k = List.replicate k (octV 48) := by simp [rowB]
      rw [e2, Nat.mul_one]
      simp

end Go.Proofs.YtpkaoabpifeigaaGreatDoor
