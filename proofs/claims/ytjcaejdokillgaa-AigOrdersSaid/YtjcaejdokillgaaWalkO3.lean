/- Contract: slices.Clone at names. -/
import Derived.Test.YtjcaejdokillgaaWalkO2
import Derived.Deep.Onto
import Derived.Lib.SliceRun
namespace Go.Proofs.Ytjcaejdokillgaa
open Go.RowKit Go.Shelf
attribute [local simp] mk_get

theorem infoNam : (Try.prog.info? 40).map (fun i => (i.zero, i.size, i.bytes)) = some (some (.agg #[.string ⟨#[]⟩, .int .i64 0, .string ⟨#[]⟩]), 3, 40) := by kernel_rfl
theorem infoLat : (Try.prog.info? 36).map (fun i => (i.zero, i.size, i.bytes)) = some (some (.agg #[.int .i64 0, .int .i64 0, .int .i64 0]), 3, 24) := by kernel_rfl
theorem infoGat : (Try.prog.info? 38).map (fun i => (i.zero, i.size, i.bytes)) = some (some (.agg #[.int .i64 0, .int .i64 0, .int .i64 0]), 3, 24) := by kernel_rfl

def OwnN (w : World) (B : Nat) (v : Value) (l : List PC.Nam) : Prop := w.ownsRow B 40 3 v l.length (l.flatMap namCells)
theorem nam_one (l : List PC.Nam) : ∀ u ∈ l.flatMap namCells, u.oneCell' = true := fun u hu => by
  obtain ⟨x, _, hx⟩ := List.mem_flatMap.1 hu
  simp only [namCells, List.mem_cons, List.mem_nil_iff, or_false] at hx
  rcases hx with rfl | rfl | rfl <;> rfl

theorem owns_emptyN (w : World) : (w.alloc (.cells #[] 40)).ownsRow w.heap.size 40 3 (.slice (some ⟨w.heap.size, 0, none⟩) 0 0) 0 [] := by
  refine ⟨rfl, .inr ⟨w.heap.size, 0, #[], rfl, Nat.le_refl _, heap_alloc_new w _, by simp, by unfold maxLen; omega, by simp, by simp⟩⟩

set_option maxHeartbeats 1000000 in
theorem CloneN_any (l : List PC.Nam) (v : Value) (w : World) (hv : Nams w v l) (hl : l.length ≤ 100000) :
    Calls Try.prog 26 #[v] w fun e w' => ∃ u, e = .returned u ∧ OwnN w' w.heap.size u l ∧ Below w.heap.size w w' := by
  have hcl := hv.1
  obtain ⟨ao, cap, rfl, h1, h2, h0, h3, h4⟩ := hv.1
  have q22 : ∀ (w : World) (a : Option Addr) (n c n' c' : Nat), (binOp .eql 25 (.slice a n c) (.slice none n' c')).run Try.prog w = .ok (.bool a.isNone) w := fun w a n c n' c' => Lib.run_eql_slice_nil w _ _ a n c n' c' Try.underlying25
  clear hv h4
  cases ao with
  | none =>
    have := h0 rfl
    subst this
    obtain rfl : l = [] := List.eq_nil_of_length_eq_zero (by omega)
    clear hcl h0 h1 h2 h3 hl
    go_enter Try.func26, Try.ntmps26
    go_wp2
    go_ret
    exact ⟨_, rfl, World.ownsRow_nil _ _ _ _, Below.refl _ _⟩
  | some ad =>
    have hE := owns_emptyN w
    have hbE := (Below.refl w.heap.size w).alloc (Nat.le_refl _) (.cells #[] 40)
    have hcl' := hcl.mono hbE
    clear hcl h0 h3
    have HE := Lib.hid hE
    have HB := Lib.hid hbE
    have HC := Lib.hid hcl'
    have HL := Lib.hid hl
    clear hE hbE hcl' hl h1 h2
    go_enter Try.func26, Try.ntmps26
    go_wp2_with (at_builtin; refine app_cells rfl _ _ 25 rfl 40 3 40 _ Try.underlying25 infoNam rfl (by decide) (w0 := w) (B0 := w.heap.size) rfl HE.out HB.out (Nat.le_refl _) HB.out.size rfl HC.out (nam_one _) (by have := HL.out; omega) (by have := HL.out; omega) ?_; intro v3 w3 hown3 hb3 hbs3 hgr3)
    go_ret
    refine ⟨_, rfl, ?_, hb3⟩
    rw [Nat.zero_add, List.nil_append] at hown3
    exact hown3

end Go.Proofs.Ytjcaejdokillgaa
