/- What octets among the arguments read as. -/
import Derived.Test.YtjcaejdokillgaaDoorZFR
import Derived.Test.YtjcaejdokillgaaDoorZI5
import Derived.OpenShut
import Derived.ChangeSlices
import Derived.ProofKit
namespace Go.Proofs.YtjcaejdokillgaaDoor
open Go.ChangeShapes Go.WideShapes Go.ChangeAt Go.RowKit Go.Deep

theorem cells_u8 : Tryd.prog.cellsOf 5 = 1 := by kernel_rfl

section
variable {H : Type} {enc : TypeId × Value → H}

set_option maxRecDepth 100000 in
/-- a slice of octets among the arguments -/
theorem tr_octs {W : World} {base : Nat} {v1 : Value} {d1 : DataW H} {p1 : List MemPlace} (hval : Value.okWide Tryd.prog W .any base 47 v1) (h1 : DataW.Trod enc Tryd.prog W 0 (fun _ => true) true 47 v1 d1 p1) :
    ∃ l : List UInt8, Octs W v1 l ∧ l.length ≤ 9223372036854775807 := by
  obtain ⟨a1, len, cap, rfl⟩ := okWide_slice Tryd.underlying47 hval
  obtain ⟨fuel, hf⟩ := h1
  rcases open_ints Tryd.underlying47 Tryd.underlying5 cells_u8 hf with ⟨hcs, hx⟩ | ⟨a, len', cap', zs, hcs, _, hl, hm, hz, hx, hcell, hwz⟩
  · simp [Value.cells] at hcs
    obtain ⟨rfl, rfl, rfl⟩ := hcs
    exact ⟨[], ⟨none, 0, rfl, fun y _ => by rw [run_convert_bytes_string y 47 9 5 none 0 0 Tryd.underlying47 Tryd.underlying5 Tryd.underlying9]; rfl⟩, Nat.zero_le _⟩
  · simp [Value.cells] at hcs
    obtain ⟨rfl, rfl, rfl⟩ := hcs
    simp only [if_true] at hz
    have hlen : ((zs.take len).map fun n => UInt8.ofNat n.toNat).length = len := by simp; omega
    refine ⟨(zs.take len).map fun n => UInt8.ofNat n.toNat, ⟨some a, cap, by rw [hlen], fun y hy => ?_⟩, by rw [hlen]; unfold maxLen at *; omega⟩
    have h := run_convert_bytes_back (P := Tryd.prog) y 47 9 5 a cap ((zs.take len).map fun n => UInt8.ofNat n.toNat) Tryd.underlying47 Tryd.underlying5 Tryd.underlying9 (fun j hj => by
      rw [hlen] at hj
      obtain ⟨ab, ao, spot⟩ := a
      have hspot : spot = none := by simpa [Addr.add] using World.cell?_spot (hcell 0 (by omega))
      subst hspot
      have hcj := hcell j (by omega)
      rw [(hy.cell (World.block_lt_of_cell? W _ hcj)), hcj]
      have hb := range_u8 hwz j
      simp only [List.getElem_map, List.getElem_take]
      have e : zs.getD j 0 = zs[j]'(by omega) := by simp [List.getD, List.getElem?_eq_getElem (show j < zs.length by omega)]
      rw [List.getD_eq_getElem?_getD] at e
      rw [e] at hb
      rw [List.getD_eq_getElem?_getD, e]
      congr 2
      simp only [UInt8.toNat_ofNat']
      omega)
    rw [hlen] at h
    exact h

end
end Go.Proofs.YtjcaejdokillgaaDoor
