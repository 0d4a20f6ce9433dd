/-
  A slice of bools, opened.
-/
import Derived.Test.YtdoiebbbgmlkaaaDoorWrBits
import Derived.Deep.Grids
set_option linter.unusedVariables false
namespace Go.Proofs.YtdoiebbbgmlkaaaDoor.wr
open Go Go.RowKit Go.Lm Go.ChangeShapes Go.WideShapes Go.Proofs.YtdoiebbbgmlkaaaDoor.bit

section
variable {H : Type} {enc : TypeId × Value → H}
theorem bools_opened {W : World} {v : Value} {d : DataW H} {ps : List MemPlace} {base : Nat} (hv : Value.okWide Tryd.prog W .any base 45 v)
    (h : DataW.Trod enc Tryd.prog W 0 (fun _ => true) true 45 v d ps) : ∃ L : List Bool, VS W v (bl L) := by
  obtain ⟨a0, len0, cap0, rfl⟩ := okWide_slice Tryd.underlying45 hv
  obtain ⟨fuel, hf⟩ := h
  rcases Go.Deep.open_bools Tryd.underlying45 Tryd.underlying4 (by kernel_rfl) hf with ⟨hcs, _⟩ | ⟨a, len, cap, B, hcs, _, hl, hm, _, hcell⟩
  · have hcs : Value.slice a0 len0 cap0 = .slice none 0 0 := by simpa [Value.cells] using hcs
    rw [hcs]
    exact ⟨[], VS.nil W⟩
  · have hcs : Value.slice a0 len0 cap0 = .slice (some a) len cap := by simpa [Value.cells] using hcs
    rw [hcs]
    have hlen : (bl ((List.range len).map B)).length = len := by simp [bl]
    refine ⟨(List.range len).map B, some a, cap, by rw [hlen], by rw [hlen]; exact hl, hm, fun h => by simp at h, fun k hk => ?_⟩
    rw [hlen] at hk
    have h0 := hcell 0 (by omega)
    have hk' := hcell k (by omega)
    have ha : a = ⟨a.block, a.off, none⟩ := addr_of_cell (by simpa [Addr.add] using h0)
    refine ⟨a.block, a.off, by rw [← ha], ?_⟩
    rw [ha, add_none] at hk'
    rw [hk']
    simp [bl]
end
end Go.Proofs.YtdoiebbbgmlkaaaDoor.wr
