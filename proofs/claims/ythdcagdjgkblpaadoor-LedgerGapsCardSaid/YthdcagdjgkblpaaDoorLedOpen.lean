/-
  A record, opened.
-/
import Derived.Test.YthdcagdjgkblpaaDoorLedAwake
import Derived.Deep.Slices
import Derived.ChangeArms
set_option linter.unusedVariables false
namespace Go.Proofs.YthdcagdjgkblpaaDoor.led
open Go Go.RowKit Go.Lm Go.ChangeShapes Go.WideShapes

section
variable {H : Type} {enc : TypeId × Value → H}
theorem struct2 {P : Program} {w : World} {base : Nat} {spare : Nat → Bool} {held : Bool} {t : TypeId} {f0 f1 : Field} {fuel : Nat} {cs : List Value} {x : DataW H × List MemPlace} (ht : P.underlying t = some (.struct #[f0, f1])) (h : DataW.trod enc P w base spare held fuel t cs = some x) :
    ∃ y0 y1 n, DataW.trod enc P w base spare held n f0.type ((cs.drop f0.offset).take (P.cellsOf f0.type)) = some y0 ∧
      DataW.trod enc P w base spare held n f1.type ((cs.drop f1.offset).take (P.cellsOf f1.type)) = some y1 := by
  obtain ⟨xs, n, _, rfl, hl, hlen, hf⟩ := DataW.trod_struct ht h
  match xs, hlen with
  | [y0, y1], _ => exact ⟨y0, y1, n, by simpa using hf 0 f0 rfl, by simpa using hf 1 f1 rfl⟩
theorem rec_opened {W : World} {v : Value} {d : DataW H} {ps : List MemPlace} {base : Nat} (hv : Value.okWide Tryd.prog W .any base 32 v)
    (h : DataW.Trod enc Tryd.prog W 0 (fun _ => true) true 32 v d ps) : ∃ k x : Nat, v = .agg #[.int .u8 (k : Int), .int .u64 (x : Int)] ∧ k < 256 ∧ x < 18446744073709551616 := by
  have ce : Tryd.prog.cellsOf 32 = 2 := by kernel_rfl
  have k0 : Tryd.prog.cellsOf 5 = 1 := by kernel_rfl
  have k1 : Tryd.prog.cellsOf 30 = 1 := by kernel_rfl
  unfold Value.okWide at hv
  rw [Tryd.underlying32] at hv
  obtain ⟨cs, rfl, hs, _⟩ := hv
  rw [ce] at hs
  obtain ⟨fuel, hf⟩ := h
  obtain ⟨y0, y1, n, g0, g1⟩ := struct2 Tryd.underlying32 hf
  obtain ⟨l⟩ := cs
  match l, hs with
  | [v0, v1], _ =>
    simp [k0, k1, Value.cells] at g0 g1
    obtain ⟨z0, hz0, _, w0⟩ := DataW.trod_int Tryd.underlying5 g0
    obtain ⟨z1, hz1, _, w1⟩ := DataW.trod_int Tryd.underlying30 g1
    have h0 := wf_u8 w0
    have h1 := wf_u64 w1
    obtain ⟨z0, rfl⟩ := Int.eq_ofNat_of_zero_le h0.1
    obtain ⟨z1, rfl⟩ := Int.eq_ofNat_of_zero_le h1.1
    obtain rfl : v0 = .int .u8 (z0 : Int) := by simpa using hz0
    obtain rfl : v1 = .int .u64 (z1 : Int) := by simpa using hz1
    exact ⟨z0, z1, rfl, by have := h0.2; omega, by have := h1.2; omega⟩
end
end Go.Proofs.YthdcagdjgkblpaaDoor.led
