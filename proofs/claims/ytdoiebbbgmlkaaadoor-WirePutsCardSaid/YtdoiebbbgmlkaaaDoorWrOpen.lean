/-
  A message, opened.
-/
import Derived.Test.YtdoiebbbgmlkaaaDoorWrAwake
import Derived.Deep.Slices
import Derived.ChangeArms
set_option linter.unusedVariables false
namespace Go.Proofs.YtdoiebbbgmlkaaaDoor.wr
open Go Go.RowKit Go.Lm Go.ChangeShapes Go.WideShapes

section
variable {H : Type} {enc : TypeId × Value → H}
theorem struct7 {P : Program} {w : World} {base : Nat} {spare : Nat → Bool} {held : Bool} {t : TypeId} {f0 f1 f2 f3 f4 f5 f6 : Field} {fuel : Nat} {cs : List Value} {x : DataW H × List MemPlace} (ht : P.underlying t = some (.struct #[f0, f1, f2, f3, f4, f5, f6])) (h : DataW.trod enc P w base spare held fuel t cs = some x) :
    ∃ y0 y1 y2 y3 y4 y5 y6 n, DataW.trod enc P w base spare held n f0.type ((cs.drop f0.offset).take (P.cellsOf f0.type)) = some y0 ∧
      DataW.trod enc P w base spare held n f1.type ((cs.drop f1.offset).take (P.cellsOf f1.type)) = some y1 ∧
      DataW.trod enc P w base spare held n f2.type ((cs.drop f2.offset).take (P.cellsOf f2.type)) = some y2 ∧
      DataW.trod enc P w base spare held n f3.type ((cs.drop f3.offset).take (P.cellsOf f3.type)) = some y3 ∧
      DataW.trod enc P w base spare held n f4.type ((cs.drop f4.offset).take (P.cellsOf f4.type)) = some y4 ∧
      DataW.trod enc P w base spare held n f5.type ((cs.drop f5.offset).take (P.cellsOf f5.type)) = some y5 ∧
      DataW.trod enc P w base spare held n f6.type ((cs.drop f6.offset).take (P.cellsOf f6.type)) = some y6 := by
  obtain ⟨xs, n, _, rfl, hl, hlen, hf⟩ := DataW.trod_struct ht h
  match xs, hlen with
  | [y0, y1, y2, y3, y4, y5, y6], _ => exact ⟨y0, y1, y2, y3, y4, y5, y6, n, by simpa using hf 0 f0 rfl, by simpa using hf 1 f1 rfl, by simpa using hf 2 f2 rfl, by simpa using hf 3 f3 rfl, by simpa using hf 4 f4 rfl, by simpa using hf 5 f5 rfl, by simpa using hf 6 f6 rfl⟩
theorem msg_opened {W : World} {v : Value} {d : DataW H} {ps : List MemPlace} {base : Nat} (hv : Value.okWide Tryd.prog W .any base 26 v)
    (h : DataW.Trod enc Tryd.prog W 0 (fun _ => true) true 26 v d ps) : ∃ (m : Wr.Msg) (u : Value), v = msgV m u ∧ BS W u m.bytes ∧ Wr.Ok m := by
  have ce : Tryd.prog.cellsOf 26 = 7 := by kernel_rfl
  have k0 : Tryd.prog.cellsOf 5 = 1 := by kernel_rfl
  have k1 : Tryd.prog.cellsOf 22 = 1 := by kernel_rfl
  have k2 : Tryd.prog.cellsOf 23 = 1 := by kernel_rfl
  have k3 : Tryd.prog.cellsOf 24 = 1 := by kernel_rfl
  unfold Value.okWide at hv
  rw [Tryd.underlying26] at hv
  obtain ⟨cs, rfl, hs, _⟩ := hv
  rw [ce] at hs
  obtain ⟨fuel, hf⟩ := h
  obtain ⟨y0, y1, y2, y3, y4, y5, y6, n, g0, g1, g2, g3, g4, g5, g6⟩ := struct7 Tryd.underlying26 hf
  obtain ⟨l⟩ := cs
  match l, hs with
  | [v0, v1, v2, v3, v4, v5, v6], _ =>
    simp [k0, k1, k2, k3, Value.cells] at g0 g1 g2 g3 g4 g5 g6
    obtain ⟨z0, hz0, _, w0⟩ := DataW.trod_int Tryd.underlying5 g0
    obtain ⟨z1, hz1, _, w1⟩ := DataW.trod_int Tryd.underlying22 g1
    obtain ⟨z2, hz2, _, w2⟩ := DataW.trod_int Tryd.underlying22 g2
    obtain ⟨z3, hz3, _, w3⟩ := DataW.trod_int Tryd.underlying23 g3
    obtain ⟨z4, hz4, _, w4⟩ := DataW.trod_int Tryd.underlying23 g4
    obtain ⟨z5, hz5, _, w5⟩ := DataW.trod_int Tryd.underlying23 g5
    obtain ⟨bs, hbs⟩ := BS.of_trod Tryd.underlying24 Tryd.underlying5 k0 g6
    have h0 := wf_u8 w0
    have h1 := wf_u64 w1
    have h2 := wf_u64 w2
    have h3 := wf_u32 w3
    have h4 := wf_u32 w4
    have h5 := wf_u32 w5
    obtain ⟨z0, rfl⟩ := Int.eq_ofNat_of_zero_le h0.1
    obtain ⟨z1, rfl⟩ := Int.eq_ofNat_of_zero_le h1.1
    obtain ⟨z2, rfl⟩ := Int.eq_ofNat_of_zero_le h2.1
    obtain ⟨z3, rfl⟩ := Int.eq_ofNat_of_zero_le h3.1
    obtain ⟨z4, rfl⟩ := Int.eq_ofNat_of_zero_le h4.1
    obtain ⟨z5, rfl⟩ := Int.eq_ofNat_of_zero_le h5.1
    obtain rfl : v0 = .int .u8 (z0 : Int) := by simpa using hz0
    obtain rfl : v1 = .int .u64 (z1 : Int) := by simpa using hz1
    obtain rfl : v2 = .int .u64 (z2 : Int) := by simpa using hz2
    obtain rfl : v3 = .int .u32 (z3 : Int) := by simpa using hz3
    obtain rfl : v4 = .int .u32 (z4 : Int) := by simpa using hz4
    obtain rfl : v5 = .int .u32 (z5 : Int) := by simpa using hz5
    exact ⟨⟨z0, z1, z2, z3, z4, z5, bs⟩, v6, rfl, hbs, ⟨by show z0 < 256; omega, by show z1 < 18446744073709551616; omega, by show z2 < 18446744073709551616; omega, by show z3 < 4294967296; omega, by show z4 < 4294967296; omega, by show z5 < 4294967296; omega⟩⟩
end
end Go.Proofs.YtdoiebbbgmlkaaaDoor.wr
