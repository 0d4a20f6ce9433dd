/-
  Digests, rows of digests, manifests, opened.
-/
import Derived.Test.YtpgcfpfmicghnaaDoorMrkTwo
import Derived.Deep.Slices
import Derived.ChangeArms
set_option linter.unusedVariables false
set_option linter.unusedSimpArgs false
namespace Go.Proofs.YtpgcfpfmicghnaaDoor.mrk
open Go Go.RowKit Go.Lm Go.ChangeShapes Go.WideShapes Go.Proofs.YtpgcfpfmicghnaaDoor.sha

section
variable {H : Type} {enc : TypeId × Value → H}
theorem k8 : Tryd.prog.cellsOf 5 = 1 := by kernel_rfl
theorem kS : Tryd.prog.cellsOf 25 = 32 := by kernel_rfl
theorem sum_of_trod {W : World} {base fuel : Nat} {cs : List Value} {x : DataW H × List MemPlace} (h : DataW.trod enc Tryd.prog W base (fun _ => true) true fuel 25 cs = some x) : ∃ d : List UInt8, d.length = 32 ∧ cs = d.map u8v := by
  cases fuel with
  | zero => simp [DataW.trod] at h
  | succ n =>
    unfold DataW.trod at h
    rw [Tryd.underlying25] at h
    simp only [kS, k8] at h
    split at h
    case isFalse => cases h
    rename_i hl
    cases hm : (List.range 32).mapM (fun i => DataW.trod enc Tryd.prog W base (fun _ => true) true n 5 ((cs.drop (i * 1)).take 1)) with
    | none => rw [hm] at h; cases h
    | some xs =>
      have hx : ∀ i, i < 32 → ∃ u : UInt8, cs[i]? = some (u8v u) := fun i hi => by
        have hlen := mapM_some_length hm
        have hg := mapM_some_get hm i i (by simp [hi])
        have hi2 : i < xs.length := by rw [hlen]; simpa using hi
        rw [List.getElem?_eq_getElem hi2] at hg
        obtain ⟨z, hz, _, wz⟩ := DataW.trod_int Tryd.underlying5 hg
        have hb := wf_u8 wz
        obtain ⟨u, hu, _⟩ := u8_of hb.1 (by omega)
        refine ⟨u, ?_⟩
        rw [← hu]
        have hic : i < cs.length := by omega
        rw [Nat.mul_one, List.take_one, List.head?_drop, List.getElem?_eq_getElem hic] at hz
        rw [List.getElem?_eq_getElem hic]
        simpa using hz
      obtain ⟨f, hf⟩ := Deep.choose_lt (α := UInt8) (p := fun i u => cs[i]? = some (u8v u)) hx
      refine ⟨(List.range 32).map f, by simp, ?_⟩
      apply List.ext_getElem?
      intro i
      by_cases hi : i < 32
      · rw [hf i hi]; simp [hi]
      · rw [List.getElem?_eq_none (by omega), List.getElem?_eq_none (by simp; omega)]
theorem sum_opened {W : World} {v : Value} {d : DataW H} {ps : List MemPlace} {base : Nat} (hv : Value.okWide Tryd.prog W .any base 25 v)
    (h : DataW.Trod enc Tryd.prog W 0 (fun _ => true) true 25 v d ps) : ∃ l : List UInt8, l.length = 32 ∧ v = dv l := by
  unfold Value.okWide at hv
  rw [Tryd.underlying25] at hv
  obtain ⟨cs, rfl, hs, _⟩ := hv
  obtain ⟨fuel, hf⟩ := h
  obtain ⟨l, hl, hc⟩ := sum_of_trod hf
  refine ⟨l, hl, ?_⟩
  unfold dv
  rw [← hc]
  simp [Value.cells]
theorem sums_of_trod {W : World} {base fuel : Nat} {u : Value} {x : DataW H × List MemPlace} (h : DataW.trod enc Tryd.prog W base (fun _ => true) true fuel 22 [u] = some x) : ∃ ds, DS W u ds := by
  rcases Deep.open_slice Tryd.underlying22 h with ⟨hcs, _⟩ | ⟨a, len, cap, m, n, D, Pl, hcs, _, hl, hm, hmm, _, hel⟩
  · have : u = .slice none 0 0 := by simpa using hcs
    subst this
    exact ⟨[], DS.nil W⟩
  · have : u = .slice (some a) len cap := by simpa using hcs
    subst this
    simp only [if_true] at hmm
    rw [kS] at hel
    have hel2 : ∀ i, i < len → ∃ d : List UInt8, d.length = 32 ∧ ∀ j v, (d.map u8v)[j]? = some v → W.cell? (a.add (i * 32 + j)) = some v := fun i hi => by
      obtain ⟨cs', h1, h2⟩ := hel i (by omega)
      obtain ⟨d, hd, rfl⟩ := sum_of_trod h2
      refine ⟨d, hd, fun j v hj => ?_⟩
      have h3 := (World.cells?_some h1).2.2 j
      rw [Deep.add_add] at h3
      have hj2 : j < 32 := by have := (List.getElem?_eq_some_iff.1 hj).1; simpa [hd] using this
      rw [← hj]
      first | exact h3 hj2 | exact h3
    obtain ⟨f, hf⟩ := Deep.choose_lt (α := List UInt8) (p := fun i d => d.length = 32 ∧ ∀ j v, (d.map u8v)[j]? = some v → W.cell? (a.add (i * 32 + j)) = some v) hel2
    refine ⟨(List.range len).map f, some a, cap, by simp, by simpa using hl, hm, fun h => by simp at h, fun d hd => ?_, fun i hi => ?_⟩
    · obtain ⟨i, hi, rfl⟩ := List.mem_map.1 hd
      exact (hf i (List.mem_range.1 hi)).1
    · simp only [List.length_map, List.length_range] at hi
      have h0 := hf 0 (by omega)
      have hl0 : 0 < (f 0).length := by omega
      have hc0 := h0.2 0 (u8v (f 0)[0]) (by simp [hl0])
      have ha : a = ⟨a.block, a.off, none⟩ := addr_of_cell (by simpa [Addr.add] using hc0)
      refine ⟨a.block, a.off, by rw [← ha], fun j v hj => ?_⟩
      simp only [List.getElem_map, List.getElem_range] at hj
      have h1 := (hf i hi).2 j v hj
      rw [ha, add_none] at h1
      rw [show a.off + 32 * i + j = a.off + (i * 32 + j) by omega]
      exact h1
theorem sums_opened {W : World} {v : Value} {d : DataW H} {ps : List MemPlace} {base : Nat} (hv : Value.okWide Tryd.prog W .any base 22 v)
    (h : DataW.Trod enc Tryd.prog W 0 (fun _ => true) true 22 v d ps) : ∃ ds, DS W v ds := by
  obtain ⟨a0, len, cap, rfl⟩ := okWide_slice Tryd.underlying22 hv
  obtain ⟨fuel, hf⟩ := h
  exact sums_of_trod hf
theorem manifest_opened {W : World} {v : Value} {d : DataW H} {ps : List MemPlace} {base : Nat} (hv : Value.okWide Tryd.prog W .any base 35 v)
    (h : DataW.Trod enc Tryd.prog W 0 (fun _ => true) true 35 v d ps) : ∃ (s p : Nat) (u : Value) (ds : List (List UInt8)), v = .agg #[.int .u64 (s : Nat), .int .u32 (p : Nat), u] ∧ DS W u ds ∧ s < 18446744073709551616 ∧ p < 4294967296 := by
  have ce : Tryd.prog.cellsOf 35 = 3 := by kernel_rfl
  have k1 : Tryd.prog.cellsOf 32 = 1 := by kernel_rfl
  have k2 : Tryd.prog.cellsOf 33 = 1 := by kernel_rfl
  have k3 : Tryd.prog.cellsOf 22 = 1 := by kernel_rfl
  unfold Value.okWide at hv
  rw [Tryd.underlying35] at hv
  obtain ⟨cs, rfl, hs, _⟩ := hv
  rw [ce] at hs
  obtain ⟨fuel, hf⟩ := h
  obtain ⟨xs, n, _, _, hl, hlen, hfs⟩ := DataW.trod_struct Tryd.underlying35 hf
  obtain ⟨l⟩ := cs
  match l, hs, xs, hlen with
  | [v0, v1, v2], _, [y0, y1, y2], _ =>
    have g0 := hfs 0 _ rfl
    have g1 := hfs 1 _ rfl
    have g2 := hfs 2 _ rfl
    simp [k1, k2, k3, Value.cells] at g0 g1 g2
    obtain ⟨z0, hz0, _, w0⟩ := DataW.trod_int Tryd.underlying32 g0
    obtain ⟨z1, hz1, _, w1⟩ := DataW.trod_int Tryd.underlying33 g1
    obtain ⟨ds, hds⟩ := sums_of_trod g2
    have h0 := wf_u64 w0
    have h1 := wf_u32 w1
    obtain ⟨z0, rfl⟩ := Int.eq_ofNat_of_zero_le h0.1
    obtain ⟨z1, rfl⟩ := Int.eq_ofNat_of_zero_le h1.1
    obtain rfl : v0 = .int .u64 (z0 : Int) := by simpa using hz0
    obtain rfl : v1 = .int .u32 (z1 : Int) := by simpa using hz1
    exact ⟨z0, z1, v2, ds, rfl, hds, by omega, by omega⟩
end
end Go.Proofs.YtpgcfpfmicghnaaDoor.mrk
