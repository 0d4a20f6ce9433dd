/-
  A script, opened: []Act.
-/
import Derived.Test.YtlheknaddecdaaaCurLaws
import Derived.Deep.Slices
import Derived.ChangeArms
set_option linter.unusedVariables false
namespace Go.Proofs.Ytlheknaddecdaaa.cur
open Go Go.RowKit Go.Lm Go.ChangeShapes Go.WideShapes

structure ActL where
  num : Bool
  n : Int
  x : Nat
  b : List UInt8
  deriving Inhabited
/-- One act's cells. -/
structure ActAt (w : World) (b off : Nat) (t : ActL) : Prop where
  c0 : w.cell? ⟨b, off, none⟩ = some (.bool t.num)
  c1 : w.cell? ⟨b, off + 1, none⟩ = some (.int .i64 t.n)
  c2 : w.cell? ⟨b, off + 2, none⟩ = some (.int .u64 (t.x : Int))
  c3 : ∃ a cap, w.cell? ⟨b, off + 3, none⟩ = some (.slice a t.b.length cap) ∧ BS w (.slice a t.b.length cap) t.b
  n0 : -9223372036854775808 ≤ t.n
  n1 : t.n ≤ 9223372036854775807
  hx : t.x < 18446744073709551616
def ACTS (w : World) (v : Value) (ts : List ActL) : Prop :=
  ∃ a cap, v = .slice a ts.length cap ∧ ts.length ≤ cap ∧ cap ≤ maxLen ∧ ∀ k (h : k < ts.length), ∃ b off, a = some ⟨b, off, none⟩ ∧ ActAt w b (off + k * 4) ts[k]
theorem ActAt.kept {w w' : World} {b off : Nat} {t : ActL} (h : ActAt w b off t) (hk : ∀ k, k < w.heap.size → w'.heap[k]? = w.heap[k]?) : ActAt w' b off t := by
  have hcell : ∀ {p : Addr} {u : Value}, w.cell? p = some u → w'.cell? p = some u := by
    intro p u hc
    have hlt := World.block_lt_of_cell? w _ hc
    unfold World.cell? at hc ⊢
    rw [hk _ hlt]; exact hc
  obtain ⟨a, cap, h3, h4⟩ := h.c3
  exact ⟨hcell h.c0, hcell h.c1, hcell h.c2, ⟨a, cap, hcell h3, h4.kept fun p u _ _ hc => hcell hc⟩, h.n0, h.n1, h.hx⟩
theorem ActAt.lt {w : World} {b off : Nat} {t : ActL} (h : ActAt w b off t) : b < w.heap.size := World.block_lt_of_cell? w _ h.c0

section
variable {H : Type} {enc : TypeId × Value → H}
theorem struct4 {P : Program} {w : World} {base : Nat} {spare : Nat → Bool} {held : Bool} {t : TypeId} {f0 f1 f2 f3 : Field} {fuel : Nat} {cs : List Value} {x : DataW H × List MemPlace} (ht : P.underlying t = some (.struct #[f0, f1, f2, f3])) (h : DataW.trod enc P w base spare held fuel t cs = some x) :
    ∃ y0 y1 y2 y3 n, DataW.trod enc P w base spare held n f0.type ((cs.drop f0.offset).take (P.cellsOf f0.type)) = some y0 ∧
      DataW.trod enc P w base spare held n f1.type ((cs.drop f1.offset).take (P.cellsOf f1.type)) = some y1 ∧ DataW.trod enc P w base spare held n f2.type ((cs.drop f2.offset).take (P.cellsOf f2.type)) = some y2 ∧
      DataW.trod enc P w base spare held n f3.type ((cs.drop f3.offset).take (P.cellsOf f3.type)) = some y3 := by
  obtain ⟨xs, n, _, rfl, hl, hlen, hf⟩ := DataW.trod_struct ht h
  match xs, hlen with
  | [y0, y1, y2, y3], _ => exact ⟨y0, y1, y2, y3, n, by simpa using hf 0 f0 rfl, by simpa using hf 1 f1 rfl, by simpa using hf 2 f2 rfl, by simpa using hf 3 f3 rfl⟩
theorem act_of_trod {W : World} {base fuel : Nat} {cs : List Value} {x : DataW H × List MemPlace} {a : Addr} (hc : W.cells? base a (Try.prog.cellsOf 32) = some cs)
    (hf : DataW.trod enc Try.prog W base (fun _ => true) true fuel 32 cs = some x) : ∃ t, ActAt W a.block a.off t ∧ a = ⟨a.block, a.off, none⟩ := by
  have ce : Try.prog.cellsOf 32 = 4 := by kernel_rfl
  rw [ce] at hc
  obtain ⟨_, hlen, hcell⟩ := World.cells?_some hc
  obtain ⟨y0, y1, y2, y3, n, g0, g1, g2, g3⟩ := struct4 Try.underlying32 hf
  match cs, hlen with
  | [v0, v1, v2, v3], _ =>
    have k0 : Try.prog.cellsOf 4 = 1 := by kernel_rfl
    have k1 : Try.prog.cellsOf 3 = 1 := by kernel_rfl
    have k2 : Try.prog.cellsOf 30 = 1 := by kernel_rfl
    have k3 : Try.prog.cellsOf 22 = 1 := by kernel_rfl
    have k4 : Try.prog.cellsOf 5 = 1 := by kernel_rfl
    simp [k0, k1, k2, k3] at g0 g1 g2 g3
    have e0 := hcell 0 (by omega)
    have e1 := hcell 1 (by omega)
    have e2 := hcell 2 (by omega)
    have e3 := hcell 3 (by omega)
    have ha : a = ⟨a.block, a.off, none⟩ := addr_of_cell (by simpa [Addr.add] using e0)
    obtain ⟨b0, hb0, _⟩ := DataW.trod_bool Try.underlying4 g0
    obtain ⟨z1, hz1, _, w1⟩ := DataW.trod_int Try.underlying3 g1
    obtain ⟨z2, hz2, _, w2⟩ := DataW.trod_int Try.underlying30 g2
    obtain ⟨l, hl⟩ := BS.of_trod Try.underlying22 Try.underlying5 k4 g3
    have h1 := wf_i64 w1
    have h2 := wf_u64 w2
    obtain ⟨z2, rfl⟩ := Int.eq_ofNat_of_zero_le h2.1
    obtain ⟨a3, cap3, rfl, _⟩ := id hl
    obtain rfl : v0 = .bool b0 := by simpa using hb0
    obtain rfl : v1 = .int .i64 z1 := by simpa using hz1
    obtain rfl : v2 = .int .u64 z2 := by simpa using hz2
    rw [ha] at e0 e1 e2 e3
    rw [add_none] at e0 e1 e2 e3
    exact ⟨⟨b0, z1, z2, l⟩, ⟨e0, e1, e2, ⟨a3, cap3, e3, hl⟩, h1.1, h1.2, by have := h2.2; show z2 < _; omega⟩, ha⟩

theorem ACTS.opened {W : World} {v : Value} {d : DataW H} {ps : List MemPlace} {base : Nat} (hv : Value.okWide Try.prog W .any base 23 v)
    (h : DataW.Trod enc Try.prog W 0 (fun _ => true) true 23 v d ps) : ∃ ts, ACTS W v ts := by
  obtain ⟨a0, len, cap, rfl⟩ := okWide_slice Try.underlying23 hv
  obtain ⟨fuel, hf⟩ := h
  have ce : Try.prog.cellsOf 32 = 4 := by kernel_rfl
  rcases Deep.open_slice Try.underlying23 hf with ⟨hcs, _⟩ | ⟨a, len', cap', m, n, D, Pl, hcs, _, hl, hm, hmm, _, hel⟩
  · have : a0 = none ∧ len = 0 ∧ cap = 0 := by simpa [Value.cells] using hcs
    obtain ⟨rfl, rfl, rfl⟩ := this
    exact ⟨[], none, 0, rfl, Nat.le_refl _, Nat.zero_le _, fun k h => by simp at h⟩
  · have : a0 = some a ∧ len = len' ∧ cap = cap' := by simpa [Value.cells] using hcs
    obtain ⟨rfl, rfl, rfl⟩ := this
    simp only [if_true] at hmm
    obtain ⟨f, hf'⟩ := Deep.choose_lt (n := len) (p := fun i t => ActAt W a.block (a.off + i * 4) t ∧ a = ⟨a.block, a.off, none⟩) (fun i hi => by
      obtain ⟨cs', h1, h2⟩ := hel i (by omega)
      obtain ⟨t, ht, ha⟩ := act_of_trod h1 h2
      rw [ce] at ht ha
      obtain ⟨t0, ht0, ha0⟩ := (fun (cs' : List Value) h1 h2 => act_of_trod (cs := cs') h1 h2) _ (hel 0 (by omega)).choose_spec.1 (hel 0 (by omega)).choose_spec.2
      have ha1 : a = ⟨a.block, a.off, none⟩ := by simpa [Addr.add] using ha0
      refine ⟨t, ?_, ha1⟩
      rw [ha1] at ht
      rw [add_none] at ht
      exact ht)
    refine ⟨(List.range len).map f, some a, cap, by simp, by simpa using hl, hm, fun k hk => ?_⟩
    simp only [List.length_map, List.length_range] at hk
    obtain ⟨h1, h2⟩ := hf' k hk
    exact ⟨a.block, a.off, by rw [← h2], by simpa using h1⟩
end
end Go.Proofs.Ytlheknaddecdaaa.cur
