/-
  GENERAL, MORE: slices by their cells ('VS'). Of no program.
-/
import Derived.Test.YtfckokdgmbbheaaGen2
set_option linter.unusedVariables false
namespace Go.Lm
open Go Go.RowKit Go.ChangeShapes Go.WideShapes

/-- The slice value v, whose elements are one cell each, holds the values l. -/
def VS (w : World) (v : Value) (l : List Value) : Prop :=
  ∃ a cap, v = .slice a l.length cap ∧ l.length ≤ cap ∧ cap ≤ maxLen ∧ (a = none → cap = 0) ∧ ∀ k (h : k < l.length), ∃ b off, a = some ⟨b, off, none⟩ ∧ w.cell? ⟨b, off + k, none⟩ = some l[k]

theorem VS.lt {w : World} {v : Value} {l : List Value} (h : VS w v l) (hn : l ≠ []) {c : Nat} (hc : v.ownBlock = some c) : c < w.heap.size := by
  obtain ⟨a, cap, rfl, h1, h2, h3, h4⟩ := h
  obtain ⟨b, off, rfl, hcell⟩ := h4 0 (by cases l <;> simp_all)
  simp [Value.ownBlock] at hc
  subst hc
  exact World.block_lt_of_cell? w _ hcell
theorem VS.kept {w w' : World} {v : Value} {l : List Value} (h : VS w v l) (hk : ∀ p u, v.ownBlock = some p.block → l ≠ [] → w.cell? p = some u → w'.cell? p = some u) : VS w' v l := by
  obtain ⟨a, cap, rfl, h1, h2, h3, h4⟩ := h
  refine ⟨a, cap, rfl, h1, h2, h3, fun k hl => ?_⟩
  obtain ⟨b, off, rfl, hc⟩ := h4 k hl
  exact ⟨b, off, rfl, hk _ _ rfl (by intro e; subst e; simp at hl) hc⟩
theorem VS.only {S : List Nat} {w w' : World} {v : Value} {l : List Value} (h : VS w v l) (ho : Only S w w') (hn : ∀ b, v.ownBlock = some b → l ≠ [] → b ∉ S) : VS w' v l :=
  h.kept fun _ _ hb hne hc => ho.cell hc (hn _ hb hne)
theorem VS.nil (w : World) : VS w (.slice none 0 0) [] := ⟨none, 0, rfl, Nat.le_refl _, Nat.zero_le _, fun _ => rfl, fun k h => by simp at h⟩
theorem VS.of_block {w : World} {b : Nat} {cs : Array Value} {e : TypeId} {fr : Nat × Nat} (h : w.heap[b]? = some (.cells cs e fr)) (n cap : Nat) (l : List Value) (hn : n = l.length) (hl : l = cs.toList.take n) (h1 : n ≤ cap) (h2 : cap ≤ maxLen) :
    VS w (.slice (some ⟨b, 0, none⟩) n cap) l := by
  subst hn
  refine ⟨some ⟨b, 0, none⟩, cap, rfl, h1, h2, fun h => by simp at h, fun k hk => ⟨b, 0, rfl, ?_⟩⟩
  rw [Nat.zero_add, cell_of_row w b k cs e fr h]
  have : l[k] = (cs.toList.take l.length)[k]'(by rw [← hl]; exact hk) := by congr 1
  rw [this]
  simp
theorem BS.of_vs {w : World} {v : Value} {l : List UInt8} (h : VS w v (l.map u8v)) : BS w v l := by
  obtain ⟨a, cap, rfl, h1, h2, h3, h4⟩ := h
  simp only [List.length_map] at *
  exact ⟨a, cap, rfl, h1, h2, h3, fun k hk => by
    obtain ⟨b, off, ha, hc⟩ := h4 k hk
    exact ⟨b, off, ha, by rw [hc]; simp [u8v]⟩⟩
theorem VS.of_bs {w : World} {v : Value} {l : List UInt8} (h : BS w v l) : VS w v (l.map u8v) := by
  obtain ⟨a, cap, rfl, h1, h2, h3, h4⟩ := h
  exact ⟨a, cap, by simp, by simpa using h1, h2, h3, fun k hk => by
    obtain ⟨b, off, ha, hc⟩ := h4 k (by simpa using hk)
    exact ⟨b, off, ha, by rw [hc]; simp [u8v]⟩⟩
theorem VS.sub {w : World} {a : Option Addr} {n cap : Nat} {l : List Value} (h : VS w (.slice a n cap) l) (lo hi : Nat) (h1 : lo ≤ hi) (h2 : hi ≤ l.length) : VS w (subv a cap lo hi) ((l.take hi).drop lo) := by
  obtain ⟨a', cap', he, h3, h4, h5, h6⟩ := h
  simp only [Value.slice.injEq] at he
  obtain ⟨rfl, rfl, rfl⟩ := he
  have hlen : ((l.take hi).drop lo).length = hi - lo := by simp; omega
  refine ⟨if cap = lo then a else a.map (·.add lo), cap - lo, by rw [hlen]; rfl, by omega, by omega, fun hn => ?_, fun k hk => ?_⟩
  · have : a = none := by
      by_cases hc : cap = lo
      · rw [if_pos hc] at hn; exact hn
      · rw [if_neg hc] at hn; simpa using hn
    have := h5 this; omega
  · rw [hlen] at hk
    obtain ⟨b, off, rfl, hc⟩ := h6 (lo + k) (by omega)
    refine ⟨b, off + lo, ?_, ?_⟩
    · rw [if_neg (by omega)]; simp [add_none]
    · rw [Nat.add_assoc, hc]; simp
/-- A slice of integers. -/
def i64s (l : List Int) : List Value := l.map (Value.int .i64)
def u32s (l : List Int) : List Value := l.map (Value.int .u32)
theorem i64s_one (l : List Int) : (i64s l).toArray.all (·.oneCell') = true := by
  rw [Array.all_eq_true_iff_forall_mem]
  intro x hx
  simp only [i64s, List.mem_toArray, List.mem_map] at hx
  obtain ⟨n, _, rfl⟩ := hx
  rfl
theorem VS.i64_at {w : World} {a : Option Addr} {n cap : Nat} {l : List Int} (h : VS w (.slice a n cap) (i64s l)) (k : Nat) (hk : k < l.length) : ∃ b off, a = some ⟨b, off, none⟩ ∧ w.cell? ⟨b, off + k, none⟩ = some (.int .i64 (l.getD k 0)) := by
  obtain ⟨a', cap', he, _, _, _, h6⟩ := h
  simp only [Value.slice.injEq] at he
  obtain ⟨rfl, _, _⟩ := he
  obtain ⟨b, off, ha, hc⟩ := h6 k (by simpa [i64s] using hk)
  exact ⟨b, off, ha, by rw [hc]; simp [i64s, List.getD_eq_getElem?_getD, hk]⟩
theorem VS.u32_at {w : World} {a : Option Addr} {n cap : Nat} {l : List Int} (h : VS w (.slice a n cap) (u32s l)) (k : Nat) (hk : k < l.length) : ∃ b off, a = some ⟨b, off, none⟩ ∧ w.cell? ⟨b, off + k, none⟩ = some (.int .u32 (l.getD k 0)) := by
  obtain ⟨a', cap', he, _, _, _, h6⟩ := h
  simp only [Value.slice.injEq] at he
  obtain ⟨rfl, _, _⟩ := he
  obtain ⟨b, off, ha, hc⟩ := h6 k (by simpa [u32s] using hk)
  exact ⟨b, off, ha, by rw [hc]; simp [u32s, List.getD_eq_getElem?_getD, hk]⟩
end Go.Lm
