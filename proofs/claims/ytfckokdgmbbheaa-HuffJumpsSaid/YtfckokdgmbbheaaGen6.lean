/-
  GENERAL, MORE: which block an append's result lies in. Of no program.
-/
import Derived.Test.YtfckokdgmbbheaaGen5
set_option linter.unusedVariables false
namespace Go.Lm
open Go Go.RowKit Go.ChangeShapes Go.WideShapes

section
variable {P : Program}
/-- 'append(v, x...)', v one's own: what results lies in v's block, or in a new one. -/
theorem append_block {w : World} {B : Nat} {t ty e : TypeId} {i : TypeInfo} {z : Value} {bytes : Nat} (ht : P.underlying t = some (.slice e)) (hi : P.info? e = some i) (hz : i.zero = some z) (hsize : i.size = 1) (hby : i.bytes = bytes) (hzs : z.cells.size = 1)
    {v x : Value} {l m : List Value} (hown : OV w B e v l) (hx : VS w x m) (h1 : ∀ u ∈ m, u.oneCell' = true) (h63 : l.length + m.length ≤ maxLen) (hbytes : (l.length + m.length) * bytes ≤ 140737488355328)
    {v' : Value} {w' : World} (hrun : (Builtin.append_ #[t, t] ty #[v, x]).run P w = .ok v' w') : ∀ g, v'.ownBlock = some g → v.ownBlock = some g ∨ w.heap.size ≤ g := by
  obtain ⟨a, cap, rfl, _, _, ha, hc⟩ := hx
  cases a with
  | none =>
    have hm : m = [] := by
      cases m with
      | nil => rfl
      | cons u m => obtain ⟨_, _, h, _⟩ := hc 0 (by simp); simp at h
    subst hm
    obtain rfl := ha rfl
    have h2 := run_append_owned_none w B t ty e i 1 ht hi v l.length l hown
    rw [show ([] : List Value).length = 0 from rfl] at hrun
    rw [h2] at hrun
    have : v = v' := by injection hrun
    subst this
    exact fun g hg => .inl hg
  | some ad =>
    have hnews : ∀ j u, m[j]? = some u → w.cell? (ad.add j) = some u := by
      intro j u hj
      obtain ⟨hjl, rfl⟩ := List.getElem?_eq_some_iff.1 hj
      obtain ⟨b, off, he, hcell⟩ := hc j hjl
      obtain rfl := Option.some.inj he
      rw [add_none, hcell]
    have hsmall : l.length + m.length ≤ 9223372036854775807 := by unfold maxLen at h63; omega
    rcases hown.2 with ⟨rfl, h0⟩ | ⟨g, cap', cur, rfl, hbg, hg, hnc, hcm, hcs, htake⟩
    · have hl0 : l = [] := List.eq_nil_of_length_eq_zero (by simpa using h0)
      subst hl0
      obtain ⟨v2, w2, hr2, ho2, _, _⟩ := run_append_own (P := P) w w.heap.size t ty e i z 1 bytes ht hi hz hsize hby hzs (by decide) (.slice none 0 0) 0 [] (World.ownsRow_nil w w.heap.size e 1) ad m.length cap m (by simp) hnews h1 (by simpa using h63) (by simpa using hbytes) (Nat.le_refl _)
      rw [hr2] at hrun
      have : v2 = v' := by injection hrun
      subst this
      exact fun g hg => .inr (World.ownsRow.lt ho2 g hg).1
    · by_cases hroom : l.length + m.length ≤ cap'
      · have hfit : l.length * i.size + m.length ≤ cur.size := by rw [hsize, Nat.mul_one, hcs, Nat.mul_one]; exact hroom
        have hr := run_append_room (P := P) w t ty e i ht hi g l.length cap' cur hg ad m.length cap m (by rw [hsize]; simp) hnews h1 hroom hfit
        rw [hr] at hrun
        injection hrun with e1 _
        subst e1
        exact fun k hk => .inl hk
      · have holds : ∀ j u, l[j]? = some u → w.cell? ((⟨g, 0, none⟩ : Addr).add j) = some u := World.ownsRow.cells hown (g := g) rfl
        have hr := run_append_grow (P := P) w t ty e i z ht hi hz ⟨g, 0, none⟩ l.length cap' l (by rw [hsize]; simp) holds ad m.length cap m (by rw [hsize]; simp) hnews (by omega) (by omega) (by rw [hby]; exact growslice_fits (by omega) hbytes)
        rw [hr] at hrun
        injection hrun with e1 _
        subst e1
        intro k hk
        simp only [Value.ownBlock, Option.some.injEq] at hk
        exact .inr (by omega)
theorem append_block_one {w : World} {B : Nat} {t ty e : TypeId} {i : TypeInfo} {z : Value} {bytes : Nat} (ht : P.underlying t = some (.slice e)) (hi : P.info? e = some i) (hz : i.zero = some z) (hsize : i.size = 1) (hby : i.bytes = bytes) (hzs : z.cells.size = 1)
    {v : Value} {l : List Value} {u : Value} (hown : OV w B e v l) (h1 : u.oneCell' = true) (h63 : l.length + 1 ≤ maxLen) (hbytes : (l.length + 1) * bytes ≤ 140737488355328) {T : TypeId} {fr : Nat × Nat}
    {v' : Value} {w' : World} (hrun : (Builtin.append_ #[t, t] ty #[v, .slice (some ⟨w.heap.size, 0, none⟩) 1 1]).run P (w.alloc (.cells #[u] T fr)) = .ok v' w') : ∀ g, v'.ownBlock = some g → v.ownBlock = some g ∨ w.heap.size ≤ g := by
  have hv : VS (w.alloc (.cells #[u] T fr)) (.slice (some ⟨w.heap.size, 0, none⟩) 1 1) [u] := VS.of_block (heap_alloc_new w _) 1 1 [u] rfl rfl (Nat.le_refl _) (by unfold maxLen; omega)
  intro g hg
  rcases append_block ht hi hz hsize hby hzs (hown.kept fun c hc => Below.heap_alloc w _ _ (hown.lt hc).2) hv (by simpa using h1) (by simpa using h63) (by simpa using hbytes) hrun g hg with h | h
  · exact .inl h
  · simp at h; exact .inr (by omega)
end
end Go.Lm
