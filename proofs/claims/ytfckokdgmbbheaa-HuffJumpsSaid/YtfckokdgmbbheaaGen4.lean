/-
  GENERAL, MORE: append to a slice of one's own; a clone. Of no program.
-/
import Derived.Test.YtfckokdgmbbheaaGen3
import Derived.Deep.AppendSrc
set_option linter.unusedVariables false
namespace Go.Lm
open Go Go.RowKit Go.ChangeShapes Go.WideShapes

/-- The slice value v is the call's own from block B on, and holds the values l (one cell each, of type e). -/
def OV (w : World) (B : Nat) (e : TypeId) (v : Value) (l : List Value) : Prop := w.ownsRow B e 1 v l.length l

theorem OV.nil (w : World) (B : Nat) (e : TypeId) : OV w B e (.slice none 0 0) [] := World.ownsRow_nil w B e 1
theorem OV.lt {w : World} {B : Nat} {e : TypeId} {v : Value} {l : List Value} (h : OV w B e v l) {c : Nat} (hc : v.ownBlock = some c) : B ≤ c ∧ c < w.heap.size := World.ownsRow.lt h c hc
theorem OV.kept {w w' : World} {B : Nat} {e : TypeId} {v : Value} {l : List Value} (h : OV w B e v l) (hk : ∀ c, v.ownBlock = some c → w'.heap[c]? = w.heap[c]?) : OV w' B e v l := by
  refine ⟨h.1, ?_⟩
  rcases h.2 with hn | ⟨g, cap, cur, rfl, hb, hg, rest⟩
  · exact .inl hn
  · exact .inr ⟨g, cap, cur, rfl, hb, by rw [hk g rfl]; exact hg, rest⟩
theorem OV.only {S : List Nat} {w w' : World} {B : Nat} {e : TypeId} {v : Value} {l : List Value} (h : OV w B e v l) (ho : Only S w w') (hn : ∀ c, v.ownBlock = some c → c ∉ S) : OV w' B e v l :=
  h.kept fun c hc => ho.block c (h.lt hc).2 (hn c hc)
theorem OV.mono {w : World} {B B' : Nat} {e : TypeId} {v : Value} {l : List Value} (h : OV w B e v l) (hB : B' ≤ B) : OV w B' e v l := by
  refine ⟨h.1, ?_⟩
  rcases h.2 with hn | ⟨g, cap, cur, rfl, hb, rest⟩
  · exact .inl hn
  · exact .inr ⟨g, cap, cur, rfl, Nat.le_trans hB hb, rest⟩
theorem OV.vs {w : World} {B : Nat} {e : TypeId} {v : Value} {l : List Value} (h : OV w B e v l) : VS w v l := by
  rcases h.2 with ⟨rfl, h0⟩ | ⟨g, cap, cur, rfl, _, hg, h1, h2, h3, h4⟩
  · have : l = [] := List.eq_nil_of_length_eq_zero h0
    subst this; exact VS.nil w
  · exact VS.of_block hg _ _ l rfl (by rw [Nat.mul_one] at h4; exact h4.symm) h1 h2
theorem OV.slice {w : World} {B : Nat} {e : TypeId} {v : Value} {l : List Value} (h : OV w B e v l) : ∃ a cap, v = .slice a l.length cap ∧ l.length ≤ cap ∧ cap ≤ maxLen := by
  obtain ⟨a, cap, rfl, h1, h2, _⟩ := h.vs
  exact ⟨a, cap, rfl, h1, h2⟩

section
variable {P : Program}
/-- 'append(v, x...)', v one's own, x a slice that is read. -/
theorem run_append_vs {w : World} {B : Nat} {t ty e : TypeId} {i : TypeInfo} {z : Value} {bytes : Nat} (ht : P.underlying t = some (.slice e)) (hi : P.info? e = some i) (hz : i.zero = some z) (hsize : i.size = 1) (hby : i.bytes = bytes) (hzs : z.cells.size = 1)
    {v x : Value} {l m : List Value} (hown : OV w B e v l) (hx : VS w x m) (h1 : ∀ u ∈ m, u.oneCell' = true) (h63 : l.length + m.length ≤ maxLen) (hbytes : (l.length + m.length) * bytes ≤ 140737488355328) (hbase : B ≤ w.heap.size) :
    ∃ v' w', (Builtin.append_ #[t, t] ty #[v, x]).run P w = .ok v' w' ∧ OV w' B e v' (l ++ m) ∧ w.grownBy w' v.ownBlock := by
  obtain ⟨a, cap, rfl, _, _, ha, hc⟩ := hx
  cases a with
  | none =>
    have hm : m = [] := by
      cases m with
      | nil => rfl
      | cons u m => obtain ⟨_, _, h, _⟩ := hc 0 (by simp); simp at h
    subst hm
    obtain rfl := ha rfl
    refine ⟨v, w, run_append_owned_none w B t ty e i 1 ht hi v l.length l hown, by simpa [OV] using hown, ⟨rfl, rfl, rfl, Nat.le_refl _, fun _ _ _ => rfl⟩⟩
  | some ad =>
    have hnews : ∀ j u, m[j]? = some u → w.cell? (ad.add j) = some u := by
      intro j u hj
      obtain ⟨hjl, rfl⟩ := List.getElem?_eq_some_iff.1 hj
      obtain ⟨b, off, he, hcell⟩ := hc j hjl
      obtain rfl := Option.some.inj he
      rw [add_none, hcell]
    obtain ⟨v', w', hrun, ho, hg, _⟩ := run_append_own (P := P) w B t ty e i z 1 bytes ht hi hz hsize hby hzs (by decide) v l.length l hown ad m.length cap m (by simp) hnews h1 h63 hbytes hbase
    have ho' : OV w' B e v' (l ++ m) := by unfold OV; rw [List.length_append]; exact ho
    exact ⟨v', w', hrun, ho', hg⟩
/-- 'append(v, x)' of one element, one's own: it is first laid in a new block. -/
theorem run_append_one {w : World} {B : Nat} {t ty e : TypeId} {i : TypeInfo} {z : Value} {bytes : Nat} (ht : P.underlying t = some (.slice e)) (hi : P.info? e = some i) (hz : i.zero = some z) (hsize : i.size = 1) (hby : i.bytes = bytes) (hzs : z.cells.size = 1)
    {v : Value} {l : List Value} {u : Value} (hown : OV w B e v l) (h1 : u.oneCell' = true) (h63 : l.length + 1 ≤ maxLen) (hbytes : (l.length + 1) * bytes ≤ 140737488355328) (hbase : B ≤ w.heap.size) {T : TypeId} {fr : Nat × Nat} :
    ∃ v' w', (Builtin.append_ #[t, t] ty #[v, .slice (some ⟨w.heap.size, 0, none⟩) 1 1]).run P (w.alloc (.cells #[u] T fr)) = .ok v' w' ∧ OV w' B e v' (l ++ [u]) ∧ (w.alloc (.cells #[u] T fr)).grownBy w' v.ownBlock := by
  have hv : VS (w.alloc (.cells #[u] T fr)) (.slice (some ⟨w.heap.size, 0, none⟩) 1 1) [u] := VS.of_block (heap_alloc_new w _) 1 1 [u] rfl rfl (Nat.le_refl _) (by unfold maxLen; omega)
  exact run_append_vs ht hi hz hsize hby hzs (hown.kept fun c hc => Below.heap_alloc w _ _ (hown.lt hc).2) hv (by simpa using h1) (by simpa using h63) (by simpa using hbytes) (by simp; omega)

/-- An append whose run is known, met in a walk: '(at_builtin; refine wpList_append_run rfl _ _ _ rfl rfl rfl hrun ?_)'. -/
theorem wpList_append_run {ops : Array Oper} {rest : List Oper} {o : Oper} {a : Act} {w w' : World} {Q : Exit → Act → World → Prop} (hgd : o.guard = none) (s x : Operand) (t : TypeId)
    (ho : o.op = .call { callee := .builtin .append, args := #[s, x], argTypes := #[t, t] }) {v xv v' : Value} (hs : a.eval s = v) (hx : a.eval x = xv)
    (hr : (Builtin.append_ #[t, t] o.type #[v, xv]).run P w = .ok v' w') (h : wpList P ops Q rest (a.put o.dst v') w') : wpList P ops Q (o :: rest) a w := by
  refine wpList_plain hgd fun K hK => ?_
  unfold Oper.wp execOp
  simp only [ho, resolve, invoke, builtin, Sem.run_bind, Sem.run_pure, Result.andThen_ok, List.map_toArray, List.map_cons, List.map_nil, hs, hx, hr]
  exact hK _ _ h

/-- slices.Clone's 'append(s[:0:0], s...)'. -/
theorem run_append_clone {w : World} {t ty e : TypeId} {i : TypeInfo} {z : Value} {bytes : Nat} (ht : P.underlying t = some (.slice e)) (hi : P.info? e = some i) (hz : i.zero = some z) (hsize : i.size = 1) (hby : i.bytes = bytes) (hzs : z.cells.size = 1)
    {a : Option Addr} {n cap : Nat} {l : List Value} (hx : VS w (.slice a n cap) l) (h1 : ∀ u ∈ l, u.oneCell' = true) (h63 : l.length ≤ maxLen) (hbytes : l.length * bytes ≤ 140737488355328) (hne : l ≠ []) :
    ∃ v' w', (Builtin.append_ #[t, t] ty #[.slice a 0 0, .slice a n cap]).run P w = .ok v' w' ∧ OV w' w.heap.size e v' l ∧ w.grownBy w' none := by
  obtain ⟨a', cap', he, h2, h3, h4, hc⟩ := hx
  simp only [Value.slice.injEq] at he
  obtain ⟨rfl, rfl, rfl⟩ := he
  obtain ⟨b, off, rfl, _⟩ := hc 0 (by cases l <;> simp_all)
  have hnews : ∀ j u, l[j]? = some u → w.cell? ((⟨b, off, none⟩ : Addr).add j) = some u := by
    intro j u hj
    obtain ⟨hjl, rfl⟩ := List.getElem?_eq_some_iff.1 hj
    obtain ⟨b', off', he, hcell⟩ := hc j hjl
    obtain ⟨rfl, rfl⟩ : b = b' ∧ off = off' := by simpa using he
    rw [add_none, hcell]
  have hpos : 0 < l.length := List.length_pos_iff.2 hne
  obtain ⟨v', w', hrun, ho, hg⟩ := run_append_arg_grows (P := P) w t ty e i z 1 bytes ht hi hz hsize hby hzs (by decide) ⟨b, off, none⟩ 0 0 [] (by simp) (by simp) ⟨b, off, none⟩ l.length cap l (by simp) hnews (by omega) (by omega) (by rw [Nat.zero_add]; exact hbytes)
  simp only [Nat.zero_add, List.nil_append] at ho
  exact ⟨v', w', hrun, ho, hg⟩
end
end Go.Lm
