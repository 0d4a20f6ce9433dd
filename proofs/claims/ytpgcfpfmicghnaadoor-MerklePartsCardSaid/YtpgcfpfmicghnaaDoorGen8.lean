/-
  GENERAL, MORE: append to what '[]byte(s)' made. Of no program.
-/
import Derived.Test.YtpgcfpfmicghnaaDoorGen7
import Derived.ArgAppend
set_option linter.unusedVariables false
namespace Go.Lm
open Go Go.RowKit Go.ChangeShapes Go.WideShapes

/-- The slice value v lies at the head of a block from B on whose cells may all be written, and holds l. -/
def CV (w : World) (B : Nat) (e : TypeId) (v : Value) (l : List Value) : Prop :=
  ∃ g cap cur fr, v = .slice (some ⟨g, 0, none⟩) l.length cap ∧ B ≤ g ∧ w.heap[g]? = some (.cells cur e fr) ∧ l.length ≤ cap ∧ cap ≤ maxLen ∧ cap ≤ cur.size ∧ cur.toList.take l.length = l ∧ ∀ k, k < cap → w.frozen? ⟨g, k, none⟩ = false

theorem CV.vs {w : World} {B : Nat} {e : TypeId} {v : Value} {l : List Value} (h : CV w B e v l) : VS w v l := by
  obtain ⟨g, cap, cur, fr, rfl, _, hg, h1, h2, h3, h4, h5⟩ := h
  exact VS.of_block hg _ _ l rfl h4.symm h1 h2
theorem CV.lt {w : World} {B : Nat} {e : TypeId} {v : Value} {l : List Value} (h : CV w B e v l) : ∀ c, v.ownBlock = some c → B ≤ c ∧ c < w.heap.size := by
  obtain ⟨g, cap, cur, fr, rfl, hB, hg, _⟩ := h
  intro c hc
  simp [Value.ownBlock] at hc
  subst hc
  exact ⟨hB, lt_of_block hg⟩
theorem CV.slice {w : World} {B : Nat} {e : TypeId} {v : Value} {l : List Value} (h : CV w B e v l) : ∃ g cap, v = .slice (some ⟨g, 0, none⟩) l.length cap ∧ B ≤ g ∧ g < w.heap.size ∧ l.length ≤ cap ∧ cap ≤ maxLen := by
  obtain ⟨g, cap, cur, fr, rfl, hB, hg, h1, h2, _⟩ := h
  exact ⟨g, cap, rfl, hB, lt_of_block hg, h1, h2⟩
theorem CV.only {S : List Nat} {w w' : World} {B : Nat} {e : TypeId} {v : Value} {l : List Value} (h : CV w B e v l) (ho : Only S w w') (hn : ∀ c, v.ownBlock = some c → c ∉ S) : CV w' B e v l := by
  obtain ⟨g, cap, cur, fr, rfl, hB, hg, h1, h2, h3, h4, h5⟩ := h
  have hg' := ho.heap hg (hn g rfl)
  refine ⟨g, cap, cur, fr, rfl, hB, hg', h1, h2, h3, h4, fun k hk => ?_⟩
  have := h5 k hk
  simp only [World.frozen?, hg] at this
  simp only [World.frozen?, hg']
  exact this
theorem heap_setCells' {b : Nat} {t : TypeId} {fr : Nat × Nat} : ∀ (vs : List Value) (o : Nat) (w : World) (cs : List Value), w.heap[b]? = some (.cells cs.toArray t fr) → o + vs.length ≤ cs.length → (w.setCells b o vs).heap[b]? = some (.cells (splice cs o vs).toArray t fr)
  | [], o, w, cs, h, _ => by rw [World.setCells, h]; simp [splice]
  | v :: r, o, w, cs, h, hl => by
    rw [World.setCells]
    simp only [List.length_cons] at hl
    have h1 : (w.setCell ⟨b, o, none⟩ v).heap[b]? = some (.cells (cs.set o v).toArray t fr) := by
      rw [heap_setCell_same h]; congr 2; apply Array.toList_inj.1; simp
    rw [heap_setCells' r (o + 1) _ _ h1 (by simp; omega)]
    congr 3
    simp only [splice, List.length_cons]
    have ho : o < cs.length := by omega
    rw [List.set_eq_take_append_cons_drop, if_pos ho]
    have e1 : (cs.take o).length = o := by simp; omega
    rw [List.take_append, e1, show o + 1 - o = 1 by omega, List.take_of_length_le (show (cs.take o).length ≤ o + 1 by omega)]
    rw [List.drop_append, e1, List.drop_eq_nil_of_le (show (cs.take o).length ≤ o + 1 + r.length by omega), List.nil_append]
    rw [show o + 1 + r.length - o = r.length + 1 by omega, List.drop_succ_cons, List.drop_drop]
    simp only [List.take_succ_cons, List.take_zero, List.append_assoc, List.singleton_append]
    rw [show o + 1 + r.length = o + (r.length + 1) by omega, List.cons_append]

section
variable {P : Program}
/-- 'append(v, u)' of one element. -/
theorem run_append_cv {w : World} {B : Nat} {t ty e : TypeId} {i : TypeInfo} {z : Value} {bytes : Nat} (ht : P.underlying t = some (.slice e)) (hi : P.info? e = some i) (hz : i.zero = some z) (hsize : i.size = 1) (hby : i.bytes = bytes) (hzs : z.cells.size = 1)
    {v : Value} {l : List Value} {u : Value} (hcv : CV w B e v l) (h1 : u.oneCell' = true) (h63 : l.length + 1 ≤ maxLen) (hbytes : (l.length + 1) * bytes ≤ 140737488355328) (hB : B ≤ w.heap.size) {T : TypeId} {fr : Nat × Nat} :
    ∃ v' w', (Builtin.append_ #[t, t] ty #[v, .slice (some ⟨w.heap.size, 0, none⟩) 1 1]).run P (w.alloc (.cells #[u] T fr)) = .ok v' w' ∧ CV w' B e v' (l ++ [u]) ∧ Only v.ownBlock.toList w w' := by
  obtain ⟨g, cap, cur, fr', rfl, hBg, hg, hn1, hn2, hn3, hn4, hn5⟩ := hcv
  have hlt := lt_of_block hg
  have hal : Only [] w (w.alloc (.cells #[u] T fr)) := (Only.refl _ _).alloc _
  have hg' := hal.heap hg (by simp)
  have hcell : (w.alloc (.cells #[u] T fr)).cell? ⟨w.heap.size, 0, none⟩ = some u := by rw [cell_of_row _ _ _ _ _ _ (heap_alloc_new w _)]; rfl
  have hnews : ∀ j x, [u][j]? = some x → (w.alloc (.cells #[u] T fr)).cell? ((⟨w.heap.size, 0, none⟩ : Addr).add j) = some x := by
    intro j x hj
    have : j = 0 := by have := (List.getElem?_eq_some_iff.1 hj).1; simpa using this
    subst this
    simp at hj
    subst hj
    exact hcell
  by_cases hroom : l.length + 1 ≤ cap
  · have hr := run_append_room_cells (P := P) (w := w.alloc (.cells #[u] T fr)) t ty e i ht hi g 0 l.length cap ⟨w.heap.size, 0, none⟩ 1 1 [u] (by rw [hsize]; rfl) hnews (by simpa using h1) hroom
      (fun j hj => by
        have : j = 0 := by simpa using hj
        subst this
        rw [cell_of_row _ _ _ _ _ _ hg', hsize]
        simp; omega)
      (fun j hj => by
        have : j = 0 := by simpa using hj
        subst this
        have := hn5 l.length (by omega)
        simp only [World.frozen?, hg] at this
        simp only [World.frozen?, hg', hsize]
        simpa using this)
    rw [hsize] at hr
    refine ⟨_, _, hr, ?_, ?_⟩
    · have hh := heap_setCells' [u] (0 + l.length * 1) _ cur.toList (by simpa using hg') (by simp; omega)
      refine ⟨g, cap, _, fr', by simp, hBg, hh, by simpa using hroom, hn2, ?_, ?_, fun k hk => ?_⟩
      · simp [splice]; omega
      · simp only [splice, Nat.zero_add, Nat.mul_one, List.length_append, List.length_cons, List.length_nil]
        rw [hn4, ← List.append_assoc, List.take_append_of_le_length (by simp), List.take_of_length_le (by simp)]
      · rw [World.frozen?_setCells]
        have := hn5 k hk
        simp only [World.frozen?, hg] at this
        simp only [World.frozen?, hg']
        exact this
    · exact only_setCells _ _ (hal.mono (by simp)) (.inl (by simp [Value.ownBlock]))
  · have hsmall : l.length + 1 ≤ 9223372036854775807 := by unfold maxLen at h63; omega
    have holds : ∀ j x, l[j]? = some x → (w.alloc (.cells #[u] T fr)).cell? ((⟨g, 0, none⟩ : Addr).add j) = some x := by
      intro j x hj
      rw [add_none, Nat.zero_add, cell_of_row _ _ _ _ _ _ hg', ← hj]
      have hjl := (List.getElem?_eq_some_iff.1 hj).1
      conv => rhs; rw [← hn4]
      rw [List.getElem?_take, if_pos hjl]; simp
    obtain ⟨v', w', hrun, ho, hgr⟩ := run_append_arg_grows (P := P) (w := w.alloc (.cells #[u] T fr)) (ty := ty) t e i z 1 bytes ht hi hz hsize hby hzs (by decide) ⟨g, 0, none⟩ l.length cap l (by simp) holds ⟨w.heap.size, 0, none⟩ 1 1 [u] (by simp) hnews (by omega) hsmall (by simpa using hbytes)
    refine ⟨v', w', hrun, ?_, ?_⟩
    · have hov : OV w' (w.alloc (.cells #[u] T fr)).heap.size e v' (l ++ [u]) := by unfold OV; rw [List.length_append]; exact ho
      rcases hov.2 with ⟨_, hc⟩ | ⟨g2, cap2, cur2, rfl, hb2, hg2, hc1, hc2, hc3, hc4⟩
      · simp at hc
      · refine ⟨g2, cap2, cur2, (0, 0), rfl, by simp at hb2; omega, hg2, hc1, hc2, by omega, by simpa using hc4, fun k _ => by simp [World.frozen?, hg2]⟩
    · have h2 : Only [] _ w' := Only.of_grown hgr
      exact (hal.then h2).mono (by simp)

/-- '[]byte(s)'. -/
theorem run_new_cv {w : World} {B : Nat} {src dst e : TypeId} (s : ByteArray) (hs : P.underlying src = some .string) (hd : P.underlying dst = some (.slice e)) (he : P.underlying e = some (.int .u8)) (hm : s.size ≤ maxLen) (hB : B ≤ w.heap.size) :
    ∃ v' w', (convert src dst (.string s)).run P w = .ok v' w' ∧ CV w' B e v' (s.data.toList.map u8v) ∧ Only [] w w' := by
  refine ⟨_, _, Lib.run_convert_string_bytes w src dst e s hs hd he, ?_, ?_⟩
  · refine ⟨w.heap.size, grownCap w s.size 0 e, _, _, by simp, hB, Lib.bytesWorld_at_new w e s, by simpa [len_data] using grownCap_ge w s.size 0 e, grownCap_le_maxLen w s.size 0 e hm, ?_, ?_, fun k hk => ?_⟩
    · have hge := grownCap_ge w s.size 0 e
      have hd : s.data.size = s.size := rfl
      simp only [Lib.bytesCells, Array.size_append, Array.size_map, Array.size_replicate]
      omega
    · have hd : s.data.toList.length = s.size := len_data s
      simp only [Lib.bytesCells, Array.toList_append, Array.toList_map, List.length_map]
      rw [List.take_append_of_le_length (by simp only [List.length_map]; omega), List.take_of_length_le (by simp only [List.length_map]; omega)]
      rfl
    · simp only [World.frozen?, Lib.bytesWorld_at_new]
      have hge := grownCap_ge w s.size 0 e
      have hd : s.data.size = s.size := rfl
      have : k < (Lib.bytesCells w e s).size := by simp only [Lib.bytesCells, Array.size_append, Array.size_map, Array.size_replicate]; omega
      simp; omega
  · exact ⟨by simp [Lib.bytesWorld, World.freeze, World.alloc, World.drew, -World.alloc_eq, -World.drew_eq], by simp [Lib.bytesWorld, World.freeze, World.alloc, World.drew, -World.alloc_eq, -World.drew_eq], by simp [Lib.bytesWorld, World.freeze, World.alloc, World.drew, -World.alloc_eq, -World.drew_eq],
      by rw [Lib.bytesWorld_size]; omega, fun k hk _ => Lib.bytesWorld_at_old w e s k hk⟩
end
end Go.Lm
