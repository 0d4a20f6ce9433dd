/-
  THE WALKS of Pieces: clones, NewPieces, Count, Have.
-/
import Derived.Test.YtidkadlmnidmoaaArqIdx
set_option linter.unusedVariables false
set_option linter.unusedSimpArgs false
namespace Go.Proofs.Ytidkadlmnidmoaa.arq
open Go Go.RowKit Go.Lm

theorem info_u8 : (Try.prog.info? 5).map (fun i => (i.zero, i.size, i.bytes)) = some (some (.int .u8 0), 1, 1) := by kernel_rfl
theorem info_bool : (Try.prog.info? 4).map (fun i => (i.zero, i.size, i.bytes)) = some (some (.bool false), 1, 1) := by kernel_rfl
theorem info_bytes : (Try.prog.info? 30).map (fun i => (i.zero, i.size, i.bytes)) = some (some (.slice none 0 0), 1, 24) := by kernel_rfl
theorem u8s_one (l : List UInt8) : ∀ u ∈ l.map u8v, u.oneCell' = true := by
  intro u hu
  obtain ⟨x, _, rfl⟩ := List.mem_map.1 hu
  rfl
theorem bl_one (l : List Bool) : ∀ u ∈ bl l, u.oneCell' = true := by
  intro u hu
  obtain ⟨x, _, rfl⟩ := List.mem_map.1 hu
  rfl
theorem bl_length (l : List Bool) : (bl l).length = l.length := by simp [bl]
theorem OV.isSlice {w : World} {B : Nat} {e : TypeId} {v : Value} {l : List Value} (h : OV w B e v l) : ∃ a n c, v = .slice a n c := by
  obtain ⟨a, cap, h, _⟩ := h.slice
  exact ⟨_, _, _, h⟩

set_option maxHeartbeats 400000 in
theorem clone_c (w : World) (v : Value) (l : List UInt8) (hv : BS w v l) (hl : l.length ≤ 140737488355328) : Calls Try.prog 24 #[v] w fun e w' => ∃ v', e = .returned v' ∧ OV w' w.heap.size 5 v' (l.map u8v) ∧ Only [] w w' := by
  obtain ⟨i0, hi, hz0, hz1, hz2⟩ := info_parts info_u8
  have HI := Lib.hid hi; have HZ0 := Lib.hid hz0; have HZ1 := Lib.hid hz1; have HZ2 := Lib.hid hz2
  clear hi hz0 hz1 hz2
  have HV := Lib.hid hv
  obtain ⟨a, cap, rfl, h1, h2, h3, h4⟩ := hv
  have H4 := Lib.hid h4; clear h4
  cases a with
  | none =>
    obtain rfl := h3 rfl
    obtain rfl : l = [] := by cases l <;> simp_all
    have he : ∀ w : World, (binOp .eql 30 (.slice none 0 0) (.slice none 0 0)).run Try.prog w = .ok (.bool true) w := fun _ => rfl
    go_enter Try.func24, Try.ntmps24
    go_wp2
    go_ret
    exact ⟨_, rfl, OV.nil _ _ _, Only.refl _ _⟩
  | some ad =>
    have hov : OV (w.alloc (.cells #[] 5)) w.heap.size 5 (.slice (some ⟨w.heap.size, 0, none⟩) 0 0) [] := World.ownsRow_lit w #[] 0 (Nat.le_refl _) (Nat.zero_le _) rfl
    obtain ⟨v', w', hrun, hov', hg⟩ := run_append_vs (P := Try.prog) (ty := 30) Try.underlying30 HI.out HZ0.out HZ1.out HZ2.out rfl hov (VS.of_bs (HV.out.only ((Only.refl [] w).alloc _) (by simp))) (u8s_one l) (by simp; omega) (by simp; omega) (by simp)
    have ho : Only [] w w' := ((Only.refl [] w).alloc (.cells #[] 5)).trans (Only.of_grown hg) (by simp) (by simp [Value.ownBlock])
    rw [List.nil_append] at hov'
    have HOV := Lib.hid hov'; have HO := Lib.hid ho; have HRUN := Lib.hid hrun
    clear hov hov' hg ho hrun
    have he : ∀ w : World, (binOp .eql 30 (.slice (some ad) l.length cap) (.slice none 0 0)).run Try.prog w = .ok (.bool false) w := fun _ => rfl
    go_enter Try.func24, Try.ntmps24
    go_wp2_with (at_builtin; refine wpList_append_run rfl _ _ _ rfl rfl rfl HRUN.out ?_)
    go_ret
    exact ⟨_, rfl, HOV.out, HO.out⟩

set_option maxHeartbeats 400000 in
theorem cloneb_c (w : World) (v : Value) (l : List Bool) (hv : VS w v (bl l)) (hl : l.length ≤ 140737488355328) : Calls Try.prog 27 #[v] w fun e w' => ∃ v', e = .returned v' ∧ OV w' w.heap.size 4 v' (bl l) ∧ Only [] w w' := by
  obtain ⟨i0, hi, hz0, hz1, hz2⟩ := info_parts info_bool
  have HI := Lib.hid hi; have HZ0 := Lib.hid hz0; have HZ1 := Lib.hid hz1; have HZ2 := Lib.hid hz2
  clear hi hz0 hz1 hz2
  have HV := Lib.hid hv
  obtain ⟨a, cap, rfl, h1, h2, h3, h4⟩ := hv
  have H4 := Lib.hid h4; clear h4
  rw [bl_length] at h1 HV ⊢
  cases a with
  | none =>
    obtain rfl := h3 rfl
    obtain rfl : l = [] := by cases l <;> simp_all
    have he : ∀ w : World, (binOp .eql 22 (.slice none 0 0) (.slice none 0 0)).run Try.prog w = .ok (.bool true) w := fun _ => rfl
    go_enter Try.func27, Try.ntmps27
    go_wp2
    go_ret
    exact ⟨_, rfl, OV.nil _ _ _, Only.refl _ _⟩
  | some ad =>
    have hov : OV (w.alloc (.cells #[] 4)) w.heap.size 4 (.slice (some ⟨w.heap.size, 0, none⟩) 0 0) [] := World.ownsRow_lit w #[] 0 (Nat.le_refl _) (Nat.zero_le _) rfl
    obtain ⟨v', w', hrun, hov', hg⟩ := run_append_vs (P := Try.prog) (ty := 22) Try.underlying22 HI.out HZ0.out HZ1.out HZ2.out rfl hov (HV.out.only ((Only.refl [] w).alloc _) (by simp)) (bl_one l) (by simp [bl_length]; omega) (by simp [bl_length]; omega) (by simp)
    have ho : Only [] w w' := ((Only.refl [] w).alloc (.cells #[] 4)).trans (Only.of_grown hg) (by simp) (by simp [Value.ownBlock])
    rw [List.nil_append] at hov'
    have HOV := Lib.hid hov'; have HO := Lib.hid ho; have HRUN := Lib.hid hrun
    clear hov hov' hg ho hrun
    have he : ∀ w : World, (binOp .eql 22 (.slice (some ad) l.length cap) (.slice none 0 0)).run Try.prog w = .ok (.bool false) w := fun _ => rfl
    go_enter Try.func27, Try.ntmps27
    go_wp2_with (at_builtin; refine wpList_append_run rfl _ _ _ rfl rfl rfl HRUN.out ?_)
    go_ret
    exact ⟨_, rfl, HOV.out, HO.out⟩

theorem within_i_c (w : World) (x l m : Int) : Calls Try.prog 23 #[.int .i64 x, .int .i64 l, .int .i64 m] w fun e w' => e = .returned (.int .i64 (min (max x l) m)) ∧ w = w' := by
  by_cases h1 : x < l
  · rw [Int.max_eq_right (by omega)]
    by_cases h2 : m < l
    · rw [Int.min_eq_right (by omega)]
      go_enter Try.func23, Try.ntmps23
      go_wp2
      go_ret
      exact ⟨by first | rfl | simp [*], rfl⟩
    · rw [Int.min_eq_left (by omega)]
      go_enter Try.func23, Try.ntmps23
      go_wp2
      go_ret
      exact ⟨by first | rfl | simp [*], rfl⟩
  · rw [Int.max_eq_left (by omega)]
    by_cases h2 : m < x
    · rw [Int.min_eq_right (by omega)]
      go_enter Try.func23, Try.ntmps23
      go_wp2
      go_ret
      exact ⟨by first | rfl | simp [*], rfl⟩
    · rw [Int.min_eq_left (by omega)]
      go_enter Try.func23, Try.ntmps23
      go_wp2
      go_ret
      exact ⟨by first | rfl | simp [*], rfl⟩

/-- Pieces: their own block, that of the pieces, that of what came. -/
structure PC (w : World) (p rl rh : Nat) (tot each : Int) (us : List Value) (hs : List Bool) : Prop where
  own : w.heap[p]? = some (.cells #[.int .i64 tot, .int .i64 each, .slice (some ⟨rl, 0, none⟩) hs.length hs.length, .slice (some ⟨rh, 0, none⟩) hs.length hs.length] 59 (0, 0))
  row : w.heap[rl]? = some (.cells us.toArray 30 (0, 0))
  bits : w.heap[rh]? = some (.cells (bl hs).toArray 4 (0, 0))
  len : us.length = hs.length
  small : hs.length ≤ 1000000
  n1 : p ≠ rl
  n2 : p ≠ rh
  n3 : rl ≠ rh
theorem PC.only {S : List Nat} {w w' : World} {p rl rh : Nat} {tot each : Int} {us : List Value} {hs : List Bool} (h : PC w p rl rh tot each us hs) (ho : Only S w w') (h1 : p ∉ S) (h2 : rl ∉ S) (h3 : rh ∉ S) : PC w' p rl rh tot each us hs :=
  ⟨ho.heap h.own h1, ho.heap h.row h2, ho.heap h.bits h3, h.len, h.small, h.n1, h.n2, h.n3⟩
theorem PC.cells {w : World} {p rl rh : Nat} {tot each : Int} {us : List Value} {hs : List Bool} (h : PC w p rl rh tot each us hs) : w.cell? ⟨p, 0, none⟩ = some (.int .i64 tot) ∧ w.cell? ⟨p, 1, none⟩ = some (.int .i64 each) ∧
    w.cell? ⟨p, 2, none⟩ = some (.slice (some ⟨rl, 0, none⟩) hs.length hs.length) ∧ w.cell? ⟨p, 3, none⟩ = some (.slice (some ⟨rh, 0, none⟩) hs.length hs.length) := by
  have h := h.own
  refine ⟨?_, ?_, ?_, ?_⟩
  all_goals
    rw [cell_of_row _ _ _ _ _ _ h]
    rfl
theorem PC.bit {w : World} {p rl rh : Nat} {tot each : Int} {us : List Value} {hs : List Bool} (h : PC w p rl rh tot each us hs) (k : Nat) (hk : k < hs.length) : w.cell? ⟨rh, k, none⟩ = some (.bool hs[k]) := by
  have h := h.bits
  simp [World.cell?, h, hk, bl]
theorem PC.bvs {w : World} {p rl rh : Nat} {tot each : Int} {us : List Value} {hs : List Bool} (h : PC w p rl rh tot each us hs) : VS w (.slice (some ⟨rh, 0, none⟩) hs.length hs.length) (bl hs) :=
  VS.of_block h.bits _ _ _ (bl_length hs).symm (by rw [List.take_of_length_le (by simp [bl_length])]) (Nat.le_refl _) (by have := h.small; unfold maxLen; omega)
theorem PC.uvs {w : World} {p rl rh : Nat} {tot each : Int} {us : List Value} {hs : List Bool} (h : PC w p rl rh tot each us hs) : VS w (.slice (some ⟨rl, 0, none⟩) hs.length hs.length) us :=
  VS.of_block h.row _ _ _ h.len.symm (by rw [List.take_of_length_le (by have := h.len; simp; omega)]) (Nat.le_refl _) (by have := h.small; unfold maxLen; omega)
theorem PC.free {w : World} {p rl rh : Nat} {tot each : Int} {us : List Value} {hs : List Bool} (h : PC w p rl rh tot each us hs) (k : Nat) : w.frozen? ⟨rl, k, none⟩ = false ∧ w.frozen? ⟨rh, k, none⟩ = false := by
  have h1 := h.row
  have h2 := h.bits
  exact ⟨by simp [World.frozen?, h1], by simp [World.frozen?, h2]⟩

theorem count_c (w : World) (p rl rh : Nat) (tot each : Int) (us : List Value) (hs : List Bool) (h : PC w p rl rh tot each us hs) : Calls Try.prog 13 #[.pointer (some ⟨p, 0, none⟩)] w fun e w' => e = .returned (.int .i64 (hs.length : Nat)) ∧ w = w' := by
  obtain ⟨c0, c1, c2, c3⟩ := h.cells
  clear h c0 c1 c3
  go_enter Try.func13, Try.ntmps13
  go_wp2
  go_ret
  exact ⟨rfl, rfl⟩
theorem have_c (w : World) (p rl rh : Nat) (tot each : Int) (us : List Value) (hs : List Bool) (h : PC w p rl rh tot each us hs) : Calls Try.prog 14 #[.pointer (some ⟨p, 0, none⟩)] w fun e w' => ∃ v', e = .returned v' ∧ OV w' w.heap.size 4 v' (bl hs) ∧ Only [] w w' := by
  obtain ⟨c0, c1, c2, c3⟩ := h.cells
  have HV := Lib.hid h.bvs
  have hsm := h.small
  clear h c0 c1 c2
  go_enter Try.func14, Try.ntmps14
  go_wp2_with fail
  refine (cloneb_c w _ hs HV.out (by omega)).mono ?_
  rintro e w1 ⟨v', rfl, hov, ho⟩
  have HOV := Lib.hid hov; have HO := Lib.hid ho
  obtain ⟨a, n, c, rfl⟩ := OV.isSlice hov
  clear hov ho
  go_wp2
  go_ret
  exact ⟨_, rfl, HOV.out, HO.out⟩

theorem make_rows (w : World) (n : Nat) (hn : n ≤ 1000000) : (Instr.makeSlice 57 (.int .i64 (n : Int)) (.int .i64 (n : Int))).run Try.prog w =
    .ok (.slice (some ⟨w.heap.size, 0, none⟩) n n) (w.alloc (.cells (madeCells (Value.slice none 0 0).cells n) 30)) := by
  obtain ⟨i0, hi, hz0, hz1, hz2⟩ := info_parts info_bytes
  have := run_make (P := Try.prog) w 57 30 i0 (.slice none 0 0) Try.underlying57 hi hz0 .i64 .i64 n n (by omega) (by omega) (by rw [hz2]; omega) (by omega)
  simpa [hz1] using this
theorem make_bools (w : World) (n : Nat) (hn : n ≤ 1000000) : (Instr.makeSlice 22 (.int .i64 (n : Int)) (.int .i64 (n : Int))).run Try.prog w =
    .ok (.slice (some ⟨w.heap.size, 0, none⟩) n n) (w.alloc (.cells (madeCells (Value.bool false).cells n) 4)) := by
  obtain ⟨i0, hi, hz0, hz1, hz2⟩ := info_parts info_bool
  have := run_make (P := Try.prog) w 22 4 i0 (.bool false) Try.underlying22 hi hz0 .i64 .i64 n n (by omega) (by omega) (by rw [hz2]; omega) (by omega)
  simpa [hz1] using this
theorem made_rows (n : Nat) : madeCells #[Value.slice none 0 0] n = (List.replicate n (Value.slice none 0 0)).toArray := by
  apply Array.toList_inj.1
  rw [toList_madeCells_one]
theorem made_bools (n : Nat) : madeCells #[Value.bool false] n = (bl (List.replicate n false)).toArray := by
  apply Array.toList_inj.1
  rw [toList_madeCells_one]
  simp [bl]

theorem three (w : World) (A B C : Obj) : (((w.alloc A).alloc B).alloc C).heap[w.heap.size]? = some A ∧ (((w.alloc A).alloc B).alloc C).heap[w.heap.size + 1]? = some B ∧ (((w.alloc A).alloc B).alloc C).heap[w.heap.size + 1 + 1]? = some C := by
  have e1 : (w.alloc A).heap.size = w.heap.size + 1 := by simp
  have e2 : ((w.alloc A).alloc B).heap.size = w.heap.size + 1 + 1 := by simp
  refine ⟨?_, ?_, ?_⟩
  · rw [Below.heap_alloc _ _ _ (by omega), Below.heap_alloc _ _ _ (by omega)]; exact heap_alloc_new w A
  · rw [Below.heap_alloc _ _ _ (by omega)]
    have := heap_alloc_new (w.alloc A) B
    rw [e1] at this; exact this
  · have := heap_alloc_new ((w.alloc A).alloc B) C
    rw [e2] at this; exact this
theorem PC.three {w : World} (n : Nat) (tot each : Int) (hn : n ≤ 1000000) : PC (((w.alloc (.cells (List.replicate n (Value.slice none 0 0)).toArray 30)).alloc (.cells (bl (List.replicate n false)).toArray 4)).alloc
    (.cells #[.int .i64 tot, .int .i64 each, .slice (some ⟨w.heap.size, 0, none⟩) n n, .slice (some ⟨w.heap.size + 1, 0, none⟩) n n] 59)) (w.heap.size + 1 + 1) w.heap.size (w.heap.size + 1) tot each (List.replicate n (Value.slice none 0 0)) (List.replicate n false) := by
  obtain ⟨h1, h2, h3⟩ := arq.three w (.cells (List.replicate n (Value.slice none 0 0)).toArray 30) (.cells (bl (List.replicate n false)).toArray 4) (.cells #[.int .i64 tot, .int .i64 each, .slice (some ⟨w.heap.size, 0, none⟩) n n, .slice (some ⟨w.heap.size + 1, 0, none⟩) n n] 59)
  refine ⟨?_, h1, h2, by simp, by simpa using hn, by omega, by omega, by omega⟩
  rw [List.length_replicate]; exact h3
theorem PC.three' {w : World} (n : Nat) (tot each : Int) (hn : n ≤ 1000000) : PC (((w.alloc (.cells (bl (List.replicate n false)).toArray 4)).alloc (.cells (List.replicate n (Value.slice none 0 0)).toArray 30)).alloc
    (.cells #[.int .i64 tot, .int .i64 each, .slice (some ⟨w.heap.size + 1, 0, none⟩) n n, .slice (some ⟨w.heap.size, 0, none⟩) n n] 59)) (w.heap.size + 1 + 1) (w.heap.size + 1) w.heap.size tot each (List.replicate n (Value.slice none 0 0)) (List.replicate n false) := by
  obtain ⟨h1, h2, h3⟩ := arq.three w (.cells (bl (List.replicate n false)).toArray 4) (.cells (List.replicate n (Value.slice none 0 0)).toArray 30) (.cells #[.int .i64 tot, .int .i64 each, .slice (some ⟨w.heap.size + 1, 0, none⟩) n n, .slice (some ⟨w.heap.size, 0, none⟩) n n] 59)
  refine ⟨?_, h2, h1, by simp, by simpa using hn, by omega, by omega, by omega⟩
  rw [List.length_replicate]; exact h3

set_option maxHeartbeats 2000000 in
theorem newpieces_c (w : World) (tot each : Int) (n : Nat) (h0 : 0 ≤ tot) (h1 : tot ≤ 65536) (h2 : 1 ≤ each) (h3 : each ≤ 1500) (hn : (tot + each - 1) / each = (n : Int)) : Calls Try.prog 15 #[.int .i64 tot, .int .i64 each] w fun e w' => ∃ p rl rh, e = .returned (.tuple #[.pointer (some ⟨p, 0, none⟩), .int .i64 0]) ∧
    PC w' p rl rh tot each (List.replicate n (Value.slice none 0 0)) (List.replicate n false) ∧ w.heap.size ≤ p ∧ w.heap.size ≤ rl ∧ w.heap.size ≤ rh ∧ Only [] w w' := by
  have hnb : n ≤ 1000000 := by
    have : (tot + each - 1) / each ≤ tot + each - 1 := Int.ediv_le_self _ (by omega)
    omega
  have hq : (tot + each - 1).tdiv each = (n : Int) := by rw [Int.tdiv_eq_ediv_of_nonneg (by omega)]; exact hn
  have hmr := fun w => make_rows w n hnb
  have hmb := fun w => make_bools w n hnb
  clear hn
  go_enter Try.func15, Try.ntmps15
  go_wp2
  go_region
  all_goals go_wp2
  all_goals go_ret2
  · rw [made_rows, made_bools]
    exact ⟨_, _, _, rfl, (PC.three (w := w) n tot each hnb).only (Only.refl [] _).drew (by simp) (by simp) (by simp), by omega, by omega, by omega, ((((Only.refl [] w).alloc _).alloc _).alloc _).drew⟩
  · rw [made_rows, made_bools]
    exact ⟨_, _, _, rfl, (PC.three' (w := w) n tot each hnb).only (Only.refl [] _).drew (by simp) (by simp) (by simp), by omega, by omega, by omega, ((((Only.refl [] w).alloc _).alloc _).alloc _).drew⟩
end Go.Proofs.Ytidkadlmnidmoaa.arq
