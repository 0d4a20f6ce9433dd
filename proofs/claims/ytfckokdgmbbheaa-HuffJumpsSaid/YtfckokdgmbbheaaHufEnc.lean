/-
  slices.Backward: the iterator's contract; what a round keeps. Plain: the bits that are written.
  THE WALK of package huff: encode.
-/
import Derived.RangeFuncNested
import Derived.RangeFuncBound
import Derived.RangeFuncCalls
import Derived.RangeFuncLeaves
import Derived.RangeFuncBox
import Derived.Shelf.Abstract
import Derived.Shelf.RegionOpen
import Derived.WalkKit
import Derived.OwnWalkIn
import Derived.TacticsInMore
import Derived.LoopNIn
import Derived.LoopIn
import Derived.Sort.QuietIn
import Derived.Sort.CutIn
import Derived.Maps.AppendAt
import Derived.Test.YtfckokdgmbbheaaHufStream
import Derived.Test.YtfckokdgmbbheaaHufCodes
import Derived.Test.YtfckokdgmbbheaaBitClosed
import Derived.Test.YtfckokdgmbbheaaGenR
set_option linter.unusedVariables false
set_option linter.unusedSimpArgs false
namespace Go.Lm.Huf
open Go.Lm
/-- The bits of symbols, as they are written: one behind the other. -/
def ebits (l : List Nat) (d : Nat) : List Nat → List Bool
  | [] => []
  | s :: q => Bt.low (code l s) (nb l d s) ++ ebits l d q
theorem ebits_append (l : List Nat) (d : Nat) : ∀ q r : List Nat, ebits l d (q ++ r) = ebits l d q ++ ebits l d r
  | [], r => rfl
  | s :: q, r => by simp [ebits, ebits_append l d q r]
theorem enc_reverse (l : List Nat) (d : Nat) : ∀ q : List Nat, (enc l d q).reverse = ebits l d q.reverse
  | [] => rfl
  | s :: q => by
    rw [List.reverse_cons, ebits_append, ← enc_reverse l d q]
    simp [enc, ebits]
theorem ebits_length (l : List Nat) (d : Nat) (hd : d ≤ 11) : ∀ q : List Nat, (ebits l d q).length ≤ 12 * q.length
  | [] => Nat.zero_le _
  | s :: q => by
    have := ebits_length l d hd q
    simp only [ebits, List.length_append, Bt.low_length, List.length_cons]
    unfold nb
    omega
/-- The last k symbols, the last one first. -/
def lastk (l : List UInt8) (k : Nat) : List Nat := (ns l).reverse.take k
theorem lastk_succ (l : List UInt8) (k m : Nat) (h : m + k + 1 = l.length) : lastk l (k + 1) = lastk l k ++ [(l.getD m 0).toNat] := by
  unfold lastk
  rw [List.take_succ_eq_append_getElem (by rw [List.length_reverse, ns_length]; omega)]
  congr 2
  rw [List.getElem_reverse]
  have hm : m < l.length := by omega
  have e : (ns l).length - 1 - k = m := by rw [ns_length]; omega
  simp only [e]
  rw [ns_get l m hm]
  simp [List.getD_eq_getElem?_getD, hm]
theorem lastk_all (l : List UInt8) : lastk l l.length = (ns l).reverse := by
  unfold lastk
  rw [List.take_of_length_le (by rw [List.length_reverse, ns_length]; exact Nat.le_refl _)]
theorem lastk_length (l : List UInt8) (k : Nat) : (lastk l k).length ≤ k := by unfold lastk; rw [List.length_take]; omega
end Go.Lm.Huf
namespace Go.Proofs.Ytfckokdgmbbheaa.huf
open Go Go.RowKit Go.Lm Go.Shelf Go.Proofs.Ytfckokdgmbbheaa.bit

attribute [local go_sem] Oper.semAt_some

set_option maxRecDepth 100000 in
set_option maxHeartbeats 4000000 in
theorem backward1_in (n : Nat) (hn : 1 ≤ n) (l Bs : Nat) (a : Option Addr) (cap : Nat) (L : List UInt8) (hlen : L.length ≤ 1000000) (Kp : World → World → Prop)
    (hKp : ∀ A B, Kp A B → (∀ v, A.cell? ⟨Bs, 0, none⟩ = some v → B.cell? ⟨Bs, 0, none⟩ = some v) ∧ (BS A (.slice a L.length cap) L → BS B (.slice a L.length cap) L))
    (J Jx : List Nat → World → Prop)
    (hY : ∀ pre x W, J pre W → pre.length < L.length → YieldAt Fence.wide (n - 1) Try.prog l #[.int .i64 ((L.length - 1 - x : Nat) : Int), .int .u8 ((L.getD (L.length - 1 - x) 0).toNat : Int)] W fun e W' =>
      (e = .returned (.bool true) ∧ J (pre ++ [x]) W' ∧ Kp W W') ∨ (e = .returned (.bool false) ∧ Jx (pre ++ [x]) W'))
    (W : World) (hs : W.cell? ⟨Bs, 0, none⟩ = some (.slice a L.length cap)) (hv : BS W (.slice a L.length cap) L) (h0 : J [] W) :
    CallsIn Fence.wide n Try.prog 55 #[.func (.yield l) #[] #[], .pointer (some ⟨Bs, 0, none⟩)] W fun e W' => (∃ v, e = .returned v) ∧
      ((∃ ys, ys = List.range L.length ∧ J ys W') ∨ (∃ pre, (∃ k, k < L.length ∧ pre = List.range (k + 1)) ∧ Jx pre W')) := by
  have HV := Lib.hid hv
  refine callsIn_of_wp Try.func55 rfl trivial ?_ rfl
  simp only [Try.ntmps55, List.size_toArray, List.length_cons, List.length_nil, Nat.reduceAdd, Nat.reduceSub, Array.replicate_succ, Array.replicate_zero, List.push_toArray, List.append_toArray, List.nil_append, List.cons_append]
  gi_wp2
  --@1
  gi_loopw [3] (fun i wr => ∃ k q : Nat, k + q = L.length ∧ i = .int .i64 ((q : Int) - 1) ∧ J (List.range k) wr ∧ wr.cell? ⟨Bs, 0, none⟩ = some (.slice a L.length cap) ∧ BS wr (.slice a L.length cap) L)
    (fun i _ => ((intOf i) + 1).toNat)
  case atStart => exact ⟨0, L.length, by omega, rfl, h0, hs, HV.out⟩
  case round =>
    obtain ⟨k, q, hkq, rfl, hJs, hs', hv'⟩ := hrel
    have HV' := Lib.hid hv'
    clear hs h0 HV hv hv'
    by_cases hq : 0 < q
    · obtain ⟨m, rfl⟩ : ∃ m, q = m + 1 := ⟨q - 1, by omega⟩
      have hm : ((m + 1 : Nat) : Int) - 1 = (m : Int) := by omega
      rw [hm]
      have hmL : m < L.length := by omega
      obtain ⟨a', cap', he, k1, k2, k3, hc⟩ := HV'.out
      simp only [Value.slice.injEq] at he
      obtain ⟨rfl, -, rfl⟩ := he
      obtain ⟨b, off, rfl, hcell⟩ := hc m hmL
      have hidx : L.length - 1 - k = m := by omega
      have hgd : L.getD m 0 = L[m] := by simp [List.getD_eq_getElem?_getD, hmL]
      obtain ⟨fn, tmps, assign, body, hy, hR⟩ := hY (List.range k) k wr hJs (by rw [List.length_range]; omega)
      rw [hidx, hgd] at hy
      have hmI : (m : Int) < (L.length : Int) := by omega
      have hlI : (L.length : Int) ≤ 1000000 := by omega
      have hkl : Hid (k + m + 1 = L.length) := Lib.hid (by omega)
      obtain ⟨u, hu⟩ : ∃ u, L[m].toNat = u := ⟨_, rfl⟩
      have hu2 : u < 256 := by rw [← hu]; exact L[m].toNat_lt
      rw [hu] at hy hcell
      clear hc hkq hidx hgd hm hu
      --@2
      gi_wp2
      --@3
      refine hR.mono ?_
      rintro e W3 (⟨rfl, hJ3, hk3⟩ | ⟨rfl, hJx3⟩)
      · have hs3 := (hKp _ _ hk3).1 _ hs'
        have HV3 := Lib.hid ((hKp _ _ hk3).2 HV'.out)
        gi_wp2
        go_roundw
        case rel => exact ⟨k + 1, m, by have := hkl.out; omega, by go_num, by rw [List.range_succ]; exact hJ3, hs3, HV3.out⟩
        case measure => simp [intOf]
      · gi_wp2
        refine bodyPost_ret (results_none rfl _ _ _) rfl ?_
        exact ⟨⟨_, rfl⟩, .inr ⟨_, ⟨k, by have := hkl.out; omega, rfl⟩, by rw [List.range_succ]; exact hJx3⟩⟩
    · obtain rfl : q = 0 := by omega
      obtain rfl : k = L.length := by omega
      gi_wp2
      go_end0
      exact ⟨⟨_, rfl⟩, .inl ⟨_, rfl, hJs⟩⟩

set_option maxHeartbeats 1000000 in
theorem backward_c (w : World) (a : Option Addr) (len cap : Nat) : Calls Try.prog 40 #[.slice a len cap] w fun e w' =>
    e = .returned (.func (.func 55) #[] #[.pointer (some ⟨w.heap.size, 0, none⟩)]) ∧ w' = w.alloc (.cells #[.slice a len cap] 22) := by
  go_enter Try.func40, Try.ntmps40
  go_wp2
  go_ret
  exact ⟨rfl, rfl⟩
end Go.Proofs.Ytfckokdgmbbheaa.huf

set_option linter.unusedVariables false
set_option linter.unusedSimpArgs false
namespace Go.Proofs.Ytfckokdgmbbheaa.huf
open Go Go.RowKit Go.Lm Go.Shelf Go.Proofs.Ytfckokdgmbbheaa Go.Proofs.Ytfckokdgmbbheaa.bit

attribute [local go_sem] Oper.semAt_some

/-- What a round keeps: what lay ahead of the call, and three boxes. -/
structure KpE (o p : Nat) (A B : World) : Prop where
  os : B.os = A.os
  tape : B.tape = A.tape
  output : B.output = A.output
  size : A.heap.size ≤ B.heap.size
  block : ∀ k, k ≤ o ∨ k = p ∨ k = p + 1 → B.heap[k]? = A.heap[k]?
theorem KpE.refl (o p : Nat) (A : World) : KpE o p A A := ⟨rfl, rfl, rfl, Nat.le_refl _, fun _ _ => rfl⟩
theorem KpE.trans {o p : Nat} {A B C : World} (h : KpE o p A B) (k : KpE o p B C) : KpE o p A C :=
  ⟨k.os.trans h.os, k.tape.trans h.tape, k.output.trans h.output, Nat.le_trans h.size k.size, fun i hi => (k.block i hi).trans (h.block i hi)⟩
theorem KpE.grown {o p : Nat} {A B C : World} {row : Option Nat} (hp : o + 4 ≤ p) (h : KpE o p A B) (hA : p + 2 ≤ A.heap.size) (hg : B.grownBy C row) (hr : ∀ k, row = some k → p + 2 ≤ k) : KpE o p A C :=
  ⟨hg.os.trans h.os, hg.tape.trans h.tape, hg.output.trans h.output, Nat.le_trans h.size hg.size, fun i hi =>
    (hg.block i (by have := h.size; omega) (fun e => by have := hr i e.symm; omega)).trans (h.block i hi)⟩
theorem KpE.only {o p : Nat} {S : List Nat} {A B : World} (hp : o + 4 ≤ p) (hA : p + 2 ≤ A.heap.size) (ho : Only S A B) (hS : ∀ k ∈ S, k = o + 1 ∨ k = o + 2 ∨ k = o + 3 ∨ p + 2 ≤ k) : KpE o p A B :=
  ⟨ho.os, ho.tape, ho.output, ho.size, fun i hi => ho.block i (by omega) (fun hm => by have := hS i hm; omega)⟩
theorem KpE.boxed {o p b : Nat} {A B : World} {t : TypeId} {v : Value} (h : KpE o p A B) (hb : Boxed A b t v) (hk : b ≤ o ∨ b = p ∨ b = p + 1) : Boxed B b t v := (h.block b hk).trans hb
theorem boxed_grown {A B : World} {row : Option Nat} {b : Nat} {t : TypeId} {v : Value} (h : Boxed A b t v) (hg : A.grownBy B row) (hr : ∀ k, row = some k → ∃ o : Obj, A.heap[k]? = some o ∧ o.isCells = false) : Boxed B b t v :=
  h.kept hg (fun e => by
    obtain ⟨o, h1, h2⟩ := hr b e.symm
    have h3 : A.heap[b]? = some (.cells #[v] t (0, 0)) := h
    rw [h1] at h3
    cases h3
    cases h2)
theorem boxed_only {S : List Nat} {A B : World} {b : Nat} {t : TypeId} {v : Value} (h : Boxed A b t v) (ho : Only S A B) (hb : b ∉ S) : Boxed B b t v := ho.heap h hb
/-- A writer abides a turn of what is no cells. -/
theorem wb_grown {W W' : World} {B r : Nat} {L : List Bool} {row : Option Nat} (h : WB W B r L) (hg : W.grownBy W' row) (hr : ∀ k, row = some k → ∃ o : Obj, W.heap[k]? = some o ∧ o.isCells = false) : WB W' B r L ∧ wown W' r = wown W r := by
  obtain ⟨h1, v, h2, h3⟩ := h
  have hne : some r ≠ row := fun e => by
    obtain ⟨o, e1, e2⟩ := hr r e.symm
    rw [h2] at e1
    cases e1
    cases e2
  have h2' : W'.heap[r]? = some (.cells #[v, .int .i64 (L.length : Int)] 105 (0, 0)) := (hg.block r (lt_of_block h2) hne).trans h2
  refine ⟨⟨h1, v, h2', World.ownsRow.kept h3 hg ?_⟩, by rw [wown_eq h2', wown_eq h2]⟩
  cases hv : v.ownBlock with
  | none => exact .inl rfl
  | some c =>
    refine .inr (fun e => ?_)
    obtain ⟨o, e1, e2⟩ := hr c e.symm
    rcases h3.2 with ⟨e3, _⟩ | ⟨g, cap, cur, e3, _, e4, _⟩
    · rw [e3] at hv; simp [Value.ownBlock] at hv
    · rw [e3] at hv
      simp [Value.ownBlock] at hv
      subst hv
      rw [e4] at e1
      cases e1
      cases e2
/-- What is no cells lies as it lay, behind a write. -/
theorem keeps_ow {W W' : World} {B r : Nat} {L : List Bool} (h : WB W B r L) (k : OW W W' r) : KeepsOthers W W' := by
  obtain ⟨h1, v, h2, h3⟩ := h
  refine ⟨k.only.size, fun i o hi ho => ?_⟩
  refine (k.only.block i (lt_of_block hi) (fun hm => ?_)).trans hi
  rcases List.mem_cons.1 hm with rfl | hm
  · rw [h2] at hi; cases hi; cases ho
  · rw [wown_eq h2] at hm
    have hc : v.ownBlock = some i := by simpa using hm
    rcases h3.2 with ⟨e3, _⟩ | ⟨g, cap, cur, e3, _, e4, _⟩
    · rw [e3] at hc; simp [Value.ownBlock] at hc
    · rw [e3] at hc
      simp [Value.ownBlock] at hc
      subst hc
      rw [e4] at hi; cases hi; cases ho
theorem keeps_set {W : World} (b : Nat) (v : Value) (h : ∀ o : Obj, W.heap[b]? = some o → o.isCells = true) : KeepsOthers W (W.setCell ⟨b, 0, none⟩ v) :=
  ⟨by simp, fun i o hi ho => by
    refine (Below.heap_setCell _ _ _ _ (fun e => ?_)).trans hi
    subst e
    have := h o hi
    rw [this] at ho; cases ho⟩

theorem newwriter_e (w : World) : Calls Try.prog 39 #[] w fun e w' => e = .returned (.pointer (some ⟨w.heap.size, 0, none⟩)) ∧ WB w' w.heap.size w.heap.size [] ∧ wown w' w.heap.size = [] ∧ Only [] w w' := by
  go_enter Try.func39, Try.ntmps39
  go_wp2
  go_ret
  exact ⟨rfl, ⟨Nat.le_refl _, _, heap_alloc_new w _, OV.nil _ _ _⟩, by rw [wown_eq (heap_alloc_new w _)]; rfl, (Only.refl _ _).alloc _⟩
theorem wown_only {A B : World} {r Br : Nat} {L : List Bool} (h : WB A Br r L) (ho : Only [] A B) : wown B r = wown A r := by
  obtain ⟨_, v, h2, _⟩ := h
  rw [wown_eq h2, wown_eq (ho.heap h2 (by simp))]

theorem ow_only {A B : World} {r Br : Nat} {L : List Bool} (h : WB A Br r L) (ho : Only [] A B) : OW A B r := ⟨ho.mono (by simp), fun g hg => .inl (by rwa [wown_only h ho] at hg)⟩

/-- Symbol x of them, from behind. -/
def sx (q : List UInt8) (x : Nat) : Nat := (q.getD (q.length - 1 - x) 0).toNat
theorem sx_lt (q : List UInt8) (x : Nat) : sx q x < 256 := UInt8.toNat_lt _
theorem sx_all (q : List UInt8) : (List.range q.length).map (sx q) = (Huf.ns q).reverse := by
  refine List.ext_getElem (by simp [Huf.ns]) fun i h1 h2 => ?_
  simp only [List.length_map, List.length_range] at h1
  rw [List.getElem_map, List.getElem_range, List.getElem_reverse]
  have e : (Huf.ns q).length - 1 - i = q.length - 1 - i := by rw [Huf.ns_length]
  simp only [e]
  rw [Huf.ns_get q (q.length - 1 - i) (by omega)]
  unfold sx
  rw [List.getD_eq_getElem?_getD, List.getElem?_eq_getElem (by omega)]
  rfl
theorem sx_mem (q : List UInt8) (x : Nat) (h : x < q.length) : ∃ s ∈ q, s.toNat = sx q x := by
  refine ⟨q[q.length - 1 - x], List.getElem_mem _, ?_⟩
  unfold sx
  rw [List.getD_eq_getElem?_getD, List.getElem?_eq_getElem (by omega)]
  rfl
theorem sx_of (q : List UInt8) (s : UInt8) (h : s ∈ q) : ∃ x, x < q.length ∧ sx q x = s.toNat := by
  obtain ⟨i, hi, rfl⟩ := List.getElem_of_mem h
  refine ⟨q.length - 1 - i, by omega, ?_⟩
  unfold sx
  rw [show q.length - 1 - (q.length - 1 - i) = i by omega, List.getD_eq_getElem?_getD, List.getElem?_eq_getElem hi]
  rfl
instance (l : List Nat) (s : Nat) : Decidable (Huf.Okay l s) := by unfold Huf.Okay; exact inferInstance
/-- What encode makes. -/
def senc (L : List Nat) (d : Nat) (q : List UInt8) : List UInt8 × Int :=
  if ∀ s ∈ q, Huf.Okay L s.toNat then (Bt.bytesOf (Huf.ebits L d (Huf.ns q).reverse ++ [true]), 0) else ([], 1)

/-- What stands between two rounds; what stands when a round has left. -/
def IE (L : List Nat) (d : Nat) (q : List UInt8) (o p : Nat) (W0 : World) (pre : List Nat) (W : World) : Prop :=
  WB W (o + 3) (o + 3) (Huf.ebits L d (pre.map (sx q))) ∧ (∀ c ∈ wown W (o + 3), p + 2 ≤ c) ∧ (∀ x ∈ pre, Huf.Okay L (sx q x)) ∧ Boxed W (o + 1) 22 (.slice none 0 0) ∧ Boxed W (o + 2) 25 (.int .i64 0) ∧ KpE o p W0 W
def IxE (L : List Nat) (q : List UInt8) (o p : Nat) (W0 : World) (c : Code) (pre : List Nat) (W : World) : Prop :=
  c = .ret ∧ (∃ x ∈ pre, ¬ Huf.Okay L (sx q x)) ∧ Boxed W (o + 1) 22 (.slice none 0 0) ∧ Boxed W (o + 2) 25 (.int .i64 1) ∧ KpE o p W0 W
theorem IE.from {L : List Nat} {d : Nat} {q : List UInt8} {o p : Nat} {W0 : World} (hp : o + 4 ≤ p) (hA : p + 2 ≤ W0.heap.size) : OwnFrom W0.heap.size (IE L d q o p W0) := by
  intro s A B row hs hg hr
  obtain ⟨h1, h2, h3, h4, h5, h6⟩ := hs
  have hr2 : ∀ k, row = some k → ∃ o : Obj, A.heap[k]? = some o ∧ o.isCells = false := fun k e => (hr k e).2
  obtain ⟨k1, k2⟩ := wb_grown h1 hg hr2
  exact ⟨k1, by rw [k2]; exact h2, h3, boxed_grown h4 hg hr2, boxed_grown h5 hg hr2, h6.grown hp hA hg (fun k e => by have := (hr k e).1; omega)⟩
theorem IxE.from {L : List Nat} {q : List UInt8} {o p : Nat} {W0 : World} (hp : o + 4 ≤ p) (hA : p + 2 ≤ W0.heap.size) (c : Code) : OwnFrom W0.heap.size (IxE L q o p W0 c) := by
  intro s A B row hs hg hr
  obtain ⟨h1, h2, h4, h5, h6⟩ := hs
  have hr2 : ∀ k, row = some k → ∃ o : Obj, A.heap[k]? = some o ∧ o.isCells = false := fun k e => (hr k e).2
  exact ⟨h1, h2, boxed_grown h4 hg hr2, boxed_grown h5 hg hr2, h6.grown hp hA hg (fun k e => by have := (hr k e).1; omega)⟩
theorem only_of_kpe {w W0 W : World} {o p : Nat} (h : Only [] w W0) (ho : w.heap.size = o) (k : KpE o p W0 W) : Only [] w W :=
  ⟨k.os.trans h.os, k.tape.trans h.tape, k.output.trans h.output, Nat.le_trans h.size k.size, fun i hi _ => (k.block i (by omega)).trans (h.block i hi (by simp))⟩

theorem PB.block {w w' : World} {g : Nat} {t : TypeId} {ps : List (Value × Value)} (h : PB w g t ps) (e : w'.heap[g]? = w.heap[g]?) : PB w' g t ps := by
  obtain ⟨cs, fr, h1, h2, h3⟩ := h.at'
  have h1' := e.trans h1
  refine ⟨⟨cs, fr, h1', h2, h3⟩, fun k hk => ?_⟩
  have := h.free k hk
  simp only [World.frozen?, h1] at this
  simp only [World.frozen?, h1']
  exact this
/-- How a round leaves: the two stores. -/
theorem left_round {W : World} {o p : Nat} {W0 : World} {L : List Nat} {q : List UInt8} {pre : List Nat} {x : Nat} (hp : o + 4 ≤ p) (hA : p + 2 ≤ W.heap.size)
    (hb1 : Boxed W (o + 1) 22 (.slice none 0 0)) (hb2 : Boxed W (o + 2) 25 (.int .i64 0)) (hkp : KpE o p W0 W) (hx : ¬ Huf.Okay L (sx q x)) :
    KeepsOthers W ((W.setCell ⟨o + 1, 0, none⟩ (.slice none 0 0)).setCell ⟨o + 2, 0, none⟩ (.int .i64 1)) ∧ IxE L q o p W0 .ret (pre ++ [x]) ((W.setCell ⟨o + 1, 0, none⟩ (.slice none 0 0)).setCell ⟨o + 2, 0, none⟩ (.int .i64 1)) := by
  have h1 := hb1.set (.slice none 0 0)
  have o1 : Only [o + 1] W (W.setCell ⟨o + 1, 0, none⟩ (.slice none 0 0)) := (Only.refl _ _).setCell (.inl (by simp)) _
  have h2 := boxed_only hb2 o1 (by simp)
  have h3 := h2.set (.int .i64 1)
  have o2 : Only [o + 2] (W.setCell ⟨o + 1, 0, none⟩ (.slice none 0 0)) ((W.setCell ⟨o + 1, 0, none⟩ (.slice none 0 0)).setCell ⟨o + 2, 0, none⟩ (.int .i64 1)) := (Only.refl _ _).setCell (.inl (by simp)) _
  refine ⟨(keeps_set _ _ (fun ob he => ?_)).trans (keeps_set _ _ (fun ob he => ?_)), rfl, ⟨x, by simp, hx⟩, boxed_only h1 o2 (by simp), h3, hkp.trans ((KpE.only hp hA o1 (by simp)).trans (KpE.only hp (by simpa using hA) o2 (by simp)))⟩
  · have : W.heap[o + 1]? = some (.cells #[.slice none 0 0] 22 (0, 0)) := hb1
    rw [this] at he; cases he; rfl
  · have : (W.setCell ⟨o + 1, 0, none⟩ (.slice none 0 0)).heap[o + 2]? = some (.cells #[.int .i64 0] 25 (0, 0)) := h2
    rw [this] at he; cases he; rfl
set_option maxRecDepth 100000 in
set_option maxHeartbeats 8000000 in
theorem encode_c (w : World) (L : List Nat) (d : Nat) (hg : Huf.Good L d) (g N : Nat) (hN : L.length = N) (hpb : PB w g 74 ((Huf.cods L d).map cv)) (v : Value) (q : List UInt8) (hv : BS w v q) (hq : q.length ≤ 100000) : Calls Try.prog 19 #[.slice (some ⟨g, 0, none⟩) N N, v] w fun e w' =>
    ∃ v', e = .returned (.tuple #[v', .int .i64 (senc L d q).2]) ∧ OV w' w.heap.size 5 v' ((senc L d q).1.map u8v) ∧ Only [] w w' := by
  have HV := Lib.hid hv
  have HPB := Lib.hid hpb
  obtain ⟨a, cap, rfl, hc1, hc2, -⟩ := hv
  unfold maxLen at hc2
  have hgo : g < w.heap.size := hpb.lt
  clear hpb
  refine (callsIn_wide (n := 9)).1 ?_
  refine callsIn_of_wp_marks Try.func19 rfl trivial ?_ rfl
  simp only [Try.ntmps19, List.size_toArray, List.length_cons, List.length_nil, Nat.reduceAdd, Nat.reduceSub, Array.replicate_succ, Array.replicate_zero, List.push_toArray, List.append_toArray, List.nil_append, List.cons_append]
  refine wpIn_wide.2 ?_
  go_wp2_with fail
  --@1
  refine (newwriter_e _).mono ?_
  rintro e w1 ⟨rfl, hw1, hwn1, ho1⟩
  obtain ⟨o, ho⟩ : ∃ o, w.heap.size = o := ⟨_, rfl⟩
  have b0 := Boxed.new w 35 (.slice (some ⟨g, 0, none⟩) N N)
  have b1 := Boxed.new (w.alloc (.cells #[.slice (some ⟨g, 0, none⟩) N N] 35)) 22 (.slice none 0 0)
  have b2 := Boxed.new ((w.alloc (.cells #[.slice (some ⟨g, 0, none⟩) N N] 35)).alloc (.cells #[.slice none 0 0] 22)) 25 (.int .i64 0)
  have b0' := (b0.alloc (.cells #[.slice none 0 0] 22)).alloc (.cells #[.int .i64 0] 25)
  have b1' := b1.alloc (.cells #[.int .i64 0] 25)
  have hO : Only [] w (((w.alloc (.cells #[.slice (some ⟨g, 0, none⟩) N N] 35)).alloc (.cells #[.slice none 0 0] 22)).alloc (.cells #[.int .i64 0] 25)) := (((Only.refl [] w).alloc _).alloc _).alloc _
  simp only [World.size_alloc, ho] at b0 b1 b2 b0' b1' hw1 hwn1 ⊢
  have c0 := boxed_only b0' ho1 (by simp)
  have c1 := boxed_only b1' ho1 (by simp)
  have c2 := boxed_only b2 ho1 (by simp)
  have hO1 := hO.then ho1
  obtain ⟨p, hp⟩ : ∃ p, w1.heap.size = p := ⟨_, rfl⟩
  have hop : o + 4 ≤ p := by have := hw1.lt; omega
  have b4 := Boxed.new w1 75 (.pointer (some ⟨o + 3, 0, none⟩))
  --@2
  go_wp2_with fail
  refine (backward_c _ a q.length cap).mono ?_
  rintro e w2 ⟨rfl, rfl⟩
  have b5 := Boxed.new (w1.alloc (.cells #[.pointer (some ⟨o + 3, 0, none⟩)] 75)) 22 (.slice a q.length cap)
  have hoa : Only [] w1 ((w1.alloc (.cells #[.pointer (some ⟨o + 3, 0, none⟩)] 75)).alloc (.cells #[.slice a q.length cap] 22)) := ((Only.refl [] w1).alloc _).alloc _
  have b4' := b4.alloc (.cells #[.slice a q.length cap] 22)
  have hsz : ((w1.alloc (.cells #[.pointer (some ⟨o + 3, 0, none⟩)] 75)).alloc (.cells #[.slice a q.length cap] 22)).heap.size = p + 2 := by simp [hp]
  simp only [World.size_alloc, hp] at b4' b5 ⊢
  have d0 := boxed_only c0 hoa (by simp)
  have d1 := boxed_only c1 hoa (by simp)
  have d2 := boxed_only c2 hoa (by simp)
  have hwb := WX.only hw1 hoa
  have hown := wown_only hw1 hoa
  rw [hwn1] at hown
  have hO2 := hO1.then hoa
  obtain ⟨W0, hW0⟩ : ∃ W0, ((w1.alloc (.cells #[.pointer (some ⟨o + 3, 0, none⟩)] 75)).alloc (.cells #[.slice a q.length cap] 22)) = W0 := ⟨_, rfl⟩
  have e3 : o + 1 + 1 + 1 = o + 3 := rfl
  have e2 : o + 1 + 1 = o + 2 := rfl
  simp only [e3, e2] at hwb hown d2 hw1 ⊢
  simp only [hW0] at b4' b5 hsz d0 d1 d2 hwb hown hO2 ⊢
  clear b0 b1 b2 b0' b1' hO c0 c1 c2 hO1 b4 hoa hW0 hw1 hwn1 ho1
  go_wp2_with fail
  refine (wpIn_wide (n := 9)).1 ?_
  have HV0 := Lib.hid (HV.out.only hO2 (by simp))
  have HPB0 := Lib.hid (HPB.out.only hO2 (by simp))
  have hseq : SeqStopsK Fence.wide 8 Try.prog 55 #[.pointer (some ⟨p + 1, 0, none⟩)] (fun x : Nat => #[.int .i64 ((q.length - 1 - x : Nat) : Int), .int .u8 ((q.getD (q.length - 1 - x) 0).toNat : Int)]) (KpE o p)
      (fun ys => ys = List.range q.length) (fun pre => ∃ k, k < q.length ∧ pre = List.range (k + 1)) q.length W0 := by
    intro lp J Jx W hW hJ hJx hY h0
    have c5 := (hW.cell (p := ⟨p + 1, 0, none⟩) (by simp; omega)).trans b5.cell
    have hvW : BS W (.slice a q.length cap) q := HV0.out.kept fun x _ hx hne hc => by
      have hlt := HV.out.lt hne hx
      exact (hW.cell (p := x) (by omega)).trans hc
    refine backward1_in 8 (by decide) lp (p + 1) a cap q (by omega) (KpE o p) (fun A B h => ⟨fun v hv => ?_, fun hb => ?_⟩) J Jx hY W c5 hvW h0
    · exact (World.cell?_of_block (h.block (p + 1) (by omega))).trans hv
    · exact hb.kept fun x _ hx hne hc => (World.cell?_of_block (h.block x.block (by have := HV.out.lt hne hx; omega))).trans hc
  --@3
  refine wpIn_rangeFunc_ownG rfl (by decide) (gf := 55) (lb := #[.pointer (some ⟨p + 1, 0, none⟩)]) rfl trivial (enters_of Try.func55 (by kernel_rfl) rfl)
    hseq (fun h k => h.trans k) (fun W lb' x x' hlb hx hc hw => (KpE.refl _ _ W).grown hop (by have := (Array.getElem?_eq_some_iff.1 hx).1; omega) (grownBy_putObj' W lb' x') (fun k e => by cases e; omega)) (Below.refl _ _) (fun _ => rfl)
    (IE L d q o p W0) (IxE L q o p W0)
    ?hI ?hIx ?h0 (fun x => { tmps := #[.slice (some ⟨g, 0, none⟩) N N, .slice a q.length cap, .pointer (some ⟨o, 0, none⟩), undef, .pointer (some ⟨o + 1, 0, none⟩), .pointer (some ⟨o + 2, 0, none⟩), .pointer (some ⟨p, 0, none⟩), undef, .int .u8 ((q.getD (q.length - 1 - x) 0).toNat : Int), .pointer (some ⟨o + 3, 0, none⟩), .slice a q.length cap, .func (.func 55) #[] #[.pointer (some ⟨p + 1, 0, none⟩)], .int .i64 ((q.length - 1 - x : Nat) : Int), .int .u8 ((q.getD (q.length - 1 - x) 0).toNat : Int), undef, undef, undef, undef, undef, undef, undef, undef, undef, undef, undef, undef, undef, undef, undef, undef, undef, undef, undef, undef, undef, undef, undef, undef, undef, undef, undef, undef], defers := [] })
    ?assign ?body ?done ?stop
  case hI => exact IE.from hop (by omega)
  case hIx => exact fun c => IxE.from hop (by omega) c
  case h0 => exact ⟨hwb, by rw [hown]; simp, fun x hx => by simp at hx, d1, d2, KpE.refl _ _ _⟩
  case assign =>
    intro lp x W K hK
    gi_wp2
    exact hK
  case done =>
    rintro D ys W hD rfl ⟨hwb, hown, hall, hb1, hb2, hkp⟩ hK
    have hk4 := hkp.boxed b4' (by omega)
    have e4 := hk4.cell; have f4 := hk4.frozen
    rw [sx_all] at hwb
    have hel := Huf.ebits_length L d hg.eleven (Huf.ns q).reverse
    rw [List.length_reverse, Huf.ns_length] at hel
    have hS : senc L d q = (Bt.bytesOf (Huf.ebits L d (Huf.ns q).reverse ++ [true]), 0) := by
      unfold senc
      rw [if_pos]
      intro s hs
      obtain ⟨x, hx, he⟩ := sx_of q s hs
      rw [← he]
      exact hall x (List.mem_range.2 hx)
    obtain ⟨E, hE⟩ : ∃ E, Huf.ebits L d (Huf.ns q).reverse = E := ⟨_, rfl⟩
    rw [hE] at hwb hel hS
    have HS := Lib.hid hS
    have hcl := closed_c W (o + 3) (o + 3) E hwb (by omega)
    have HCL := Lib.hid hcl; have HB1 := Lib.hid hb1; have HB2 := Lib.hid hb2; have HOW := Lib.hid (only_of_kpe hO2 ho hkp); have HK := Lib.hid hK
    have hWs : p + 2 ≤ W.heap.size := by have := hkp.size; omega
    have hDW : W0.heap.size ≤ D := hD
    clear hcl hb1 hb2 hkp hK hwb hown hall hE hel hS hk4 d0 d1 d2 b5 b4'
    simp only [Exit.inBlock, Exit.then, if_true]
    --@4
    go_wp2_with fail
    --@17
    refine HCL.out.mono ?_
    rintro e w3 ⟨v', rfl, hov, ho3⟩
    obtain ⟨a', n', c', rfl⟩ := OV.isSlice hov
    have hb1 := boxed_only HB1.out ho3 (by simp)
    have hb2 := boxed_only HB2.out ho3 (by simp)
    have e1 := hb1.cell; have f1 := hb1.frozen; have e2 := hb2.cell; have f2 := hb2.frozen
    have hK3 : w3.heap[D]? = some (.deferred (some [])) := ho3.heap HK.out (by simp)
    have hsz3 := ho3.size
    --@18
    go_wp2_with fail
    --@19
    have h1 := hb1.set (.slice a' n' c')
    have o1 : Only [o + 1] w3 (w3.setCell ⟨o + 1, 0, none⟩ (.slice a' n' c')) := (Only.refl _ _).setCell (.inl (by simp)) _
    have h2 := boxed_only hb2 o1 (by simp)
    have h3 := h2.set (.int .i64 0)
    have o2 : Only [o + 2] (w3.setCell ⟨o + 1, 0, none⟩ (.slice a' n' c')) ((w3.setCell ⟨o + 1, 0, none⟩ (.slice a' n' c')).setCell ⟨o + 2, 0, none⟩ (.int .i64 0)) := (Only.refl _ _).setCell (.inl (by simp)) _
    have h4 := boxed_only h1 o2 (by simp)
    have hKX := o2.heap (o1.heap hK3 (by simp; omega)) (by simp; omega)
    have hovX := (hov.only o1 (fun c hc => by have := (hov.lt hc).1; simp; omega)).only o2 (fun c hc => by have := (hov.lt hc).1; simp; omega)
    have hoX : Only [] w ((w3.setCell ⟨o + 1, 0, none⟩ (.slice a' n' c')).setCell ⟨o + 2, 0, none⟩ (.int .i64 0)) := ((HOW.out.then ho3).trans (S := []) o1 (by simp) (by simp; omega)).trans (S := []) o2 (by simp) (by simp; omega)
    obtain ⟨X, hX⟩ : ∃ X, ((w3.setCell ⟨o + 1, 0, none⟩ (.slice a' n' c')).setCell ⟨o + 2, 0, none⟩ (.int .i64 0)) = X := ⟨_, rfl⟩
    rw [hX] at h3 h4 hKX hovX hoX ⊢
    have hgr := grownBy_putObj' X D (.deferred none)
    have hrow : ∀ k, some D = some k → ∃ o : Obj, X.heap[k]? = some o ∧ o.isCells = false := fun k e => by cases e; exact ⟨_, hKX, rfl⟩
    have e1' := (boxed_grown h4 hgr hrow).cell
    have e2' := (boxed_grown h3 hgr hrow).cell
    rw [HS.out]
    refine ⟨by simp, .inl ⟨_, _, rfl, run_takeDeferred hKX, ?_⟩⟩
    refine ⟨.tuple #[.slice a' n' c', .int .i64 0], ?_, _, rfl, ?_, ?_⟩
    · simp [results, Try.f19, go_sem, e1', e2']
    · refine OV.mono (OV.kept hovX (fun c hc => hgr.block c (hovX.lt hc).2 (fun e => ?_))) (by omega)
      obtain ⟨t, cs, fr, hcs⟩ : ∃ t cs fr, X.heap[c]? = some (.cells cs t fr) := by
        rcases hovX.2 with ⟨e3, _⟩ | ⟨g', cap', cur, e3, _, e4, _⟩
        · rw [e3] at hc; simp [Value.ownBlock] at hc
        · rw [e3] at hc
          simp [Value.ownBlock] at hc
          subst hc
          exact ⟨_, _, _, e4⟩
      have hcd : c = D := Option.some.inj e
      rw [hcd, hKX] at hcs
      cases hcs
    · have hDk : ∀ k ∈ (some D).toList, k ∈ ([] : List Nat) ∨ w.heap.size ≤ k := fun k hk => by
        have : k = D := by simpa using hk
        right; omega
      exact hoX.trans (Only.of_grown hgr) (by simp) hDk
  case stop =>
    rintro D c pre W hD hsp ⟨rfl, hbad, hb1, hb2, hkp⟩ hK
    have e1 := hb1.cell; have f1 := hb1.frozen; have e2 := hb2.cell; have f2 := hb2.frozen
    --@5
    gi_wp2
    --@15
    have hS : senc L d q = ([], 1) := by
      unfold senc
      rw [if_neg]
      intro hall
      obtain ⟨x, hx, hn⟩ := hbad
      obtain ⟨k, hk, rfl⟩ := hsp
      have hxk := List.mem_range.1 hx
      obtain ⟨s, hs, he⟩ := sx_mem q x (by omega)
      exact hn (by rw [← he]; exact hall s hs)
    rw [hS]
    have hgr := grownBy_putObj' W D (.deferred none)
    have hrow : ∀ k, some D = some k → ∃ o : Obj, W.heap[k]? = some o ∧ o.isCells = false := fun k e => by cases e; exact ⟨_, hK, rfl⟩
    have e1' := (boxed_grown hb1 hgr hrow).cell
    have e2' := (boxed_grown hb2 hgr hrow).cell
    refine ⟨by simp, .inl ⟨_, _, rfl, run_takeDeferred hK, ?_⟩⟩
    refine ⟨.tuple #[.slice none 0 0, .int .i64 1], ?_, _, rfl, OV.nil _ _ _, ?_⟩
    · --@16
      simp [results, Try.f19, go_sem, e1', e2']
    · have hDk : ∀ k ∈ (some D).toList, k ∈ ([] : List Nat) ∨ w.heap.size ≤ k := fun k hk => by
        have : k = D := by simpa using hk
        right; omega
      exact (only_of_kpe hO2 ho hkp).trans (Only.of_grown hgr) (by simp) hDk
  case body =>
    rintro lp pre x W ⟨hwb, hown, hall, hb1, hb2, hkp⟩ hpl
    have hs256 := sx_lt q x
    have hsx : (q.getD (q.length - 1 - x) 0).toNat = sx q x := rfl
    rw [hsx]
    rw [hsz]
    have hWs : p + 2 ≤ W.heap.size := by have := hkp.size; omega
    have hk0 := hkp.boxed d0 (by omega)
    have hk4 := hkp.boxed b4' (by omega)
    have hpbW := PB.block HPB0.out (hkp.block g (by omega))
    have c0 := hk0.cell; have f0 := hk0.frozen; have c1 := hb1.cell; have f1 := hb1.frozen; have c2 := hb2.cell; have f2 := hb2.frozen; have c4 := hk4.cell; have f4 := hk4.frozen
    have HWB := Lib.hid hwb; have HOWN := Lib.hid hown; have HALL := Lib.hid hall; have HB1 := Lib.hid hb1; have HB2 := Lib.hid hb2; have HKP := Lib.hid hkp; have HPBW := Lib.hid hpbW
    have hcl : ((Huf.cods L d).map cv).length = N := by rw [List.length_map, Huf.cods_length, hN]
    have HLEFT := Lib.hid (fun hx => left_round (pre := pre) (x := x) hop hWs hb1 hb2 hkp hx (L := L) (q := q))
    have HOKD : Hid (Huf.Okay L (sx q x) ↔ sx q x < N ∧ 0 < L.getD (sx q x) 0) := Lib.hid (by rw [← hN]; exact Iff.rfl)
    have HCL := Lib.hid hcl
    have HCG : Hid (∀ k (h : k < N), ((Huf.cods L d).map cv)[k]'(by rw [HCL.out]; exact h) = cv (Huf.cod L d k)) := Lib.hid fun k h => by simp [Huf.cods]
    have hN256 : N ≤ 256 := by rw [← hN]; exact hg.most
    obtain ⟨s, hs⟩ : ∃ s, sx q x = s := ⟨_, rfl⟩
    rw [hs] at hs256 HOKD HLEFT ⊢
    have HSX := Lib.hid hs
    have HGOOD := Lib.hid hg
    clear hwb hown hall hb1 hb2 hkp hpbW hcl hsx hs hg hN d0 d1 d2 b5 b4' hk0 hk4
    by_cases hsN : s < N
    · have hcell := HPBW.out.cell s (by rw [HCL.out]; exact hsN)
      rw [HCG.out s hsN] at hcell
      rw [Nat.mul_comm] at hcell
      by_cases h0 : L.getD s 0 = 0
      · have hbc : Huf.cod L d s = (0, 0) := by unfold Huf.cod; rw [if_pos h0]
        rw [hbc] at hcell
        obtain ⟨g0, g1⟩ := hcell
        simp only [cv] at g0 g1
        have hl := HLEFT.out (fun h => by have := HOKD.out.1 h; omega)
        have HL := Lib.hid hl
        clear hl
        --@6
        gi_wp2
        exact ⟨HL.out.1.from _, HL.out.2⟩
      · have hok : Huf.Okay L s := HOKD.out.2 ⟨hsN, by omega⟩
        rw [Huf.cod_okay hok.2] at hcell
        have hcl := Huf.code_lt HGOOD.out.deep hok
        have hnb1 := Huf.nb_pos HGOOD.out.deep s
        have hnb2 : Huf.nb L d s ≤ 11 := by have := HGOOD.out.eleven; unfold Huf.nb; omega
        have hel := Huf.ebits_length L d HGOOD.out.eleven (pre.map (sx q))
        rw [List.length_map] at hel
        have hnew : Huf.ebits L d ((pre ++ [x]).map (sx q)) = Huf.ebits L d (pre.map (sx q)) ++ Bt.low (Huf.code L s) (Huf.nb L d s) := by
          rw [List.map_append, Huf.ebits_append]
          simp only [List.map_cons, List.map_nil, Huf.ebits, List.append_nil, HSX.out]
        obtain ⟨B, hB⟩ : ∃ B, Huf.nb L d s = B := ⟨_, rfl⟩
        obtain ⟨c, hc⟩ : ∃ c, Huf.code L s = c := ⟨_, rfl⟩
        rw [hB, hc] at hcell hcl hnew
        rw [hB] at hnb1 hnb2
        have hc11 : c < 2048 := Nat.lt_of_lt_of_le hcl (Nat.pow_le_pow_right (n := 2) (by decide) hnb2)
        obtain ⟨E, hE⟩ : ∃ E, Huf.ebits L d (pre.map (sx q)) = E := ⟨_, rfl⟩
        rw [hE] at HWB hel hnew
        have hwr := fun wx (ho : Only [] W wx) => write_o wx (o + 3) (o + 3) E (WX.only HWB.out ho) c (B : Int) (by omega) (by omega)
        rw [if_pos (by omega), Int.toNat_natCast] at hwr
        obtain ⟨g0, g1⟩ := hcell
        simp only [cv] at g0 g1
        have hcw : IntKind.u64.wrap (c : Int) = (c : Int) := by rw [IntKind.wrap_u64]; omega
        have hb0 : ((B : Int) == 0) = false := by rw [beq_eq_false_iff_ne]; omega
        have HWR := Lib.hid hwr; have HNEW := Lib.hid hnew; have HOK := Lib.hid hok
        clear hwr hnew hok hcl hB hc hel hE HLEFT
        --@7
        gi_wp2
        have l4 : ∀ x : Later [] W.drew, x.at'.cell? ⟨p, 0, none⟩ = some (.pointer (some ⟨o + 3, 0, none⟩)) := fun x => Later.cell (w := W.drew) c4 (by simp) x
        have l0 : ∀ x : Later [] W.drew, x.at'.cell? ⟨o, 0, none⟩ = some (.slice (some ⟨g, 0, none⟩) N N) := fun x => Later.cell (w := W.drew) c0 (by simp) x
        have lg0 : ∀ x : Later [] W.drew, x.at'.cell? ⟨g, s * 2, none⟩ = some (.int .i64 (B : Int)) := fun x => Later.cell (w := W.drew) g0 (by simp) x
        have lg1 : ∀ x : Later [] W.drew, x.at'.cell? ⟨g, s * 2 + 1, none⟩ = some (.int .i64 (c : Int)) := fun x => Later.cell (w := W.drew) g1 (by simp) x
        --@10
        --<R
        refine wpIn_region_M [] (by kernel_rfl) (by kernel_rfl) ?_
        change wpAnyM _ _ _ _ _ _ _ _ (World.drew _)
        refine wpAnyM_take (i := 0) (oi := { dst := some 27, op := .load 75 (.tmp 6), type := 75, pos := "huff.go:135", after := #[], guard := none }) rfl (by kernel_rfl) (by kernel_rfl) (by kernel_rfl) (YieldsOn.value (by rfl) (by rfl) (by intro x; first | (go_simp; first | done | rfl) | (unfold execOp; simp only [Sem.run_bind]; go_simp; first | done | rfl))) (by exact fun _ _ _ h => h) ?_
        try simp only [Act.put, List.setIfInBounds_toArray, List.set_cons_zero, List.set_cons_succ]
        refine wpAnyM_take (i := 1) (oi := { dst := some 28, op := .load 35 (.tmp 2), type := 35, pos := "huff.go:135", after := #[], guard := none }) rfl (by kernel_rfl) (by kernel_rfl) (by kernel_rfl) (YieldsOn.value (by rfl) (by rfl) (by intro x; first | (go_simp; first | done | rfl) | (unfold execOp; simp only [Sem.run_bind]; go_simp; first | done | rfl))) (by exact fun _ _ _ h => h) ?_
        try simp only [Act.put, List.setIfInBounds_toArray, List.set_cons_zero, List.set_cons_succ]
        refine wpAnyM_take (i := 2) (oi := { dst := some 29, op := .move (.tmp 8), type := 5, pos := "huff.go:135", after := #[], guard := none }) rfl (by kernel_rfl) (by kernel_rfl) (by kernel_rfl) (YieldsOn.pure (by rfl) (by intro x; first | (go_simp; first | done | rfl) | (unfold execOp; simp only [Sem.run_bind]; go_simp; first | done | rfl))) (by exact fun _ _ _ h => h) ?_
        try simp only [Act.put, List.setIfInBounds_toArray, List.set_cons_zero, List.set_cons_succ]
        refine wpAnyM_take (i := 3) (oi := { dst := some 30, op := .indexAddr 35 (.tmp 28) (.tmp 29), type := 0, pos := "huff.go:135", after := #[{ on := 1, ground := .data }, { on := 2, ground := .data }], guard := none }) rfl (by kernel_rfl) (by kernel_rfl) (by kernel_rfl) (YieldsOn.pure (by rfl) (by intro x; first | (go_simp; first | done | rfl) | (unfold execOp; simp only [Sem.run_bind]; go_simp; first | done | rfl))) (by exact fun _ _ _ h => h) ?_
        try simp only [Act.put, List.setIfInBounds_toArray, List.set_cons_zero, List.set_cons_succ]
        refine wpAnyM_take (i := 4) (oi := { dst := some 31, op := .fieldAddr 74 (.tmp 30) 1, type := 0, pos := "huff.go:135", after := #[{ on := 3, ground := .data }], guard := none }) rfl (by kernel_rfl) (by kernel_rfl) (by kernel_rfl) (YieldsOn.pure (by rfl) (by intro x; first | (go_simp; first | done | rfl) | (unfold execOp; simp only [Sem.run_bind]; go_simp; first | done | rfl))) (by exact fun _ _ _ h => h) ?_
        try simp only [Act.put, List.setIfInBounds_toArray, List.set_cons_zero, List.set_cons_succ]
        refine wpAnyM_take (i := 5) (oi := { dst := some 32, op := .load 3 (.tmp 31), type := 3, pos := "huff.go:135", after := #[{ on := 4, ground := .data }], guard := none }) rfl (by kernel_rfl) (by kernel_rfl) (by kernel_rfl) (YieldsOn.value (by rfl) (by rfl) (by intro x; first | (go_simp; first | done | rfl) | (unfold execOp; simp only [Sem.run_bind]; go_simp; first | done | rfl))) (by exact fun _ _ _ h => h) ?_
        try simp only [Act.put, List.setIfInBounds_toArray, List.set_cons_zero, List.set_cons_succ]
        refine wpAnyM_take (i := 6) (oi := { dst := some 33, op := .convert 3 51 (.tmp 32), type := 51, pos := "huff.go:135", after := #[{ on := 5, ground := .data }], guard := none }) rfl (by kernel_rfl) (by kernel_rfl) (by kernel_rfl) (YieldsOn.value (by rfl) (by rfl) (by intro x; first | (go_simp; first | done | rfl) | (unfold execOp; simp only [Sem.run_bind]; go_simp; first | done | rfl))) (by exact fun _ _ _ h => h) ?_
        try simp only [Act.put, List.setIfInBounds_toArray, List.set_cons_zero, List.set_cons_succ]
        refine wpAnyM_take (i := 7) (oi := { dst := some 34, op := .load 35 (.tmp 2), type := 35, pos := "huff.go:135", after := #[], guard := none }) rfl (by kernel_rfl) (by kernel_rfl) (by kernel_rfl) (YieldsOn.value (by rfl) (by rfl) (by intro x; first | (go_simp; first | done | rfl) | (unfold execOp; simp only [Sem.run_bind]; go_simp; first | done | rfl))) (by exact fun _ _ _ h => h) ?_
        try simp only [Act.put, List.setIfInBounds_toArray, List.set_cons_zero, List.set_cons_succ]
        refine wpAnyM_take (i := 8) (oi := { dst := some 35, op := .move (.tmp 8), type := 5, pos := "huff.go:135", after := #[], guard := none }) rfl (by kernel_rfl) (by kernel_rfl) (by kernel_rfl) (YieldsOn.pure (by rfl) (by intro x; first | (go_simp; first | done | rfl) | (unfold execOp; simp only [Sem.run_bind]; go_simp; first | done | rfl))) (by exact fun _ _ _ h => h) ?_
        try simp only [Act.put, List.setIfInBounds_toArray, List.set_cons_zero, List.set_cons_succ]
        refine wpAnyM_take (i := 9) (oi := { dst := some 36, op := .indexAddr 35 (.tmp 34) (.tmp 35), type := 0, pos := "huff.go:135", after := #[{ on := 7, ground := .data }, { on := 8, ground := .data }], guard := none }) rfl (by kernel_rfl) (by kernel_rfl) (by kernel_rfl) (YieldsOn.pure (by rfl) (by intro x; first | (go_simp; first | done | rfl) | (unfold execOp; simp only [Sem.run_bind]; go_simp; first | done | rfl))) (by exact fun _ _ _ h => h) ?_
        try simp only [Act.put, List.setIfInBounds_toArray, List.set_cons_zero, List.set_cons_succ]
        refine wpAnyM_take (i := 10) (oi := { dst := some 37, op := .fieldAddr 74 (.tmp 36) 0, type := 0, pos := "huff.go:135", after := #[{ on := 9, ground := .data }], guard := none }) rfl (by kernel_rfl) (by kernel_rfl) (by kernel_rfl) (YieldsOn.pure (by rfl) (by intro x; first | (go_simp; first | done | rfl) | (unfold execOp; simp only [Sem.run_bind]; go_simp; first | done | rfl))) (by exact fun _ _ _ h => h) ?_
        try simp only [Act.put, List.setIfInBounds_toArray, List.set_cons_zero, List.set_cons_succ]
        refine wpAnyM_take (i := 11) (oi := { dst := some 38, op := .load 3 (.tmp 37), type := 3, pos := "huff.go:135", after := #[{ on := 10, ground := .data }], guard := none }) rfl (by kernel_rfl) (by kernel_rfl) (by kernel_rfl) (YieldsOn.value (by rfl) (by rfl) (by intro x; first | (go_simp; first | done | rfl) | (unfold execOp; simp only [Sem.run_bind]; go_simp; first | done | rfl))) (by exact fun _ _ _ h => h) ?_
        try simp only [Act.put, List.setIfInBounds_toArray, List.set_cons_zero, List.set_cons_succ]
        refine wpAnyM_last (i := 12) (o := { dst := some 39, op := .call { callee := Callee.value (.func 41), args := #[.tmp 27, .tmp 33, .tmp 38], argTypes := #[75, 51, 3] }, type := 0, pos := "huff.go:135", after := #[{ on := 0, ground := .data }, { on := 6, ground := .data }, { on := 11, ground := .data }], guard := none }) (by kernel_rfl) rfl (by kernel_rfl) (fun w2 hw2 K hK => ?_)
        --R>
        --@11
        have ho2 : Only [] W w2 := ((Only.refl [] W).drew).then hw2
        go_simp
        refine (HWR.out w2 ho2).mono ?_
        rintro e w3 ⟨rfl, hw3, ow3⟩
        refine hK _ _ ?_
        refine wpAnyM_done (by kernel_rfl) (fun w4 hw4 => ?_) _
        have hOW : OW W w4 (o + 3) := ((ow_only HWB.out ho2).trans ow3).trans (ow_only hw3 hw4)
        have hkeep := keeps_ow HWB.out hOW
        have hWB4 := WX.only hw3 hw4
        show KeepsFrom (p + 2) W w4 ∧ KpE o p W w4 ∧ IE L d q o p W0 (pre ++ [x]) w4
        have hS : ∀ i ∈ (o + 3) :: wown W (o + 3), i = o + 3 ∨ p + 2 ≤ i := fun i hi => by
          rcases List.mem_cons.1 hi with h | h
          · exact .inl h
          · exact .inr (HOWN.out i h)
        have hkp4 : KpE o p W w4 := KpE.only hop hWs hOW.only (fun i hi => by have := hS i hi; omega)
        refine ⟨hkeep.from _, hkp4, ?_⟩
        refine ⟨by rw [HNEW.out]; exact hWB4, fun i hi => ?_, fun y hy => ?_, boxed_only HB1.out hOW.only (fun h => by have := hS _ h; omega), boxed_only HB2.out hOW.only (fun h => by have := hS _ h; omega), HKP.out.trans hkp4⟩
        · rcases hOW.own i hi with h | h
          · exact HOWN.out i h
          · omega
        · rcases List.mem_append.1 hy with h | h
          · exact HALL.out y h
          · obtain rfl : y = x := by simpa using h
            rw [HSX.out]; exact HOK.out
    · have hl := HLEFT.out (fun h => by have := HOKD.out.1 h; omega)
      have HL := Lib.hid hl
      clear hl
      have hge : (N : Int) ≤ (s : Int) := by omega
      --@8
      gi_wp2
      --@9
      exact ⟨HL.out.1.from _, HL.out.2⟩
end Go.Proofs.Ytfckokdgmbbheaa.huf

