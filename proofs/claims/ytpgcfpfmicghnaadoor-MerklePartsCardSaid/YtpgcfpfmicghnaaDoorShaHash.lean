/-
  THE WALKS of New and Write.
-/
import Derived.Test.YtpgcfpfmicghnaaDoorShaWith
import Derived.Test.YtpgcfpfmicghnaaDoorGen7
set_option linter.unusedVariables false
set_option linter.unusedSimpArgs false
namespace Go.Proofs.YtpgcfpfmicghnaaDoor.sha
open Go Go.RowKit Go.Lm

/-- The cells of a digest that grows. -/
def hcs (s : List Nat) (K : List UInt8) (n all : Nat) : List Value := s.map u32v ++ (K.map u8v ++ [.int .i64 (n : Int), .int .u64 (all : Int)])
/-- Block b is a digest that grows: its state, what is kept, how much of it, how many bytes. -/
def HR (w : World) (b : Nat) (s : List Nat) (K : List UInt8) (n all : Nat) : Prop := w.heap[b]? = some (.cells (hcs s K n all).toArray 88 (0, 0))
/-- .. behind the bytes l, all of them counted as all. -/
def HA (w : World) (b : Nat) (l : List UInt8) (all : Nat) : Prop := ∃ K, K.length = 64 ∧ K.take (l.length % 64) = l.drop (64 * (l.length / 64)) ∧ HR w b (Sha.hsN l (l.length / 64)) K (l.length % 64) all
/-- .. behind the bytes l. -/
def HB (w : World) (b : Nat) (l : List UInt8) : Prop := HA w b l l.length

theorem hcs_length (s : List Nat) (K : List UInt8) (n all : Nat) (h1 : s.length = 8) (h2 : K.length = 64) : (hcs s K n all).length = 74 := by simp [hcs, h1, h2]
theorem hcs_n (s : List Nat) (K : List UInt8) (n all : Nat) (h1 : s.length = 8) (h2 : K.length = 64) : (hcs s K n all)[72]? = some (.int .i64 (n : Int)) := by
  unfold hcs
  rw [List.getElem?_append_right (by simp [h1]), List.getElem?_append_right (by simp [h1, h2])]
  simp [h1, h2]
theorem hcs_all (s : List Nat) (K : List UInt8) (n all : Nat) (h1 : s.length = 8) (h2 : K.length = 64) : (hcs s K n all)[73]? = some (.int .u64 (all : Int)) := by
  unfold hcs
  rw [List.getElem?_append_right (by simp [h1]), List.getElem?_append_right (by simp [h1, h2])]
  simp [h1, h2]
theorem hcs_s (s : List Nat) (K : List UInt8) (n all : Nat) (i : Nat) (hi : i < s.length) : (hcs s K n all)[i]? = some (u32v s[i]) := by
  unfold hcs
  rw [List.getElem?_append_left (by simpa using hi)]
  simp [hi]
theorem hcs_k (s : List Nat) (K : List UInt8) (n all : Nat) (h1 : s.length = 8) (i : Nat) (hi : i < K.length) : (hcs s K n all)[8 + i]? = some (u8v K[i]) := by
  unfold hcs
  rw [List.getElem?_append_right (by simp [h1]), List.getElem?_append_left (by simp [h1]; omega)]
  simp [h1, hi]
theorem hcs_set_n (s : List Nat) (K : List UInt8) (n all m : Nat) (h1 : s.length = 8) (h2 : K.length = 64) : (hcs s K n all).set 72 (.int .i64 (m : Int)) = hcs s K m all := by
  unfold hcs
  rw [List.set_append_right _ _ (by simp [h1]), List.set_append_right _ _ (by simp [h1, h2])]
  simp [h1, h2]
theorem hcs_set_all (s : List Nat) (K : List UInt8) (n all m : Nat) (h1 : s.length = 8) (h2 : K.length = 64) : (hcs s K n all).set 73 (.int .u64 (m : Int)) = hcs s K n m := by
  unfold hcs
  rw [List.set_append_right _ _ (by simp [h1]), List.set_append_right _ _ (by simp [h1, h2])]
  simp [h1, h2]
theorem splice_map {α β : Type} (f : α → β) (L : List α) (o : Nat) (c : List α) : splice (L.map f) o (c.map f) = (splice L o c).map f := by simp [splice]
theorem hcs_kept (s : List Nat) (K c : List UInt8) (n all o : Nat) (h1 : s.length = 8) (h2 : K.length = 64) (ho : o + c.length ≤ 64) : splice (hcs s K n all) (8 + o) (c.map u8v) = hcs s (splice K o c) n all := by
  unfold hcs
  rw [← splice_map]
  unfold splice
  rw [List.take_append, List.drop_append]
  simp only [List.length_map, h1]
  rw [List.take_of_length_le (by simp [h1]), List.drop_eq_nil_of_le (by simp [h1]; omega), List.nil_append]
  rw [show 8 + o - 8 = o by omega, show 8 + o + c.length - 8 = o + c.length by omega]
  rw [List.take_append_of_le_length (by simp [h2]; omega), List.drop_append_of_le_length (by simp [h2]; omega)]
  simp
theorem hcs_state (s s' : List Nat) (K : List UInt8) (n all : Nat) (h1 : s.length = 8) (h2 : s'.length = 8) : splice (hcs s K n all) 0 (s'.map u32v) = hcs s' K n all := by
  unfold hcs splice
  simp only [List.take_zero, List.nil_append, List.length_map, h2]
  rw [List.drop_append_of_le_length (by simp [h1]), List.drop_eq_nil_of_le (by simp [h1]), List.nil_append]

theorem HR.only {S : List Nat} {w w' : World} {b : Nat} {s : List Nat} {K : List UInt8} {n all : Nat} (h : HR w b s K n all) (ho : Only S w w') (hb : b ∉ S) : HR w' b s K n all := ho.heap h hb
theorem HR.lt {w : World} {b : Nat} {s : List Nat} {K : List UInt8} {n all : Nat} (h : HR w b s K n all) : b < w.heap.size := lt_of_block h
theorem HR.cell {w : World} {b : Nat} {s : List Nat} {K : List UInt8} {n all : Nat} (h : HR w b s K n all) (i : Nat) (v : Value) (hv : (hcs s K n all)[i]? = some v) : w.cell? ⟨b, i, none⟩ = some v := by
  unfold HR at h; simp only [World.cell?, h]; simpa using hv
theorem HR.free {w : World} {b : Nat} {s : List Nat} {K : List UInt8} {n all : Nat} (h : HR w b s K n all) (i : Nat) : w.frozen? ⟨b, i, none⟩ = false := by
  unfold HR at h; simp [World.frozen?, h]
theorem HR.set_n {w : World} {b : Nat} {s : List Nat} {K : List UInt8} {n all : Nat} (h : HR w b s K n all) (h1 : s.length = 8) (h2 : K.length = 64) (m : Nat) : HR (w.setCell ⟨b, 72, none⟩ (.int .i64 m)) b s K m all := by
  unfold HR at *
  rw [Go.Lm.heap_setCell_same h, ← hcs_set_n s K n all m h1 h2]
  congr 2; apply Array.toList_inj.1; simp
theorem HR.set_all {w : World} {b : Nat} {s : List Nat} {K : List UInt8} {n all : Nat} (h : HR w b s K n all) (h1 : s.length = 8) (h2 : K.length = 64) (m : Nat) : HR (w.setCell ⟨b, 73, none⟩ (.int .u64 m)) b s K n m := by
  unfold HR at *
  rw [Go.Lm.heap_setCell_same h, ← hcs_set_all s K n all m h1 h2]
  congr 2; apply Array.toList_inj.1; simp
theorem HA.only {S : List Nat} {w w' : World} {b : Nat} {l : List UInt8} {all : Nat} (h : HA w b l all) (ho : Only S w w') (hb : b ∉ S) : HA w' b l all := by
  obtain ⟨K, h1, h2, h3⟩ := h; exact ⟨K, h1, h2, h3.only ho hb⟩
theorem HB.only {S : List Nat} {w w' : World} {b : Nat} {l : List UInt8} (h : HB w b l) (ho : Only S w w') (hb : b ∉ S) : HB w' b l := HA.only h ho hb
theorem HB.lt {w : World} {b : Nat} {l : List UInt8} (h : HB w b l) : b < w.heap.size := by obtain ⟨K, h1, h2, h3⟩ := h; exact h3.lt

set_option maxRecDepth 100000 in
set_option maxHeartbeats 1000000 in
theorem new_c (w : World) : Calls Tryd.prog 45 #[] w fun e w' => e = .returned (.pointer (some ⟨w.heap.size, 0, none⟩)) ∧ HB w' w.heap.size [] ∧ Only [] w w' := by
  go_enter Tryd.func45, Tryd.ntmps45
  go_wp2_with (refine wpList_build rfl 88 #[(0, .tmp 1)] rfl (by kernel_rfl) ?_)
  generalize hg : Option.getD _ _ = C
  have hC : C = (hcs Sha.H0 (List.replicate 64 0) 0 0).toArray := by rw [← hg]; kernel_rfl
  clear hg
  have HC := Lib.hid hC; clear hC
  try simp only [Act.put]
  go_wp2
  go_ret
  refine ⟨rfl, ⟨List.replicate 64 0, by simp, by simp, ?_⟩, (Only.refl _ _).alloc _⟩
  unfold HR
  rw [heap_alloc_new w _, HC.out]
  rfl
end Go.Proofs.YtpgcfpfmicghnaaDoor.sha
