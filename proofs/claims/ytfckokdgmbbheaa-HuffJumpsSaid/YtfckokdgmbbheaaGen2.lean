/-
  GENERAL, MORE: a slice of a slice. Of no program.
-/
import Derived.Test.YtfckokdgmbbheaaGen
import Derived.Lib.ConvBytes
set_option linter.unusedVariables false
namespace Go.Lm
open Go Go.RowKit Go.ChangeShapes Go.WideShapes

/-- 'x[lo:hi]' of a slice whose elements are one cell each. -/
def subv (a : Option Addr) (cap lo hi : Nat) : Value := .slice (if cap = lo then a else a.map (·.add lo)) (hi - lo) (cap - lo)

theorem sizeOf_one {P : Program} {e : TypeId} (hsz : (P.info? e).map (·.size) = some 1) (w : World) : (sizeOf e).run P w = .ok 1 w := by
  cases hi : P.info? e with
  | none => simp [hi] at hsz
  | some i => simp [hi] at hsz; simp [sizeOf, typeInfo, hi, hsz]
theorem elem_eq {P : Program} {t e : TypeId} (ht : P.underlying t = some (.slice e)) : P.elem t = e := by simp [Program.elem, ht]
section
variable {P : Program} {t e : TypeId} (ht : P.underlying t = some (.slice e)) (hsz : (P.info? e).map (·.size) = some 1)
include ht hsz
theorem run_sub_lh (a : Option Addr) (n cap lo hi : Nat) (h1 : lo ≤ hi) (h2 : hi ≤ cap) (w : World) : (Instr.slice t (.slice a n cap) (some (.int .i64 lo)) (some (.int .i64 hi)) none).run P w = .ok (subv a cap lo hi) w := by
  rw [run_slice_lh w t a n cap (by rw [ht, elem_eq ht]) .i64 .i64 lo hi (by omega) (by omega) (by omega), elem_eq ht, sizeOf_one hsz]
  simp [Result.andThen, sliced, subv]
theorem run_sub_h (a : Option Addr) (n cap hi : Nat) (h2 : hi ≤ cap) (w : World) : (Instr.slice t (.slice a n cap) none (some (.int .i64 hi)) none).run P w = .ok (subv a cap 0 hi) w := by
  rw [run_slice_h w t a n cap (by rw [ht, elem_eq ht]) .i64 hi (by omega) (by omega), elem_eq ht, sizeOf_one hsz]
  simp [Result.andThen, sliced, subv]
theorem run_sub_l (a : Option Addr) (n cap lo : Nat) (h2 : lo ≤ n) (w : World) : (Instr.slice t (.slice a n cap) (some (.int .i64 lo)) none none).run P w = .ok (subv a cap lo n) w := by
  rw [run_slice_l w t a n cap (by rw [ht, elem_eq ht]) .i64 lo (by omega) (by omega), elem_eq ht, sizeOf_one hsz]
  simp [Result.andThen, sliced, subv]
end

theorem subv_block (a : Option Addr) (cap lo hi : Nat) : (subv a cap lo hi).ownBlock = a.map (·.block) := by
  cases a with
  | none => unfold subv; split <;> rfl
  | some a => unfold subv; split <;> simp [Value.ownBlock, block_add]

theorem BS.sub {w : World} {a : Option Addr} {n cap : Nat} {l : List UInt8} (h : BS w (.slice a n cap) l) (lo hi : Nat) (h1 : lo ≤ hi) (h2 : hi ≤ l.length) : BS w (subv a cap lo hi) ((l.take hi).drop lo) := by
  obtain ⟨a', cap', he, h3, h4, h5, h6⟩ := h
  simp only [Value.slice.injEq] at he
  obtain ⟨rfl, rfl, rfl⟩ := he
  have hlen : ((l.take hi).drop lo).length = hi - lo := by simp; omega
  refine ⟨if cap = lo then a else a.map (·.add lo), cap - lo, by rw [hlen]; rfl, by omega, by omega, fun hn => ?_, fun k hk => ?_⟩
  · have : a = none := by
      by_cases hc : cap = lo
      · rw [if_pos hc] at hn; exact hn
      · rw [if_neg hc] at hn; simpa using hn
    have := h5 this; omega
  · rw [hlen] at hk
    obtain ⟨b, off, rfl, hc⟩ := h6 (lo + k) (by omega)
    refine ⟨b, off + lo, ?_, ?_⟩
    · rw [if_neg (by omega)]; simp [add_none]
    · rw [Nat.add_assoc, hc]; simp
theorem ownBlock_slice (a : Option Addr) (n c : Nat) : (Value.slice a n c).ownBlock = a.map (·.block) := by cases a <;> rfl
theorem BS.sub_ne {w : World} {a : Option Addr} {n cap : Nat} {l : List UInt8} (h : BS w (.slice a n cap) l) {lo hi B : Nat} (hB : w.heap.size ≤ B) : ∀ c, (subv a cap lo hi).ownBlock = some c → (l.take hi).drop lo ≠ [] → c ≠ B := by
  intro c hc hne
  rw [subv_block] at hc
  have := h.lt (by intro e; subst e; simp at hne) (c := c) (by rw [ownBlock_slice]; exact hc)
  omega
theorem BS.ne {w : World} {v : Value} {l : List UInt8} (h : BS w v l) {B : Nat} (hB : w.heap.size ≤ B) : ∀ c, v.ownBlock = some c → l ≠ [] → c ≠ B := by
  intro c hc hne; have := h.lt hne hc; omega
theorem take_drop_cat (l : List UInt8) {p q : Nat} (h : p ≤ q) : l.take p ++ (l.take q).drop p = l.take q := by
  have : l.take p = (l.take q).take p := by rw [List.take_take]; congr 1; omega
  rw [this, List.take_append_drop]

theorem len_data (s : ByteArray) : s.data.toList.length = s.size := Array.length_toList
/-- '[]byte(s)': a new block that reads as the string's bytes. -/
theorem run_new_bytes {P : Program} (w : World) {src dst e : TypeId} (s : ByteArray) (hs : P.underlying src = some .string) (hd : P.underlying dst = some (.slice e)) (he : P.underlying e = some (.int .u8)) (hm : s.size ≤ maxLen) :
    ∃ v' w', (convert src dst (.string s)).run P w = .ok v' w' ∧ BS w' v' s.data.toList ∧ Only [] w w' ∧ v'.ownBlock = some w.heap.size := by
  refine ⟨_, _, Lib.run_convert_string_bytes w src dst e s hs hd he, ?_, ?_, rfl⟩
  · refine ⟨some ⟨w.heap.size, 0, none⟩, grownCap w s.size 0 e, rfl, grownCap_ge w s.size 0 e, grownCap_le_maxLen w s.size 0 e hm, fun h => by simp at h, fun k hk => ⟨w.heap.size, 0, rfl, ?_⟩⟩
    rw [Nat.zero_add, Lib.bytesWorld_cell w e s k hk, List.getD_eq_getElem?_getD, List.getElem?_eq_getElem hk]
    rfl
  · exact ⟨by simp [Lib.bytesWorld, World.freeze, World.alloc, World.drew, -World.alloc_eq, -World.drew_eq], by simp [Lib.bytesWorld, World.freeze, World.alloc, World.drew, -World.alloc_eq, -World.drew_eq], by simp [Lib.bytesWorld, World.freeze, World.alloc, World.drew, -World.alloc_eq, -World.drew_eq],
      by rw [Lib.bytesWorld_size]; omega, fun k hk _ => Lib.bytesWorld_at_old w e s k hk⟩
end Go.Lm
