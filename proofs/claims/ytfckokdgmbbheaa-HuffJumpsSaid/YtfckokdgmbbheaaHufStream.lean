/-
  PLAIN: what a stream of bytes tells. No program in sight.
-/
import Derived.Test.YtfckokdgmbbheaaBitBack
import Derived.Test.YtfckokdgmbbheaaHufPlain6
set_option linter.unusedVariables false
set_option linter.unusedSimpArgs false
namespace Go.Proofs.Ytfckokdgmbbheaa.huf
open Go Go.RowKit Go.Lm Go.Proofs.Ytfckokdgmbbheaa.bit

/-- The place of the highest bit. -/
def topOf (b : List UInt8) : Nat := 8 * (b.length - 1) + Lib.bitLen (b.getLastD 0).toNat - 1
theorem getLastD_of (b : List UInt8) (h : b ≠ []) : b.getLastD 0 = b.getLast h := by
  cases b with
  | nil => exact absurd rfl h
  | cons x b => simp [List.getLastD, List.getLast_cons]
theorem last_ne {b : List UInt8} (h : (b.getLastD 0).toNat ≠ 0) : ∃ hne : b ≠ [], (b.getLast hne).toNat ≠ 0 := by
  have hne : b ≠ [] := by intro e; subst e; exact h rfl
  exact ⟨hne, by rw [← getLastD_of b hne]; exact h⟩
theorem last_none {b : List UInt8} (h : (b.getLastD 0).toNat = 0) : ∀ hne : b ≠ [], (b.getLast hne).toNat = 0 := fun hne => by rw [← getLastD_of b hne]; exact h
theorem topOf_top {b : List UInt8} (h : (b.getLastD 0).toNat ≠ 0) : Top (Bt.bitsOf b) (topOf b) := by
  obtain ⟨hne, hz⟩ := last_ne h
  unfold topOf
  rw [getLastD_of b hne]
  exact byte_top b hne hz
/-- Its bits, in the order that they are read in. -/
def sbits (b : List UInt8) : List Bool := ((Bt.bitsOf b).take (topOf b)).reverse
theorem sbits_length {b : List UInt8} (h : (b.getLastD 0).toNat ≠ 0) : (sbits b).length = topOf b := by
  have := (topOf_top h).lt
  simp only [sbits, List.length_reverse, List.length_take]
  omega
/-- The symbols of a stream, and the error. -/
def sdec (l : List Nat) (d : Nat) (b : List UInt8) (n : Nat) : List UInt8 × Int :=
  if (b.getLastD 0).toNat = 0 then ([], 11)
  else if topOf b < (Huf.dec l d (sbits b) n).2 then ([], 11)
  else if (Huf.dec l d (sbits b) n).2 < topOf b then ([], 15)
  else ((Huf.dec l d (sbits b) n).1.map UInt8.ofNat, 0)
/-- What is read next. -/
theorem last_msb (B : List Bool) (t pos n : Nat) (x : Nat) (ht : t ≤ B.length) (hn : n ≤ 56) : (last (B.take ((t : Int) - (pos : Int)).toNat) x (n : Int)).2.2 = Huf.msb ((B.take t).reverse) pos n := by
  obtain ⟨K, hK⟩ : ∃ K, ((t : Int) - (pos : Int)).toNat = K := ⟨_, rfl⟩
  have hK2 : K = t - pos := by omega
  rw [hK]
  by_cases h0 : n = 0
  · subst h0
    unfold last
    rw [if_pos (by omega)]
    rfl
  · unfold last
    rw [if_neg (by omega)]
    simp only [Int.toNat_natCast]
    have hl : (B.take t).length = t := by rw [List.length_take]; omega
    have hlK : (B.take K).length = K := by rw [List.length_take]; omega
    rw [hlK]
    have hm := Huf.msb_last (B.take t) K n (by omega)
    rw [hl] at hm
    have e : (B.take t).take K = B.take K := by rw [List.take_take]; congr 1; omega
    rw [e] at hm
    rw [← hm]
    by_cases hp : pos ≤ t
    · congr 1; omega
    · have hK0 : K = 0 := by omega
      rw [Huf.msb_none _ pos (by rw [List.length_reverse, hl]; omega), Huf.msb_none _ (t - K) (by rw [List.length_reverse, hl]; omega)]
theorem bgo_sub (t pos n : Nat) (hn : n ≤ 56) : bgo ((t : Int) - (pos : Int)) (n : Int) = (t : Int) - ((pos + n : Nat) : Int) := by
  unfold bgo
  by_cases h : n = 0
  · subst h; rw [if_pos (by omega)]; omega
  · rw [if_neg (by omega)]; omega
/-- Bytes of symbols. -/
def sv (l : List Nat) : List UInt8 := l.map UInt8.ofNat
theorem sv_snoc (l : List Nat) (s : Nat) : sv (l ++ [s]) = sv l ++ [UInt8.ofNat s] := by simp [sv]
theorem sv_length (l : List Nat) : (sv l).length = l.length := by simp [sv]
theorem u8v_of (s : Nat) (h : s < 256) : u8v (UInt8.ofNat s) = .int .u8 (s : Int) := by
  unfold u8v; congr 1; simp; omega
theorem dec_p_le {l : List Nat} {d : Nat} (hd : d ≤ 11) (M : List Bool) : ∀ n, (Huf.dec l d M n).2 ≤ 12 * n
  | 0 => Nat.zero_le _
  | n + 1 => by
    have := dec_p_le (l := l) hd M n
    show (Huf.dec l d M n).2 + Huf.nb l d _ ≤ _
    unfold Huf.nb
    omega
end Go.Proofs.Ytfckokdgmbbheaa.huf
