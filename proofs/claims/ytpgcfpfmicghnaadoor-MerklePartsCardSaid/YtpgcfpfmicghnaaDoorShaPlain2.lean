/-
  PLAIN: SHA-256, the words of a block, in one row. No program in sight.
-/
import Derived.Test.YtpgcfpfmicghnaaDoorShaPlain
set_option linter.unusedVariables false
namespace Go.Lm.Sha

/-- The words so far. -/
def wl (l : List UInt8) (t : Nat) : List Nat := if t ≤ 16 then (w16 l).take t else sch l (t - 16)
theorem wl_length (l : List UInt8) (t : Nat) (h : t ≤ 64) : (wl l t).length = t := by
  unfold wl; split
  · simp [w16_length]; omega
  · rw [sch_length]; omega
theorem wl_lt (l : List UInt8) (t : Nat) : ∀ x ∈ wl l t, x < 4294967296 := by
  unfold wl; split
  · exact fun x hx => w16_lt l x (List.mem_of_mem_take hx)
  · exact sch_lt l _
theorem wl_lo (l : List UInt8) (t : Nat) (h : t < 16) : (wz (wl l t)).set t (be ((l.drop (4 * t)).take 4)) = wz (wl l (t + 1)) := by
  have e1 : wl l t = (w16 l).take t := if_pos (by omega)
  have e2 : wl l (t + 1) = (w16 l).take (t + 1) := if_pos (by omega)
  have e3 : (w16 l)[t]'(by rw [w16_length]; exact h) = be ((l.drop (4 * t)).take 4) := by simp [w16]
  have hl : (wl l t).length = t := wl_length l t (by omega)
  have := wz_set (wl l t) (be ((l.drop (4 * t)).take 4)) (by omega)
  rw [hl] at this
  have e4 : (w16 l).take (t + 1) = (w16 l).take t ++ [(w16 l)[t]'(by rw [w16_length]; exact h)] := List.take_succ_eq_append_getElem _
  rw [this, e1, e2, e4, e3]
theorem wl_hi (l : List UInt8) (t : Nat) (h : 16 ≤ t) : wl l (t + 1) = ext (wl l t) := by
  have e2 : wl l (t + 1) = sch l (t - 16 + 1) := by unfold wl; rw [if_neg (by omega)]; congr 1; omega
  rw [e2, sch]
  congr 1
  unfold wl; split
  · have : t = 16 := by omega
    subst this
    rw [List.take_of_length_le (by rw [w16_length]; omega)]; rfl
  · rfl
theorem wl_all (l : List UInt8) : wl l 64 = sch l 48 := if_neg (by omega)
theorem comp_comm (h : List Nat) (l : List UInt8) : List.zipWith (fun v s => (v + s) % 4294967296) h (rnds (sch l 48) h 64) = comp h l := by
  unfold comp; rw [List.zipWith_comm]; simp only [Nat.add_comm]
end Go.Lm.Sha
