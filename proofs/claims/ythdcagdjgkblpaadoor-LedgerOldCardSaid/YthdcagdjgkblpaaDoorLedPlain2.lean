/-
  PLAIN: rows of records. No program in sight.
-/
import Derived.Test.YthdcagdjgkblpaaDoorLedPlain
namespace Go.Lm.Led

def puts (R : List (Nat × Nat)) : List UInt8 := (R.map fun r => put r.1 r.2).flatten
def Ok (r : Nat × Nat) : Prop := (r.1 = 1 ∨ r.1 = 2) ∧ r.2 < 18446744073709551616
theorem puts_cons (r : Nat × Nat) (R : List (Nat × Nat)) : puts (r :: R) = put r.1 r.2 ++ puts R := rfl
theorem puts_length (R : List (Nat × Nat)) : (puts R).length = 13 * R.length := by
  induction R with
  | nil => rfl
  | cons r R ih => rw [puts_cons, List.length_append, put_length, ih, List.length_cons]; omega
theorem puts_append (R S : List (Nat × Nat)) : puts (R ++ S) = puts R ++ puts S := by unfold puts; rw [List.map_append, List.flatten_append]
theorem reads_app : ∀ (R : List (Nat × Nat)) (n : Nat) (t : List UInt8), (∀ r ∈ R, Ok r) → reads (R.length + n) (puts R ++ t) = R ++ reads n t
  | [], n, t, _ => by simp [puts]
  | r :: R, n, t, h => by
    have h0 := h r (by simp)
    have ih := reads_app R n t (fun x hx => h x (by simp [hx]))
    have e1 : (puts (r :: R) ++ t).take 13 = put r.1 r.2 := by rw [puts_cons, List.append_assoc]; exact List.take_left' (put_length _ _)
    have e2 : (puts (r :: R) ++ t).drop 13 = puts R ++ t := by rw [puts_cons, List.append_assoc]; exact List.drop_left' (put_length _ _)
    rw [List.length_cons, show R.length + 1 + n = (R.length + n) + 1 by omega]
    show (match one ((puts (r :: R) ++ t).take 13) with | none => [] | some r' => r' :: reads (R.length + n) ((puts (r :: R) ++ t).drop 13)) = _
    rw [e1, e2, one_of_put _ _ h0.1 h0.2, ih]
    rfl
theorem reads_succ (n : Nat) (l : List UInt8) : reads (n + 1) l = (match one (l.take 13) with | none => [] | some r => r :: reads n (l.drop 13)) := rfl
theorem reads_fuel : ∀ (n m : Nat) (l : List UInt8), l.length < 13 * n → l.length < 13 * m → reads n l = reads m l
  | 0, _, l, h, _ => by omega
  | _ + 1, 0, l, _, h => by omega
  | n + 1, m + 1, l, h1, h2 => by
    rw [reads_succ, reads_succ]
    cases h : one (l.take 13) with
    | none => rfl
    | some r =>
      have h3 := one_length h
      rw [List.length_take] at h3
      have ih := reads_fuel n m (l.drop 13) (by rw [List.length_drop]; omega) (by rw [List.length_drop]; omega)
      simp only [ih]
theorem all_puts (R : List (Nat × Nat)) (t : List UInt8) (h : ∀ r ∈ R, Ok r) : all (puts R ++ t) = R ++ all t := by
  unfold all
  rw [← reads_app R (t.length + 1) t h]
  refine reads_fuel _ _ _ (by omega) ?_
  rw [List.length_append, puts_length]
  omega
theorem all_short (t : List UInt8) (h : t.length < 13) : all t = [] := by
  have h0 : one (t.take 13) = none := by
    cases e : one (t.take 13) with
    | none => rfl
    | some r => have := one_length e; rw [List.length_take] at this; omega
  unfold all
  rw [reads_succ, h0]
theorem all_ok (l : List UInt8) : ∀ r ∈ all l, Ok r := by
  unfold all
  generalize l.length + 1 = n
  induction n generalizing l with
  | zero => intro r hr; simp [reads] at hr
  | succ n ih =>
    intro r hr
    rw [reads_succ] at hr
    cases h : one (l.take 13) with
    | none => rw [h] at hr; simp at hr
    | some q =>
      rw [h] at hr
      rcases List.mem_cons.1 hr with rfl | hr
      · exact (one_put h).2
      · exact ih _ r hr
theorem all_len (l : List UInt8) : 13 * (all l).length ≤ l.length := by
  unfold all
  generalize l.length + 1 = n
  induction n generalizing l with
  | zero => simp [reads]
  | succ n ih =>
    rw [reads_succ]
    cases h : one (l.take 13) with
    | none => simp
    | some q =>
      have h1 := one_length h
      rw [List.length_take] at h1
      have h2 := ih (l.drop 13)
      rw [List.length_drop] at h2
      simp only [List.length_cons]
      omega
/-- A row that is cut. -/
theorem all_cut (R : List (Nat × Nat)) (h : ∀ r ∈ R, Ok r) (k : Nat) (hk : k ≤ 13 * R.length) : all ((puts R).take k) = R.take (k / 13) := by
  have hs : puts R = puts (R.take (k / 13)) ++ puts (R.drop (k / 13)) := by rw [← puts_append, List.take_append_drop]
  have hl : (puts (R.take (k / 13))).length = 13 * (k / 13) := by rw [puts_length, List.length_take]; omega
  have e : (puts R).take k = puts (R.take (k / 13)) ++ (puts (R.drop (k / 13))).take (k - 13 * (k / 13)) := by
    rw [hs, List.take_append, hl]
    rw [List.take_of_length_le (by rw [hl]; omega)]
  rw [e, all_puts _ _ (fun r hr => h r (List.mem_of_mem_take hr)), all_short _ (by rw [List.length_take]; omega), List.append_nil]
end Go.Lm.Led
