/-
  THE PLAIN LAWS of pieces that come in any order. Of no program.
-/
import Derived.Test.YtidkadlmnidmoaaArqAskedLaw
set_option linter.unusedVariables false
namespace Go.Lm.Arq
def turn (n T j : Nat) : Nat := (j + T) % n
def rank (n T i : Nat) : Nat := (i + (n - T % n)) % n
theorem turn_lt (n T j : Nat) (hn : 0 < n) : turn n T j < n := Nat.mod_lt _ hn
theorem rank_lt (n T j : Nat) (hn : 0 < n) : rank n T j < n := Nat.mod_lt _ hn
theorem mod_two {a n : Nat} (h : a < 2 * n) : a % n = if a < n then a else a - n := by
  split
  · exact Nat.mod_eq_of_lt (by assumption)
  · rw [Nat.mod_eq_sub_mod (by omega), Nat.mod_eq_of_lt (by omega)]
theorem rank_turn (n T j : Nat) (hj : j < n) : rank n T (turn n T j) = j := by
  unfold rank turn
  have ht : T % n < n := Nat.mod_lt _ (by omega)
  rw [Nat.add_mod j T n, Nat.mod_eq_of_lt hj]
  generalize T % n = t at *
  rw [mod_two (show j + t < 2 * n by omega)]
  split
  · rw [show j + t + (n - t) = j + n by omega, Nat.add_mod_right, Nat.mod_eq_of_lt hj]
  · rw [show j + t - n + (n - t) = j by omega, Nat.mod_eq_of_lt hj]
theorem turn_rank (n T i : Nat) (hi : i < n) : turn n T (rank n T i) = i := by
  unfold rank turn
  have ht : T % n < n := Nat.mod_lt _ (by omega)
  rw [Nat.add_mod _ T n, Nat.mod_mod]
  generalize T % n = t at *
  rw [mod_two (show i + (n - t) < 2 * n by omega)]
  split
  · rw [show i + (n - t) + t = i + n by omega, Nat.add_mod_right, Nat.mod_eq_of_lt hi]
  · rw [show i + (n - t) - n + t = i by omega, Nat.mod_eq_of_lt hi]
/-- Which ones came behind j rounds. -/
def came_ (n T j : Nat) : List Bool := (List.range n).map fun i => decide (rank n T i < j)
theorem came_length (n T j : Nat) : (came_ n T j).length = n := by simp [came_]
theorem came_get (n T j i : Nat) (hi : i < n) : (came_ n T j)[i]'(by rw [came_length]; exact hi) = decide (rank n T i < j) := by simp [came_]
theorem came_set (n T j : Nat) (hj : j < n) : (came_ n T j).set (turn n T j) true = came_ n T (j + 1) := by
  apply List.ext_getElem
  · rw [List.length_set, came_length, came_length]
  · intro i h1 h2
    rw [came_length] at h2
    rw [List.getElem_set, came_get n T j i h2, came_get n T (j + 1) i h2]
    split
    · next h => rw [← h, rank_turn n T j hj]; simp
    · next h =>
      have : rank n T i ≠ j := fun e => h (by rw [← e, turn_rank n T i h2])
      congr 1
      rw [eq_iff_iff]
      omega
theorem came_at (n T j : Nat) (hj : j < n) : (came_ n T j)[turn n T j]'(by rw [came_length]; exact turn_lt n T j (by omega)) = false := by
  rw [came_get n T j _ (turn_lt n T j (by omega)), rank_turn n T j hj]
  simp
theorem came_zero (n T : Nat) : came_ n T 0 = List.replicate n false := by
  apply List.ext_getElem
  · rw [came_length, List.length_replicate]
  · intro i h1 h2
    rw [came_length] at h1
    rw [came_get n T 0 i h1, List.getElem_replicate]
    simp
theorem came_all (n T : Nat) : false ∉ came_ n T n := by
  intro h
  obtain ⟨i, hi, e⟩ := List.getElem_of_mem h
  rw [came_length] at hi
  rw [came_get n T n i hi, decide_eq_true (rank_lt n T i (by omega))] at e
  cases e
theorem came_some (n T j : Nat) (hj : j < n) : false ∈ came_ n T j := by
  have := came_at n T j hj
  rw [← this]
  exact List.getElem_mem _
theorem lack_count (h : List Bool) : ((List.range h.length).filter fun i => !h.getD i false).length = h.countP (fun b => !b) := by
  have e : h = (List.range h.length).map (fun i => h.getD i false) := by
    apply List.ext_getElem
    · simp
    · intro i h1 h2
      simp [List.getD_eq_getElem?_getD, h1]
  conv => rhs; rw [e, List.countP_map]
  rw [List.countP_eq_length_filter]
  rfl
theorem came_count (n T j : Nat) (hj : j ≤ n) : (came_ n T j).countP (fun b => !b) = n - j := by
  induction j with
  | zero => rw [came_zero]; simp [List.countP_replicate]
  | succ j ih =>
    have hl : turn n T j < (came_ n T j).length := by rw [came_length]; exact turn_lt n T j (by omega)
    rw [← came_set n T j (by omega), List.countP_set hl, ih (by omega), came_at n T j (by omega)]
    simp
    omega
theorem asked_came (n T j : Nat) (hj : j ≤ n) : (asked (came_ n T j) (n : Int) n).length = n - j := by
  unfold asked
  have := lack_count (came_ n T j)
  rw [came_length] at this
  rw [List.length_take, this, came_count n T j hj]
  simp
/-! ### The pieces -/
def piece (l : List UInt8) (k i : Nat) : List UInt8 := (l.take (min (k * (i + 1)) l.length)).drop (k * i)
theorem take_min (l : List UInt8) (q : Nat) : l.take (min q l.length) = l.take q := by
  by_cases h : q ≤ l.length
  · rw [Nat.min_eq_left h]
  · rw [Nat.min_eq_right (by omega), List.take_of_length_le (Nat.le_refl _), List.take_of_length_le (by omega)]
theorem pieces_take (l : List UInt8) (k m : Nat) : ((List.range m).map (piece l k)).flatten = l.take (k * m) := by
  induction m with
  | zero => simp
  | succ m ih =>
    rw [List.range_succ, List.map_append, List.flatten_append, ih]
    simp only [List.map_cons, List.map_nil, List.flatten_cons, List.flatten_nil, List.append_nil]
    unfold piece
    rw [take_min]
    exact take_drop_cat l (Nat.mul_le_mul_left k (by omega))
theorem count_bounds (L k : Nat) (hk : 0 < k) : L ≤ k * ((L + k - 1) / k) ∧ ∀ i, i < (L + k - 1) / k → k * i < L := by
  have h1 := Nat.div_add_mod (L + k - 1) k
  have h2 := Nat.mod_lt (L + k - 1) hk
  refine ⟨by omega, fun i hi => ?_⟩
  have h3 : k * (i + 1) ≤ k * ((L + k - 1) / k) := Nat.mul_le_mul_left k hi
  rw [Nat.mul_succ] at h3
  omega
theorem pieces_all (l : List UInt8) (k : Nat) (hk : 0 < k) : ((List.range ((l.length + k - 1) / k)).map (piece l k)).flatten = l := by
  rw [pieces_take, List.take_of_length_le (count_bounds l.length k hk).1]
theorem piece_length (l : List UInt8) (k i : Nat) (hk : 0 < k) (hi : i < (l.length + k - 1) / k) : ((piece l k i).length : Int) = min (max ((l.length : Int) - (i : Int) * (k : Int)) 0) (k : Int) := by
  have h := (count_bounds l.length k hk).2 i hi
  have e : (i : Int) * (k : Int) = ((k * i : Nat) : Int) := by rw [Nat.mul_comm]; exact (Int.natCast_mul i k).symm
  unfold piece
  rw [List.length_drop, List.length_take, e, Nat.mul_succ]
  generalize k * i = x at *
  omega
end Go.Lm.Arq
