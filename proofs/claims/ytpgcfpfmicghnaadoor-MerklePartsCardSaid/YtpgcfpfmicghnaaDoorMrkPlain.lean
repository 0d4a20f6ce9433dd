/-
  THE PLAIN LAWS of the digest above all: by halves, and by a stack. Of no program.
-/
import Derived.Test.YtpgcfpfmicghnaaDoorGen
set_option linter.unusedVariables false
namespace Go.Lm.Mrk
/-- How often 2 divides a number that is not 0. -/
def tz (n : Nat) : Nat := if h : n % 2 = 0 ∧ 0 < n then tz (n / 2) + 1 else 0
termination_by n
decreasing_by omega
theorem tz_even (n : Nat) (h : 0 < n) : tz (2 * n) = tz n + 1 := by
  rw [tz, dif_pos (by omega), show 2 * n / 2 = n by omega]
theorem tz_odd (n : Nat) : tz (2 * n + 1) = 0 := by
  rw [tz, dif_neg (by omega)]
/-- How many ones a number has. -/
def pc (n : Nat) : Nat := if h : n = 0 then 0 else n % 2 + pc (n / 2)
termination_by n
decreasing_by omega
theorem pc_zero : pc 0 = 0 := by rw [pc, dif_pos rfl]
theorem pc_even (n : Nat) : pc (2 * n) = pc n := by
  by_cases h : n = 0
  · subst h; rfl
  · rw [pc, dif_neg (by omega), show 2 * n / 2 = n by omega]; omega
theorem pc_odd (n : Nat) : pc (2 * n + 1) = pc n + 1 := by
  rw [pc, dif_neg (by omega), show (2 * n + 1) / 2 = n by omega]; omega
theorem pc_next (n : Nat) : tz (n + 1) ≤ pc n ∧ pc (n + 1) + tz (n + 1) = pc n + 1 := by
  induction n using Nat.strongRecOn with
  | _ n ih =>
    obtain ⟨h, e⟩ : ∃ h, n = 2 * h ∨ n = 2 * h + 1 := ⟨n / 2, by omega⟩
    rcases e with e | e
    · rw [e, tz_odd, pc_even, pc_odd]; omega
    · have := ih h (by omega)
      rw [e, show 2 * h + 1 + 1 = 2 * (h + 1) by omega, tz_even _ (by omega), pc_even, pc_odd]
      omega
theorem pc_pos (n : Nat) (h : 0 < n) : 0 < pc n := by
  induction n using Nat.strongRecOn with
  | _ n ih =>
    obtain ⟨m, e⟩ : ∃ m, n = 2 * m ∨ n = 2 * m + 1 := ⟨n / 2, by omega⟩
    rcases e with e | e
    · rw [e, pc_even]; exact ih m (by omega) (by omega)
    · rw [e, pc_odd]; omega
theorem pc_le (n : Nat) : pc n ≤ n := by
  induction n with
  | zero => rw [pc_zero]; omega
  | succ n ih => have := pc_next n; omega
theorem tz_pow (k n : Nat) : tz (2 ^ k * (2 * n + 1)) = k := by
  induction k with
  | zero => rw [Nat.pow_zero, Nat.one_mul, tz_odd]
  | succ k ih =>
    rw [Nat.pow_succ, Nat.mul_comm (2 ^ k) 2, Nat.mul_assoc, tz_even _ (Nat.mul_pos (Nat.two_pow_pos k) (by omega)), ih]
theorem tz_ge (k n : Nat) (h : 0 < n) : k ≤ tz (2 ^ k * n) := by
  induction k with
  | zero => omega
  | succ k ih =>
    rw [Nat.pow_succ, Nat.mul_comm (2 ^ k) 2, Nat.mul_assoc, tz_even _ (Nat.mul_pos (Nat.two_pow_pos k) h)]
    omega

/-- The greatest power of 2 that is less than a number (of 2 at least). -/
def topGo : Nat → Nat → Nat → Nat
  | 0, k, _ => k
  | f + 1, k, n => if 2 * k < n then topGo f (2 * k) n else k
def top (n : Nat) : Nat := topGo n 1 n
theorem topGo_spec : ∀ (f e n : Nat), 2 ^ e < n → n ≤ 2 ^ e + f → ∃ e', topGo f (2 ^ e) n = 2 ^ e' ∧ 2 ^ e' < n ∧ n ≤ 2 * 2 ^ e'
  | 0, e, n, h1, h2 => by omega
  | f + 1, e, n, h1, h2 => by
    unfold topGo
    have hp := Nat.two_pow_pos e
    split
    · have : 2 * 2 ^ e = 2 ^ (e + 1) := by rw [Nat.pow_succ]; omega
      rw [this]
      exact topGo_spec f (e + 1) n (by omega) (by omega)
    · exact ⟨e, rfl, h1, by omega⟩
theorem top_spec (n : Nat) (h : 2 ≤ n) : ∃ e, top n = 2 ^ e ∧ 2 ^ e < n ∧ n ≤ 2 * 2 ^ e := topGo_spec n 0 n (by rw [Nat.pow_zero]; omega) (by omega)
theorem top_lt (n : Nat) (h : 2 ≤ n) : 0 < top n ∧ top n < n := by
  obtain ⟨e, he, h1, _⟩ := top_spec n h
  rw [he]
  exact ⟨Nat.two_pow_pos e, h1⟩
theorem pow_unique {a b n : Nat} (h1 : 2 ^ a < n) (h2 : n ≤ 2 * 2 ^ a) (h3 : 2 ^ b < n) (h4 : n ≤ 2 * 2 ^ b) : a = b := by
  rcases Nat.lt_trichotomy a b with h | h | h
  · have := Nat.pow_le_pow_right (show 0 < 2 by decide) h
    rw [Nat.pow_succ] at this
    omega
  · exact h
  · have := Nat.pow_le_pow_right (show 0 < 2 by decide) h
    rw [Nat.pow_succ] at this
    omega
theorem top_eq (n e : Nat) (h1 : 2 ^ e < n) (h2 : n ≤ 2 * 2 ^ e) : top n = 2 ^ e := by
  have hp := Nat.two_pow_pos e
  obtain ⟨e', he, h3, h4⟩ := top_spec n (by omega)
  rw [he, pow_unique h3 h4 h1 h2]

section
variable {α : Type} (e0 : α) (node : α → α → α)
/-- The digest above all, by halves. -/
def root (l : List α) : α := if h : l.length < 2 then l.headD e0 else node (root (l.take (top l.length))) (root (l.drop (top l.length)))
termination_by l.length
decreasing_by
  · have := top_lt l.length (by omega)
    rw [List.length_take]; omega
  · have := top_lt l.length (by omega)
    rw [List.length_drop]; omega
theorem root_nil : root e0 node [] = e0 := by rw [root]; rfl
theorem root_one (d : α) : root e0 node [d] = d := by rw [root]; rfl
theorem root_two (l : List α) (h : 2 ≤ l.length) : root e0 node l = node (root e0 node (l.take (top l.length))) (root e0 node (l.drop (top l.length))) := by
  rw [root, dif_neg (by omega)]

/-- The two uppermost are joined. -/
def join (S : List α) : List α := S.take (S.length - 2) ++ [node (S.getD (S.length - 2) e0) (S.getD (S.length - 1) e0)]
def joins : Nat → List α → List α
  | 0, S => S
  | n + 1, S => joins n (join e0 node S)
theorem join_two (S : List α) (x y : α) : join e0 node (S ++ [x, y]) = S ++ [node x y] := by
  unfold join
  simp [List.getD_eq_getElem?_getD]
theorem joins_add (m n : Nat) (S : List α) : joins e0 node (m + n) S = joins e0 node n (joins e0 node m S) := by
  induction m generalizing S with
  | zero => rw [Nat.zero_add]; rfl
  | succ m ih => rw [show m + 1 + n = (m + n) + 1 by omega]; exact ih _
theorem joins_succ (n : Nat) (S : List α) : joins e0 node (n + 1) S = join e0 node (joins e0 node n S) := by
  rw [joins_add]; rfl
theorem join_length (S : List α) (h : 2 ≤ S.length) : (join e0 node S).length = S.length - 1 := by
  unfold join
  rw [List.length_append, List.length_take, List.length_singleton]
  omega
theorem joins_length (n : Nat) (S : List α) (h : n < S.length) : (joins e0 node n S).length = S.length - n := by
  induction n with
  | zero => rfl
  | succ n ih => rw [joins_succ, join_length _ _ _ (by rw [ih (by omega)]; omega), ih (by omega)]; omega
/-- What the stack holds behind a row that began at i. -/
def procs : Nat → List α → List α → List α
  | _, S, [] => S
  | i, S, d :: l => procs (i + 1) (joins e0 node (tz (i + 1)) (S ++ [d])) l
theorem procs_append (i : Nat) (S l m : List α) : procs e0 node i S (l ++ m) = procs e0 node (i + l.length) (procs e0 node i S l) m := by
  induction l generalizing i S with
  | nil => rfl
  | cons d l ih => rw [List.cons_append, procs, procs, ih, List.length_cons, show i + 1 + l.length = i + (l.length + 1) by omega]
theorem procs_next (l : List α) (k : Nat) (hk : k < l.length) : procs e0 node 0 [] (l.take (k + 1)) = joins e0 node (tz (k + 1)) (procs e0 node 0 [] (l.take k) ++ [l[k]]) := by
  rw [List.take_succ_eq_append_getElem hk, procs_append, List.length_take, Nat.zero_add, Nat.min_eq_left (by omega)]
  rfl
theorem procs_length (l : List α) (k : Nat) (hk : k ≤ l.length) : (procs e0 node 0 [] (l.take k)).length = pc k := by
  induction k with
  | zero => rw [pc_zero]; rfl
  | succ k ih =>
    have h := pc_next k
    rw [procs_next e0 node l k (by omega), joins_length _ _ _ _ (by rw [List.length_append, ih (by omega), List.length_singleton]; omega), List.length_append, ih (by omega), List.length_singleton]
    omega
/-- A whole tree of 2^k. -/
theorem procs_whole (k : Nat) : ∀ (q : Nat) (S l : List α), l.length = 2 ^ k → procs e0 node (2 ^ k * q) S l = joins e0 node (tz (2 ^ k * q + 2 ^ k) - k) (S ++ [root e0 node l]) := by
  induction k with
  | zero =>
    intro q S l hl
    match l, hl with
    | [d], _ =>
      rw [root_one, Nat.pow_zero, Nat.one_mul, Nat.sub_zero]
      rfl
  | succ k ih =>
    intro q S l hl
    have hp := Nat.two_pow_pos k
    rw [Nat.pow_succ] at hl
    have e1 : l = l.take (2 ^ k) ++ l.drop (2 ^ k) := (List.take_append_drop _ _).symm
    have l1 : (l.take (2 ^ k)).length = 2 ^ k := by rw [List.length_take]; omega
    have l2 : (l.drop (2 ^ k)).length = 2 ^ k := by rw [List.length_drop]; omega
    have hr : root e0 node l = node (root e0 node (l.take (2 ^ k))) (root e0 node (l.drop (2 ^ k))) := by
      rw [root_two _ _ _ (by omega), top_eq l.length k (by omega) (by omega)]
    have i1 : 2 ^ (k + 1) * q = 2 ^ k * (2 * q) := by rw [Nat.pow_succ, Nat.mul_assoc]
    have i2 : 2 ^ k * (2 * q) + 2 ^ k = 2 ^ k * (2 * q + 1) := by rw [Nat.mul_add, Nat.mul_one]
    have i3 : 2 ^ k * (2 * q + 1) + 2 ^ k = 2 ^ (k + 1) * (q + 1) := by
      rw [Nat.pow_succ, Nat.mul_assoc, show 2 * (q + 1) = 2 * q + 1 + 1 by omega, Nat.mul_add (2 ^ k) (2 * q + 1) 1, Nat.mul_one]
    conv => lhs; rw [e1, i1]
    rw [procs_append, l1, ih (2 * q) S _ l1, i2, tz_pow, Nat.sub_self, joins, ih (2 * q + 1) _ _ l2, i3]
    have hge := tz_ge (k + 1) (q + 1) (by omega)
    have i4 : 2 ^ (k + 1) * q + 2 ^ (k + 1) = 2 ^ (k + 1) * (q + 1) := by rw [Nat.mul_add, Nat.mul_one]
    rw [i4]
    generalize tz (2 ^ (k + 1) * (q + 1)) = t at *
    rw [show t - k = 1 + (t - (k + 1)) by omega, joins_add, List.append_assoc]
    show joins e0 node _ (join e0 node (S ++ ([_] ++ [_]))) = _
    rw [List.singleton_append, join_two, hr]
/-- The greatest power of 2 that is not more than a number (of 1 at least). -/
theorem pow_le (n : Nat) (h : 0 < n) : ∃ e, 2 ^ e ≤ n ∧ n < 2 * 2 ^ e := by
  induction n with
  | zero => omega
  | succ n ih =>
    by_cases hn : n = 0
    · subst hn; exact ⟨0, by decide, by decide⟩
    · obtain ⟨e, h1, h2⟩ := ih (by omega)
      by_cases h3 : n + 1 < 2 * 2 ^ e
      · exact ⟨e, by omega, h3⟩
      · refine ⟨e + 1, ?_, ?_⟩
        · rw [Nat.pow_succ]; omega
        · rw [Nat.pow_succ]; omega
/-- What is left on the stack, joined from the right. -/
def fin : List α → α
  | [] => e0
  | [d] => d
  | d :: l => node d (fin l)
theorem fin_cons (d : α) (l : List α) (h : l ≠ []) : fin e0 node (d :: l) = node d (fin e0 node l) := by
  cases l with
  | nil => exact absurd rfl h
  | cons x l => rfl
theorem fin_join (S : List α) (x y : α) : fin e0 node (S ++ [node x y]) = fin e0 node (S ++ [x, y]) := by
  induction S with
  | nil => rfl
  | cons d S ih => rw [List.cons_append, List.cons_append, fin_cons _ _ _ _ (by simp), fin_cons _ _ _ _ (by simp), ih]
theorem fin_join' (S : List α) (h : 2 ≤ S.length) : fin e0 node (join e0 node S) = fin e0 node S := by
  have e : S = S.take (S.length - 2) ++ [S.getD (S.length - 2) e0, S.getD (S.length - 1) e0] := by
    apply List.ext_getElem
    · simp; omega
    · intro i h1 h2
      by_cases hi : i < S.length - 2
      · rw [List.getElem_append_left (by rw [List.length_take]; omega), List.getElem_take]
      · rw [List.getElem_append_right (by rw [List.length_take]; omega)]
        simp only [List.length_take]
        by_cases hj : i = S.length - 2
        · subst hj
          have : S.length - 2 - min (S.length - 2) S.length = 0 := by omega
          simp only [this, List.getElem_cons_zero, List.getD_eq_getElem?_getD, List.getElem?_eq_getElem h1, Option.getD_some]
        · obtain rfl : i = S.length - 1 := by omega
          have : S.length - 1 - min (S.length - 2) S.length = 1 := by omega
          simp only [this, List.getElem_cons_succ, List.getElem_cons_zero, List.getD_eq_getElem?_getD, List.getElem?_eq_getElem h1, Option.getD_some]
  conv => rhs; rw [e]
  rw [← fin_join]
  rfl
theorem procs_fin (n : Nat) : ∀ (m q : Nat) (S l : List α), l.length = n → 0 < n → (n < 2 ^ m) → ∃ R, procs e0 node (2 ^ m * q) S l = S ++ R ∧ R ≠ [] ∧ fin e0 node R = root e0 node l := by
  induction n using Nat.strongRecOn with
  | _ n ih =>
    intro m q S l hl hn hm
    obtain ⟨e, he1, he2⟩ := pow_le n hn
    have hp := Nat.two_pow_pos e
    have hem : e < m := by
      apply Classical.byContradiction
      intro h
      have := Nat.pow_le_pow_right (show 0 < 2 by decide) (show m ≤ e by omega)
      omega
    obtain ⟨c, rfl⟩ : ∃ c, m = e + 1 + c := ⟨m - (e + 1), by omega⟩
    have i1 : 2 ^ (e + 1 + c) * q = 2 ^ e * (2 * (2 ^ c * q)) := by
      rw [Nat.pow_add, Nat.pow_succ, Nat.mul_assoc, Nat.mul_assoc]
    have e1 : l = l.take (2 ^ e) ++ l.drop (2 ^ e) := (List.take_append_drop _ _).symm
    have l1 : (l.take (2 ^ e)).length = 2 ^ e := by rw [List.length_take]; omega
    have h1 := procs_whole e0 node e (2 * (2 ^ c * q)) S (l.take (2 ^ e)) l1
    have i2 : 2 ^ e * (2 * (2 ^ c * q)) + 2 ^ e = 2 ^ e * (2 * (2 ^ c * q) + 1) := by rw [Nat.mul_add, Nat.mul_one]
    rw [i2, tz_pow, Nat.sub_self, joins] at h1
    by_cases hne : n = 2 ^ e
    · have : l.take (2 ^ e) = l := List.take_of_length_le (by omega)
      rw [this] at h1
      rw [i1, h1]
      exact ⟨[root e0 node l], rfl, by simp, rfl⟩
    · have l2 : (l.drop (2 ^ e)).length = n - 2 ^ e := by rw [List.length_drop]; omega
      obtain ⟨R, hR, hR0, hfin⟩ := ih (n - 2 ^ e) (by omega) e (2 * (2 ^ c * q) + 1) (S ++ [root e0 node (l.take (2 ^ e))]) (l.drop (2 ^ e)) l2 (by omega) (by omega)
      refine ⟨root e0 node (l.take (2 ^ e)) :: R, ?_, by simp, ?_⟩
      · conv => lhs; rw [e1, i1]
        rw [procs_append, l1, h1, i2, hR, List.append_assoc]
        rfl
      · rw [fin_cons _ _ _ _ hR0, hfin, root_two e0 node l (by omega), top_eq l.length e (by omega) (by omega)]
theorem fin_root (l : List α) (h : l ≠ []) : fin e0 node (procs e0 node 0 [] l) = root e0 node l := by
  have hn : 0 < l.length := List.length_pos_iff.2 h
  obtain ⟨R, hR, _, hf⟩ := procs_fin e0 node l.length l.length 0 [] l rfl hn Nat.lt_two_pow_self
  rw [Nat.mul_zero, List.nil_append] at hR
  rw [hR, hf]
end
end Go.Lm.Mrk
