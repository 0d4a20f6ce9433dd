/-
  PLAIN: the codes of weights. No program in sight.
  PLAIN: streams of symbols. No program in sight.
  PLAIN: how deep weights are. No program in sight.
  PLAIN: the codes, one after the other. No program in sight.
  PLAIN: codes by running on. No program in sight.
  PLAIN: the table of codes, and what the next bits tell. No program in sight.
-/
import Derived.Test.YtfckokdgmbbheaaBitPlain
set_option linter.unusedVariables false
set_option linter.unusedSimpArgs false
namespace Go.Lm.Huf

/-! Places where something holds -/
theorem filter_at (p : Nat → Bool) : ∀ (n c : Nat) (h : c < ((List.range n).filter p).length), (List.range (((List.range n).filter p)[c])).filter p = ((List.range n).filter p).take c ∧ p (((List.range n).filter p)[c]) = true ∧ ((List.range n).filter p)[c] < n
  | 0, c, h => by simp at h
  | n + 1, c, h => by
    have e : (List.range (n + 1)).filter p = (List.range n).filter p ++ (if p n then [n] else []) := by
      rw [List.range_succ, List.filter_append]; congr 1
      cases hp : p n <;> simp [hp]
    by_cases hc : c < ((List.range n).filter p).length
    · obtain ⟨h1, h2, h3⟩ := filter_at p n c hc
      have e2 : ((List.range (n + 1)).filter p)[c] = ((List.range n).filter p)[c] := by
        have : ((List.range (n + 1)).filter p)[c]? = ((List.range n).filter p)[c]? := by rw [e, List.getElem?_append_left hc]
        rw [List.getElem?_eq_getElem h, List.getElem?_eq_getElem hc] at this
        exact Option.some.inj this
      rw [e2, e, List.take_append_of_le_length (by omega)]
      exact ⟨h1, h2, by omega⟩
    · have hp : p n = true := by
        cases hp : p n with
        | true => rfl
        | false => rw [e, hp] at h; simp at h; omega
      rw [e, hp] at h
      simp at h
      have hcl : c = ((List.range n).filter p).length := by omega
      have e2 : ((List.range (n + 1)).filter p)[c]'(by rw [e, hp]; simp; omega) = n := by
        have : ((List.range (n + 1)).filter p)[c]? = some n := by rw [e, hp, hcl]; simp
        rw [List.getElem?_eq_getElem (by rw [e, hp]; simp; omega)] at this
        exact Option.some.inj this
      rw [e2]
      refine ⟨?_, hp, by omega⟩
      rw [e, hp, hcl, List.take_append_of_le_length (by omega), List.take_length]
theorem filter_mono (p : Nat → Bool) (a b : Nat) (h : a ≤ b) : ((List.range a).filter p).length ≤ ((List.range b).filter p).length := by
  obtain ⟨k, rfl⟩ := Nat.exists_eq_add_of_le h
  induction k with
  | zero => exact Nat.le_refl _
  | succ k ih =>
    refine Nat.le_trans (ih (by omega)) ?_
    rw [show a + (k + 1) = (a + k) + 1 from rfl, List.range_succ, List.filter_append, List.length_append]
    omega
theorem filter_lt (p : Nat → Bool) (a b : Nat) (h : a < b) (hp : p a = true) : ((List.range a).filter p).length < ((List.range b).filter p).length := by
  refine Nat.lt_of_lt_of_le ?_ (filter_mono p (a + 1) b h)
  rw [List.range_succ, List.filter_append, List.length_append]
  simp [hp]

/-! Weights -/
def pw (w : Nat) : Nat := if w = 0 then 0 else 2 ^ (w - 1)
def worth : List Nat → Nat
  | [] => 0
  | w :: l => pw w + worth l
/-- how many of a weight there are ahead of place s -/
def cnt (l : List Nat) (w s : Nat) : Nat := ((List.range s).filter fun i => l.getD i 0 == w).length
/-- what the weights up to m are worth -/
def A (l : List Nat) : Nat → Nat
  | 0 => 0
  | m + 1 => A l m + cnt l (m + 1) l.length * 2 ^ m
theorem A_mono (l : List Nat) : ∀ (a b : Nat), a ≤ b → A l a ≤ A l b := by
  intro a b h
  obtain ⟨k, rfl⟩ := Nat.exists_eq_add_of_le h
  induction k with
  | zero => exact Nat.le_refl _
  | succ k ih => exact Nat.le_trans (ih (by omega)) (by show A l (a + k) ≤ A l (a + k) + _; omega)
theorem cnt_cons (w0 : Nat) (l : List Nat) (w : Nat) : cnt (w0 :: l) w (l.length + 1) = (if w0 = w then 1 else 0) + cnt l w l.length := by
  unfold cnt
  rw [List.range_succ_eq_map, List.filter_cons]
  have e : ((List.map Nat.succ (List.range l.length)).filter fun i => (w0 :: l).getD i 0 == w).length = ((List.range l.length).filter fun i => l.getD i 0 == w).length := by
    rw [List.filter_map, List.length_map]
    rfl
  by_cases h : w0 = w
  · rw [if_pos (by simp [h]), if_pos h, List.length_cons, e]; omega
  · rw [if_neg (by simp [h]), if_neg h, e]; omega
theorem A_cons (w0 : Nat) (l : List Nat) : ∀ m, A (w0 :: l) m = (if 0 < w0 ∧ w0 ≤ m then pw w0 else 0) + A l m
  | 0 => by rw [if_neg (by omega)]; rfl
  | m + 1 => by
    show A (w0 :: l) m + cnt (w0 :: l) (m + 1) (l.length + 1) * 2 ^ m = _ + (A l m + cnt l (m + 1) l.length * 2 ^ m)
    rw [A_cons w0 l m, cnt_cons, Nat.add_mul]
    by_cases h1 : w0 = m + 1
    · rw [if_neg (by omega), if_pos h1, if_pos (by omega)]
      unfold pw
      rw [if_neg (by omega), h1]
      simp only [Nat.add_sub_cancel, Nat.one_mul, Nat.zero_add]
      omega
    · rw [if_neg h1, Nat.zero_mul, Nat.zero_add]
      by_cases h2 : 0 < w0 ∧ w0 ≤ m
      · rw [if_pos h2, if_pos (by omega)]; omega
      · rw [if_neg h2, if_neg (by omega)]; omega
theorem A_nil : ∀ m, A [] m = 0
  | 0 => rfl
  | m + 1 => by show A [] m + cnt [] (m + 1) 0 * 2 ^ m = 0; rw [A_nil m]; simp [cnt]
theorem A_worth : ∀ (l : List Nat) (d : Nat), (∀ w ∈ l, w ≤ d) → A l d = worth l
  | [], d, _ => A_nil d
  | w :: l, d, h => by
    rw [A_cons, A_worth l d (fun x hx => h x (List.mem_cons_of_mem _ hx))]
    have := h w (by simp)
    show _ = pw w + worth l
    by_cases h0 : w = 0
    · subst h0; rw [if_neg (by omega)]; rfl
    · rw [if_pos (by omega)]
/-- Whole weights: of depth d. -/
structure Deep (l : List Nat) (d : Nat) : Prop where
  whole : worth l = 2 ^ d
  le : ∀ w ∈ l, w ≤ d
theorem Deep.div {l : List Nat} {d : Nat} (h : Deep l d) : ∀ (k m : Nat), m + k = d → 2 ^ m ∣ A l m
  | 0, m, hm => by rw [show m = d by omega, A_worth l d h.le, h.whole]; exact Nat.dvd_refl _
  | k + 1, m, hm => by
    have h1 := Deep.div h k (m + 1) (by omega)
    have h2 : 2 ^ m ∣ A l (m + 1) := Nat.dvd_trans ⟨2, by rw [Nat.pow_succ]⟩ h1
    exact (Nat.dvd_add_iff_left (Nat.dvd_mul_left (2 ^ m) (cnt l (m + 1) l.length))).2 h2
/-- where the codes of place s begin, among those of as many bits as can be -/
def start (l : List Nat) (s : Nat) : Nat := A l (l.getD s 0 - 1) + cnt l (l.getD s 0) s * 2 ^ (l.getD s 0 - 1)
def code (l : List Nat) (s : Nat) : Nat := start l s / 2 ^ (l.getD s 0 - 1)
theorem start_code {l : List Nat} {d : Nat} (h : Deep l d) (s : Nat) (h0 : 0 < l.getD s 0) (hd : l.getD s 0 ≤ d) : code l s * 2 ^ (l.getD s 0 - 1) = start l s := by
  unfold code
  refine Nat.div_mul_cancel ?_
  unfold start
  exact Nat.dvd_add (h.div (d - (l.getD s 0 - 1)) _ (by omega)) (Nat.dvd_mul_left _ _)
/-- Place s has the codes about X. -/
def Has (l : List Nat) (s X : Nat) : Prop := s < l.length ∧ 0 < l.getD s 0 ∧ start l s ≤ X ∧ X < start l s + 2 ^ (l.getD s 0 - 1)
theorem has_top {l : List Nat} {s X : Nat} (h : Has l s X) : A l (l.getD s 0 - 1) ≤ X ∧ X < A l (l.getD s 0) := by
  obtain ⟨h1, h2, h3, h4⟩ := h
  have hc : cnt l (l.getD s 0) s < cnt l (l.getD s 0) l.length := filter_lt (fun i => l.getD i 0 == l.getD s 0) s l.length h1 (by simp)
  unfold start at h3 h4
  obtain ⟨m, hm⟩ : ∃ m, l.getD s 0 = m + 1 := ⟨l.getD s 0 - 1, by omega⟩
  rw [hm] at hc h3 h4 ⊢
  simp only [Nat.add_sub_cancel] at h3 h4 ⊢
  refine ⟨by omega, Nat.lt_of_lt_of_le h4 ?_⟩
  show A l m + cnt l (m + 1) s * 2 ^ m + 2 ^ m ≤ A l m + cnt l (m + 1) l.length * 2 ^ m
  have := Nat.mul_le_mul_right (2 ^ m) hc
  rw [Nat.succ_mul] at this
  omega
theorem has_one {l : List Nat} {s t X : Nat} (h : Has l s X) (k : Has l t X) : s = t := by
  have h1 := has_top h
  have h2 := has_top k
  have hw : l.getD s 0 = l.getD t 0 := by
    rcases Nat.lt_trichotomy (l.getD s 0) (l.getD t 0) with h3 | h3 | h3
    · have := A_mono l (l.getD s 0) (l.getD t 0 - 1) (by omega); omega
    · exact h3
    · have := A_mono l (l.getD t 0) (l.getD s 0 - 1) (by omega); omega
  obtain ⟨a1, a2, a3, a4⟩ := h
  obtain ⟨b1, b2, b3, b4⟩ := k
  unfold start at a3 a4 b3 b4
  rw [← hw] at b3 b4
  obtain ⟨P, hP⟩ : ∃ P, 2 ^ (l.getD s 0 - 1) = P := ⟨_, rfl⟩
  rw [hP] at a3 a4 b3 b4
  rcases Nat.lt_trichotomy s t with h3 | h3 | h3
  · have hc : cnt l (l.getD s 0) s < cnt l (l.getD s 0) t := filter_lt (fun i => l.getD i 0 == l.getD s 0) s t h3 (by simp)
    have := Nat.mul_le_mul_right P hc
    rw [Nat.succ_mul] at this
    omega
  · exact h3
  · have hc : cnt l (l.getD s 0) t < cnt l (l.getD s 0) s := filter_lt (fun i => l.getD i 0 == l.getD s 0) t s h3 (by rw [hw]; exact beq_self_eq_true _)
    have := Nat.mul_le_mul_right P hc
    rw [Nat.succ_mul] at this
    omega
theorem level {l : List Nat} : ∀ (d X : Nat), X < A l d → ∃ m, m < d ∧ A l m ≤ X ∧ X < A l (m + 1)
  | 0, X, h => by simp [A] at h
  | d + 1, X, h => by
    by_cases hX : X < A l d
    · obtain ⟨m, h1, h2⟩ := level d X hX
      exact ⟨m, by omega, h2⟩
    · exact ⟨d, by omega, by omega, h⟩
theorem has_some {l : List Nat} {d : Nat} (h : Deep l d) (X : Nat) (hX : X < 2 ^ d) : ∃ s, Has l s X := by
  rw [← h.whole, ← A_worth l d h.le] at hX
  obtain ⟨m, hm, h1, h2⟩ := level d X hX
  have h2' : X < A l m + cnt l (m + 1) l.length * 2 ^ m := h2
  have hp : 0 < 2 ^ m := Nat.pow_pos (by decide)
  have hc : (X - A l m) / 2 ^ m < cnt l (m + 1) l.length := by rw [Nat.div_lt_iff_lt_mul hp]; omega
  obtain ⟨f1, f2, f3⟩ := filter_at (fun i => l.getD i 0 == m + 1) l.length ((X - A l m) / 2 ^ m) hc
  obtain ⟨s, hs⟩ : ∃ s, ((List.range l.length).filter fun i => l.getD i 0 == m + 1)[(X - A l m) / 2 ^ m] = s := ⟨_, rfl⟩
  rw [hs] at f1 f2 f3
  have hw : l.getD s 0 = m + 1 := by simpa using f2
  have hcs : cnt l (m + 1) s = (X - A l m) / 2 ^ m := by
    unfold cnt
    rw [f1, List.length_take]
    unfold cnt at hc
    omega
  refine ⟨s, f3, by omega, ?_, ?_⟩
  · unfold start
    rw [hw, Nat.add_sub_cancel, hcs]
    have := Nat.div_mul_le_self (X - A l m) (2 ^ m)
    omega
  · unfold start
    rw [hw, Nat.add_sub_cancel, hcs]
    have h3 := Nat.div_add_mod (X - A l m) (2 ^ m)
    have h4 := Nat.mod_lt (X - A l m) hp
    rw [Nat.mul_comm] at h3
    omega
end Go.Lm.Huf

set_option linter.unusedVariables false
set_option linter.unusedSimpArgs false
namespace Go.Lm.Huf
open Go.Lm

/-- The number of n bits from place i on, the first one the highest; noughts beyond the end. -/
def msb (M : List Bool) (i : Nat) : Nat → Nat
  | 0 => 0
  | n + 1 => 2 * msb M i n + (M.getD (i + n) false).toNat
theorem toNat_le (b : Bool) : b.toNat ≤ 1 := by cases b <;> simp
theorem msb_lt (M : List Bool) (i : Nat) : ∀ n, msb M i n < 2 ^ n
  | 0 => by simp [msb]
  | n + 1 => by
    have := msb_lt M i n
    have := toNat_le (M.getD (i + n) false)
    show 2 * msb M i n + (M.getD (i + n) false).toNat < 2 ^ (n + 1)
    rw [Nat.pow_succ]; omega
theorem msb_add (M : List Bool) (i a : Nat) : ∀ b, msb M i (a + b) = msb M i a * 2 ^ b + msb M (i + a) b
  | 0 => by simp [msb]
  | b + 1 => by
    show 2 * msb M i (a + b) + (M.getD (i + (a + b)) false).toNat = msb M i a * 2 ^ (b + 1) + (2 * msb M (i + a) b + (M.getD (i + a + b) false).toNat)
    rw [msb_add M i a b, Nat.add_assoc i a b, Nat.pow_succ, Nat.mul_add, ← Nat.mul_assoc, Nat.mul_comm 2 (msb M i a), Nat.mul_assoc (msb M i a), Nat.mul_comm 2 (2 ^ b)]
    omega
theorem msb_div (M : List Bool) (i a b : Nat) : msb M i (a + b) / 2 ^ b = msb M i a := by
  rw [msb_add, Nat.mul_comm, Nat.mul_add_div (Nat.pow_pos (by decide)), Nat.div_eq_of_lt (msb_lt _ _ _), Nat.add_zero]
theorem msb_none (M : List Bool) (i : Nat) (h : M.length ≤ i) : ∀ n, msb M i n = 0
  | 0 => rfl
  | n + 1 => by
    show 2 * msb M i n + (M.getD (i + n) false).toNat = 0
    rw [msb_none M i h n]
    simp [List.getD_eq_getElem?_getD, List.getElem?_eq_none (show M.length ≤ i + n by omega)]
theorem msb_right (M Z : List Bool) : ∀ n i, msb (M ++ Z) (M.length + i) n = msb Z i n
  | 0, i => rfl
  | n + 1, i => by
    show 2 * msb (M ++ Z) (M.length + i) n + ((M ++ Z).getD (M.length + i + n) false).toNat = 2 * msb Z i n + (Z.getD (i + n) false).toNat
    rw [msb_right M Z n i]
    congr 2
    rw [List.getD_eq_getElem?_getD, List.getD_eq_getElem?_getD, List.getElem?_append_right (by omega)]
    congr 2; omega
theorem msb_left (M Z : List Bool) : ∀ n i, i + n ≤ M.length → msb (M ++ Z) i n = msb M i n
  | 0, i, _ => rfl
  | n + 1, i, h => by
    show 2 * msb (M ++ Z) i n + ((M ++ Z).getD (i + n) false).toNat = 2 * msb M i n + (M.getD (i + n) false).toNat
    rw [msb_left M Z n i (by omega)]
    congr 2
    rw [List.getD_eq_getElem?_getD, List.getD_eq_getElem?_getD, List.getElem?_append_left (by omega)]
theorem msb_cons (b : Bool) (M : List Bool) (n : Nat) : msb (b :: M) 0 (n + 1) = b.toNat * 2 ^ n + msb M 0 n := by
  have h := msb_add (b :: M) 0 1 n
  rw [Nat.add_comm 1 n] at h
  rw [h]
  have h1 := msb_right [b] M n 0
  simp only [List.length_singleton, Nat.add_zero, List.singleton_append] at h1
  rw [show (0 + 1 : Nat) = 1 from rfl, h1]
  simp [msb]
/-- .. and it is the number of those bits the other way round. -/
theorem msb_num : ∀ (k : Nat) (l : List Bool), l.length = k → msb l.reverse 0 k = Bt.num l
  | 0, l, h => by
    have : l = [] := List.eq_nil_of_length_eq_zero h
    subst this; rfl
  | k + 1, l, h => by
    obtain ⟨m, b, rfl⟩ : ∃ m b, l = m ++ [b] := ⟨l.dropLast, l.getLast (by intro e; subst e; simp at h), (List.dropLast_concat_getLast _).symm⟩
    have hm : m.length = k := by simpa using h
    rw [List.reverse_append, List.reverse_singleton, List.singleton_append, msb_cons, msb_num k m hm, Bt.num_snoc, hm, Nat.mul_comm]
    omega
/-- Read from the end of L, of which k bits are left. -/
theorem msb_last (L : List Bool) (k n : Nat) (hk : k ≤ L.length) : msb L.reverse (L.length - k) n = Bt.num ((L.take k).drop (k - min n k)) * 2 ^ (n - min n k) := by
  have hs : L.reverse = (L.drop k).reverse ++ (L.take k).reverse := by rw [← List.reverse_append, List.take_append_drop]
  have hl : L.length - k = (L.drop k).reverse.length := by simp
  rw [hs, hl]
  have h0 := msb_right (L.drop k).reverse (L.take k).reverse n 0
  rw [Nat.add_zero] at h0
  rw [h0]
  have hT : (L.take k).length = k := by rw [List.length_take]; omega
  obtain ⟨T, hTe⟩ : ∃ T, L.take k = T := ⟨_, rfl⟩
  rw [hTe] at hT ⊢
  rcases Nat.le_total n k with h | h
  · rw [Nat.min_eq_left h, Nat.sub_self, Nat.pow_zero, Nat.mul_one]
    have hs2 : T.reverse = (T.drop (k - n)).reverse ++ (T.take (k - n)).reverse := by rw [← List.reverse_append, List.take_append_drop]
    have hn : (T.drop (k - n)).length = n := by rw [List.length_drop]; omega
    rw [hs2, msb_left _ _ n 0 (by rw [List.length_reverse]; omega)]
    exact msb_num n _ hn
  · rw [Nat.min_eq_right h, Nat.sub_self, List.drop_zero]
    obtain ⟨j, rfl⟩ := Nat.exists_eq_add_of_le h
    rw [msb_add, msb_num k T hT, Nat.zero_add, msb_none T.reverse k (by rw [List.length_reverse]; omega), Nat.add_sub_cancel_left]
    rfl

/-! The symbol that bits tell -/
instance (l : List Nat) (s X : Nat) : Decidable (Has l s X) := by unfold Has; exact inferInstance
def sym (l : List Nat) (X : Nat) : Nat := ((List.range l.length).find? fun s => decide (Has l s X)).getD 0
theorem sym_has {l : List Nat} {d : Nat} (h : Deep l d) (X : Nat) (hX : X < 2 ^ d) : Has l (sym l X) X := by
  obtain ⟨s, hs⟩ := has_some h X hX
  unfold sym
  cases hf : (List.range l.length).find? fun s => decide (Has l s X) with
  | none => exact absurd hs (by have := List.find?_eq_none.1 hf s (List.mem_range.2 hs.1); simpa using this)
  | some t => have := List.find?_some hf; simpa using this
theorem sym_eq {l : List Nat} {d : Nat} (h : Deep l d) {s X : Nat} (hX : X < 2 ^ d) (hs : Has l s X) : sym l X = s := has_one (sym_has h X hX) hs
/-- how many bits the code of a symbol has -/
def nb (l : List Nat) (d s : Nat) : Nat := d + 1 - l.getD s 0
theorem getD_le {l : List Nat} {d : Nat} (h : Deep l d) (s : Nat) : l.getD s 0 ≤ d := by
  rw [List.getD_eq_getElem?_getD]
  cases hs : l[s]? with
  | none => simp
  | some w => simpa using h.le w (List.mem_of_getElem? hs)
/-- A code is there just where its symbol is. -/
theorem has_code {l : List Nat} {d : Nat} (h : Deep l d) (M : List Bool) (p s : Nat) (hs : s < l.length) (h0 : 0 < l.getD s 0) : Has l s (msb M p d) ↔ msb M p (nb l d s) = code l s := by
  have hd := getD_le h s
  have hst := start_code h s h0 hd
  have e : nb l d s + (l.getD s 0 - 1) = d := by unfold nb; omega
  have hdiv := msb_div M p (nb l d s) (l.getD s 0 - 1)
  rw [e] at hdiv
  have hp : 0 < 2 ^ (l.getD s 0 - 1) := Nat.pow_pos (by decide)
  constructor
  · rintro ⟨_, _, h1, h2⟩
    rw [← hdiv]
    rw [← hst] at h1 h2
    rw [← Nat.succ_mul] at h2
    exact Nat.le_antisymm (Nat.lt_succ_iff.1 ((Nat.div_lt_iff_lt_mul hp).2 h2)) ((Nat.le_div_iff_mul_le hp).2 h1)
  · intro hc
    rw [← hdiv] at hc
    refine ⟨hs, h0, ?_, ?_⟩
    · rw [← hst, ← hc]; exact Nat.div_mul_le_self _ _
    · rw [← hst, ← hc, ← Nat.succ_mul]
      exact Nat.lt_mul_of_div_lt (Nat.lt_succ_self _) hp
/-- Symbols of a stream: so many, and how many bits they took. -/
def dec (l : List Nat) (d : Nat) (M : List Bool) : Nat → List Nat × Nat
  | 0 => ([], 0)
  | n + 1 => ((dec l d M n).1 ++ [sym l (msb M (dec l d M n).2 d)], (dec l d M n).2 + nb l d (sym l (msb M (dec l d M n).2 d)))
theorem dec_length (l : List Nat) (d : Nat) (M : List Bool) : ∀ n, (dec l d M n).1.length = n
  | 0 => rfl
  | n + 1 => by simp [dec, dec_length l d M n]
/-- The bits of symbols, as they are read. -/
def enc (l : List Nat) (d : Nat) : List Nat → List Bool
  | [] => []
  | s :: q => (Bt.low (code l s) (nb l d s)).reverse ++ enc l d q
theorem enc_append (l : List Nat) (d : Nat) : ∀ q r : List Nat, enc l d (q ++ r) = enc l d q ++ enc l d r
  | [], r => rfl
  | s :: q, r => by simp [enc, enc_append l d q r]
/-- A symbol that has a code. -/
def Okay (l : List Nat) (s : Nat) : Prop := s < l.length ∧ 0 < l.getD s 0
theorem code_lt {l : List Nat} {d : Nat} (h : Deep l d) {s : Nat} (hs : Okay l s) : code l s < 2 ^ nb l d s := by
  have hd := getD_le h s
  have hh : Has l s (start l s) := ⟨hs.1, hs.2, Nat.le_refl _, Nat.lt_add_of_pos_right (Nat.pow_pos (by decide))⟩
  have h1 := (has_top hh).2
  have h2 := A_mono l _ _ hd
  rw [A_worth l d h.le, h.whole] at h2
  have hst := start_code h s hs.2 hd
  have h0 := hs.2
  have e : nb l d s + (l.getD s 0 - 1) = d := by unfold nb; omega
  rw [← hst] at h1
  have h3 := Nat.lt_of_lt_of_le h1 h2
  rw [← e, Nat.pow_add] at h3
  exact Nat.lt_of_mul_lt_mul_right h3
theorem enc_here {l : List Nat} {d : Nat} (h : Deep l d) (q : List Nat) (s : Nat) (Z : List Bool) (hs : Okay l s) : sym l (msb (enc l d q ++ (enc l d [s] ++ Z)) (enc l d q).length d) = s := by
  refine sym_eq h (msb_lt _ _ _) ((has_code h _ _ s hs.1 hs.2).2 ?_)
  have h1 := msb_right (enc l d q) (enc l d [s] ++ Z) (nb l d s) 0
  rw [Nat.add_zero] at h1
  rw [h1]
  have hl : (Bt.low (code l s) (nb l d s)).length = nb l d s := Bt.low_length _ _
  have e1 : enc l d [s] = (Bt.low (code l s) (nb l d s)).reverse := by simp [enc]
  rw [e1, msb_left (Bt.low (code l s) (nb l d s)).reverse Z (nb l d s) 0 (by rw [List.length_reverse, hl]; omega), msb_num _ _ hl, Bt.num_low]
  exact Nat.mod_eq_of_lt (code_lt h hs)
theorem enc_one_length (l : List Nat) (d s : Nat) : (enc l d [s]).length = nb l d s := by simp [enc, Bt.low_length]
/-- What was written is read. -/
theorem dec_enc {l : List Nat} {d : Nat} (h : Deep l d) (q : List Nat) (hq : ∀ s ∈ q, Okay l s) : ∀ n, n ≤ q.length → dec l d (enc l d q) n = (q.take n, (enc l d (q.take n)).length)
  | 0, _ => by simp [dec, enc]
  | n + 1, hn => by
    have ih := dec_enc h q hq n (by omega)
    have e : enc l d q = enc l d (q.take n) ++ (enc l d [q[n]] ++ enc l d (q.drop (n + 1))) := by
      rw [← enc_append, ← enc_append, List.singleton_append, ← List.drop_eq_getElem_cons (show n < q.length by omega), List.take_append_drop]
    have hh := enc_here h (q.take n) q[n] (enc l d (q.drop (n + 1))) (hq _ (List.getElem_mem _))
    rw [← e] at hh
    show ((dec l d (enc l d q) n).1 ++ [sym l (msb (enc l d q) (dec l d (enc l d q) n).2 d)], (dec l d (enc l d q) n).2 + nb l d (sym l (msb (enc l d q) (dec l d (enc l d q) n).2 d))) = _
    rw [ih]
    simp only [hh]
    rw [List.take_succ_eq_append_getElem (show n < q.length by omega), enc_append, List.length_append, enc_one_length]
theorem nb_pos {l : List Nat} {d : Nat} (h : Deep l d) (s : Nat) : 0 < nb l d s := by have := getD_le h s; unfold nb; omega
theorem enc_grows {l : List Nat} {d : Nat} (h : Deep l d) : ∀ q : List Nat, q.length ≤ (enc l d q).length
  | [] => Nat.le_refl _
  | s :: q => by
    have h1 := enc_grows h q
    have h2 := nb_pos h s
    simp only [enc, List.length_append, List.length_reverse, Bt.low_length, List.length_cons]
    omega
end Go.Lm.Huf

set_option linter.unusedVariables false
set_option linter.unusedSimpArgs false
namespace Go.Lm.Huf
open Go.Lm

/-- Weights that may be, of depth d. -/
structure Good (l : List Nat) (d : Nat) : Prop where
  two : 2 ≤ l.length
  most : l.length ≤ 256
  tail : l.getLastD 0 ≠ 0
  deep : Deep l d
  one : 1 ≤ d
  eleven : d ≤ 11
def dep (l : List Nat) : Nat :=
  if 2 ≤ l.length ∧ l.length ≤ 256 ∧ l.getLastD 0 ≠ 0 ∧ worth l = 2 ^ Nat.log2 (worth l) ∧ Nat.log2 (worth l) ≤ 11 ∧ ∀ w ∈ l, w ≤ Nat.log2 (worth l) then Nat.log2 (worth l) else 0
theorem dep_eq {l : List Nat} {d : Nat} (h : Good l d) : dep l = d := by
  have e : Nat.log2 (worth l) = d := by rw [h.deep.whole]; exact Nat.log2_two_pow
  unfold dep
  rw [e, if_pos ⟨h.two, h.most, h.tail, h.deep.whole, h.eleven, h.deep.le⟩]
theorem dep_good {l : List Nat} (h : dep l ≠ 0) : Good l (dep l) := by
  unfold dep at h ⊢
  split at h
  · rename_i hc
    rw [if_pos hc]
    exact ⟨hc.1, hc.2.1, hc.2.2.1, ⟨hc.2.2.2.1, hc.2.2.2.2.2⟩, by omega, hc.2.2.2.2.1⟩
  · exact absurd rfl h
theorem dep_some {l : List Nat} {d : Nat} (h : dep l = d) (h0 : d ≠ 0) : Good l d := by subst h; exact dep_good h0
theorem dep_le (l : List Nat) : dep l ≤ 11 := by
  by_cases h : dep l = 0
  · omega
  · exact (dep_good h).eleven
/-! Powers of two -/
theorem pow_and {n : Nat} (h : 0 < n) : n &&& (n - 1) = 0 ↔ n = 2 ^ Nat.log2 n := by
  have h1 : 2 ^ Nat.log2 n ≤ n := Nat.log2_self_le (by omega)
  have h2 : n < 2 ^ (Nat.log2 n + 1) := Nat.lt_log2_self
  obtain ⟨k, hk⟩ : ∃ k, Nat.log2 n = k := ⟨_, rfl⟩
  rw [hk] at h1 h2 ⊢
  constructor
  · intro he
    rcases Nat.lt_or_ge (2 ^ k) n with h3 | h3
    · exfalso
      have t1 : n.testBit k = true := by
        rw [Nat.testBit_eq_decide_div_mod_eq, decide_eq_true_eq]
        have : n / 2 ^ k = 1 := Nat.div_eq_of_lt_le (by omega) (by rw [Nat.pow_succ] at h2; omega)
        omega
      have t2 : (n - 1).testBit k = true := by
        rw [Nat.testBit_eq_decide_div_mod_eq, decide_eq_true_eq]
        have : (n - 1) / 2 ^ k = 1 := Nat.div_eq_of_lt_le (by omega) (by rw [Nat.pow_succ] at h2; omega)
        omega
      have t3 : (n &&& (n - 1)).testBit k = true := by rw [Nat.testBit_and, t1, t2]; rfl
      rw [he] at t3
      simp at t3
    · omega
  · intro he
    rw [he, Nat.and_two_pow_sub_one_eq_mod, Nat.mod_self]
/-! The sum, place by place -/
theorem worth_append : ∀ (a b : List Nat), worth (a ++ b) = worth a + worth b
  | [], b => by simp [worth]
  | w :: a, b => by simp [worth, worth_append a b]; omega
theorem worth_take (l : List Nat) (k : Nat) (hk : k < l.length) : worth (l.take (k + 1)) = worth (l.take k) + pw l[k] := by
  rw [List.take_succ_eq_append_getElem hk, worth_append]
  simp [worth]
theorem pw_le {w : Nat} (h : w ≤ 11) : pw w ≤ 1024 := by
  unfold pw
  split
  · omega
  · have : 2 ^ (w - 1) ≤ 2 ^ 10 := Nat.pow_le_pow_right (by decide) (by omega)
    omega
theorem worth_bound : ∀ (l : List Nat), (∀ w ∈ l, w ≤ 11) → worth l ≤ 1024 * l.length
  | [], _ => by simp [worth]
  | w :: l, h => by
    have h1 := worth_bound l (fun x hx => h x (List.mem_cons_of_mem _ hx))
    have h2 := pw_le (h w (by simp))
    simp only [worth, List.length_cons]
    omega
theorem worth_pos (l : List Nat) (h : l.getLastD 0 ≠ 0) : 0 < worth l := by
  obtain ⟨m, b, rfl⟩ : ∃ m b, l = m ++ [b] := ⟨l.dropLast, l.getLast (by intro e; subst e; simp at h), (List.dropLast_concat_getLast _).symm⟩
  have hb : b ≠ 0 := by simpa using h
  rw [worth_append]
  have : 0 < pw b := by unfold pw; rw [if_neg hb]; exact Nat.pow_pos (by decide)
  simp [worth]
  omega
/-- The weights, of bytes. -/
def ns (l : List UInt8) : List Nat := l.map UInt8.toNat
theorem ns_length (l : List UInt8) : (ns l).length = l.length := by simp [ns]
theorem ns_take (l : List UInt8) (k : Nat) : (ns l).take k = ns (l.take k) := by simp [ns, List.map_take]
theorem ns_get (l : List UInt8) (k : Nat) (h : k < l.length) : (ns l)[k]'(by rw [ns_length]; exact h) = l[k].toNat := by simp [ns]
theorem ns_getD (l : List UInt8) (k : Nat) (h : k < l.length) : (ns l).getD k 0 = l[k].toNat := by simp [ns, List.getD_eq_getElem?_getD, h]
def okay (l : List UInt8) : Bool := (ns l).all fun w => decide (w ≤ 11)
theorem okay_take (l : List UInt8) (k : Nat) (h : k < l.length) : okay (l.take (k + 1)) = (okay (l.take k) && decide (l[k].toNat ≤ 11)) := by
  unfold okay ns
  rw [List.take_succ_eq_append_getElem h, List.map_append, List.all_append]
  simp
theorem okay_mono (l : List UInt8) (k : Nat) (h : okay l = true) : okay (l.take k) = true := by
  unfold okay ns at *
  rw [List.all_eq_true] at *
  intro x hx
  rw [List.map_take] at hx
  exact h x (List.mem_of_mem_take hx)
theorem okay_not (l : List UInt8) (k : Nat) (hk : k < l.length) (h : 11 < l[k].toNat) : okay l = false := by
  unfold okay
  rw [List.all_eq_false]
  refine ⟨l[k].toNat, ?_, by simp; omega⟩
  unfold ns
  exact List.mem_map_of_mem (List.getElem_mem _)
theorem okay_iff (l : List UInt8) : okay l = true ↔ ∀ w ∈ ns l, w ≤ 11 := by unfold okay; simp
/-- the greatest weight -/
def top (l : List UInt8) : Nat := (ns l).foldl max 0
theorem foldl_max_le (l : List Nat) : ∀ a d, l.foldl max a ≤ d ↔ a ≤ d ∧ ∀ w ∈ l, w ≤ d := by
  induction l with
  | nil => intro a d; simp
  | cons x l ih =>
    intro a d
    rw [List.foldl_cons, ih]
    simp only [List.mem_cons, forall_eq_or_imp, Nat.max_le, and_assoc]
theorem top_le (l : List UInt8) (d : Nat) : top l ≤ d ↔ ∀ w ∈ ns l, w ≤ d := by unfold top; rw [foldl_max_le]; simp
theorem top_take (l : List UInt8) (k : Nat) (h : k < l.length) : top (l.take (k + 1)) = max (top (l.take k)) l[k].toNat := by
  unfold top ns
  rw [List.take_succ_eq_append_getElem h, List.map_append, List.foldl_append]
  rfl
end Go.Lm.Huf

set_option linter.unusedVariables false
set_option linter.unusedSimpArgs false
namespace Go.Lm.Huf
open Go.Lm

/-- The code of place s: how many bits, which. -/
def cod (l : List Nat) (d s : Nat) : Nat × Nat := if l.getD s 0 = 0 then (0, 0) else (nb l d s, code l s)
/-- All of them. -/
def cods (l : List Nat) (d : Nat) : List (Nat × Nat) := (List.range l.length).map (cod l d)
/-- Those of weights below m, and of weight m ahead of place s. -/
def part (l : List Nat) (d m s : Nat) : List (Nat × Nat) := (List.range l.length).map fun i => if l.getD i 0 < m ∨ l.getD i 0 = m ∧ i < s then cod l d i else (0, 0)
theorem cods_length (l : List Nat) (d : Nat) : (cods l d).length = l.length := by simp [cods]
theorem part_length (l : List Nat) (d m s : Nat) : (part l d m s).length = l.length := by simp [part]
theorem part_zero (l : List Nat) (d : Nat) : part l d 1 0 = List.replicate l.length (0, 0) := by
  unfold part
  rw [List.eq_replicate_iff]
  refine ⟨by simp, fun b hb => ?_⟩
  obtain ⟨i, _, rfl⟩ := List.mem_map.1 hb
  split
  · rename_i h
    have h0 : l.getD i 0 = 0 := by omega
    unfold cod
    rw [if_pos h0]
  · rfl
theorem part_next (l : List Nat) (d m : Nat) : part l d m l.length = part l d (m + 1) 0 := by
  unfold part
  refine List.map_congr_left fun i hi => ?_
  have := List.mem_range.1 hi
  congr 1
  refine propext ⟨fun h => ?_, fun h => ?_⟩ <;> omega
theorem part_all {l : List Nat} {d : Nat} (h : ∀ w ∈ l, w ≤ d) : part l d (d + 1) 0 = cods l d := by
  unfold part cods
  refine List.map_congr_left fun i hi => ?_
  have hi := List.mem_range.1 hi
  have : l.getD i 0 ≤ d := by
    rw [List.getD_eq_getElem?_getD, List.getElem?_eq_getElem hi]
    exact h _ (List.getElem_mem _)
  rw [if_pos (by omega)]
theorem part_not (l : List Nat) (d m s : Nat) (h : l.getD s 0 ≠ m) : part l d m (s + 1) = part l d m s := by
  unfold part
  refine List.map_congr_left fun i hi => ?_
  congr 1
  refine propext ⟨fun h => ?_, fun h => ?_⟩
  · rcases h with h | ⟨h1, h2⟩
    · exact .inl h
    · rcases Nat.lt_or_ge i s with h3 | h3
      · exact .inr ⟨h1, h3⟩
      · have : i = s := by omega
        subst this; exact absurd h1 ‹_›
  · omega
theorem part_yes (l : List Nat) (d m s : Nat) (hs : s < l.length) (h : l.getD s 0 = m) : part l d m (s + 1) = (part l d m s).set s (cod l d s) := by
  refine List.ext_getElem (by simp [part]) fun i h1 h2 => ?_
  rw [List.getElem_set]
  simp only [part, List.getElem_map, List.getElem_range]
  by_cases hi : s = i
  · subst hi
    rw [if_pos rfl, if_pos (by omega)]
  · rw [if_neg hi]
    congr 1
    exact propext ⟨fun h => by omega, fun h => by omega⟩
theorem cnt_not (l : List Nat) (m s : Nat) (h : l.getD s 0 ≠ m) : cnt l m (s + 1) = cnt l m s := by
  unfold cnt
  rw [List.range_succ, List.filter_append, List.length_append]
  simp only [List.filter_cons, List.filter_nil]
  rw [if_neg (by rw [beq_iff_eq]; exact h)]
  rfl
theorem cnt_yes (l : List Nat) (m s : Nat) (h : l.getD s 0 = m) : cnt l m (s + 1) = cnt l m s + 1 := by
  unfold cnt
  rw [List.range_succ, List.filter_append, List.length_append]
  simp only [List.filter_cons, List.filter_nil]
  rw [if_pos (by rw [beq_iff_eq]; exact h)]
  rfl
/-- where the next code of weight m begins -/
def upto (l : List Nat) (m s : Nat) : Nat := A l (m - 1) + cnt l m s * 2 ^ (m - 1)
theorem upto_zero (l : List Nat) : upto l 1 0 = 0 := by simp [upto, A, cnt]
theorem upto_next (l : List Nat) (m : Nat) (h : 1 ≤ m) : upto l m l.length = upto l (m + 1) 0 := by
  obtain ⟨k, rfl⟩ := Nat.exists_eq_add_of_le h
  unfold upto
  rw [show 1 + k - 1 = k by omega, show 1 + k + 1 - 1 = k + 1 by omega, show 1 + k = k + 1 by omega]
  show _ = A l k + cnt l (k + 1) l.length * 2 ^ k + _
  simp [cnt]
theorem upto_not (l : List Nat) (m s : Nat) (h : l.getD s 0 ≠ m) : upto l m (s + 1) = upto l m s := by unfold upto; rw [cnt_not l m s h]
theorem upto_yes (l : List Nat) (m s : Nat) (h : l.getD s 0 = m) : upto l m (s + 1) = upto l m s + 2 ^ (m - 1) := by
  unfold upto
  rw [cnt_yes l m s h, Nat.add_mul, Nat.one_mul, Nat.add_assoc]
theorem cod_upto (l : List Nat) (d m s : Nat) (h0 : 0 < m) (h : l.getD s 0 = m) : cod l d s = (d + 1 - m, upto l m s / 2 ^ (m - 1)) := by
  unfold cod
  rw [if_neg (by omega)]
  unfold nb code start upto
  rw [h]
theorem upto_le {l : List Nat} {d : Nat} (hd : Deep l d) (m s : Nat) (h0 : 1 ≤ m) (hm : m ≤ d) (hs : s ≤ l.length) : upto l m s ≤ 2 ^ d := by
  have h1 : upto l m s ≤ upto l m l.length := by
    unfold upto
    exact Nat.add_le_add_left (Nat.mul_le_mul_right _ (filter_mono _ _ _ hs)) _
  refine Nat.le_trans h1 ?_
  rw [upto_next l m h0]
  have e : upto l (m + 1) 0 = A l m := by unfold upto; simp [cnt]
  rw [e, ← hd.whole, ← A_worth l d hd.le]
  exact A_mono l _ _ hm
end Go.Lm.Huf

set_option linter.unusedVariables false
set_option linter.unusedSimpArgs false
namespace Go.Lm.Huf
open Go.Lm

/-- The code that was given last, and how many bits it had: ahead of place s of weight m. -/
def Run (l : List Nat) (d m s code bits : Nat) : Prop :=
  (bits = 0 ∧ code = 0 ∧ upto l m s = 0) ∨ (0 < bits ∧ d + 1 - m ≤ bits ∧ bits ≤ d ∧ (code + 1) * 2 ^ (d - bits) = upto l m s)
theorem run_zero (l : List Nat) (d : Nat) : Run l d 1 0 0 0 := .inl ⟨rfl, rfl, upto_zero l⟩
theorem run_next {l : List Nat} {d m code bits : Nat} (h1 : 1 ≤ m) (h : Run l d m l.length code bits) : Run l d (m + 1) 0 code bits := by
  unfold Run at *
  rw [← upto_next l m h1]
  rcases h with h | ⟨h2, h3, h4, h5⟩
  · exact .inl h
  · exact .inr ⟨h2, by omega, h4, h5⟩
theorem run_not {l : List Nat} {d m s code bits : Nat} (h : l.getD s 0 ≠ m) (hr : Run l d m s code bits) : Run l d m (s + 1) code bits := by
  unfold Run at *
  rw [upto_not l m s h]
  exact hr
theorem upto_dvd {l : List Nat} {d : Nat} (hd : Deep l d) (m s : Nat) (hm : m ≤ d) : 2 ^ (m - 1) ∣ upto l m s := by
  unfold upto
  exact Nat.dvd_add (hd.div (d - (m - 1)) (m - 1) (by omega)) (Nat.dvd_mul_left _ _)
/-- The next code: one more, halved down to its bits. -/
theorem run_yes {l : List Nat} {d m s code bits : Nat} (hd : Deep l d) (h1 : 1 ≤ m) (hm : m ≤ d) (h : l.getD s 0 = m) (hr : Run l d m s code bits) :
    (if 0 < bits then code + 1 else code) / 2 ^ (bits - (d + 1 - m)) = upto l m s / 2 ^ (m - 1) ∧ (0 < bits → d + 1 - m ≤ bits) ∧ bits ≤ d ∧ (if 0 < bits then code + 1 else code) ≤ 2 ^ d ∧ (s ≤ l.length → Run l d m (s + 1) (upto l m s / 2 ^ (m - 1)) (d + 1 - m)) := by
  have hdv := upto_dvd hd m s hm
  have hnext : Run l d m (s + 1) (upto l m s / 2 ^ (m - 1)) (d + 1 - m) := by
    refine .inr ⟨by omega, Nat.le_refl _, by omega, ?_⟩
    rw [upto_yes l m s h, show d - (d + 1 - m) = m - 1 by omega, Nat.add_mul, Nat.one_mul, Nat.div_mul_cancel hdv]
  rcases hr with ⟨rfl, rfl, h4⟩ | ⟨h2, h3, h4, h5⟩
  · refine ⟨by rw [h4]; simp, fun h => absurd h (by decide), Nat.zero_le _, by simp, fun _ => hnext⟩
  · rw [if_pos h2]
    refine ⟨?_, fun _ => h3, h4, ?_, fun _ => hnext⟩
    · rw [← h5, show m - 1 = (d - bits) + (bits - (d + 1 - m)) by omega, Nat.pow_add, ← Nat.div_div_eq_div_mul, Nat.mul_div_cancel _ (Nat.pow_pos (by decide))]
    · have hs : upto l m s ≤ 2 ^ d := by
        by_cases hs : s ≤ l.length
        · exact upto_le hd m s h1 hm hs
        · have : l.getD s 0 = 0 := by simp [List.getD_eq_getElem?_getD, List.getElem?_eq_none (show l.length ≤ s by omega)]
          omega
      refine Nat.le_trans ?_ hs
      rw [← h5]
      exact Nat.le_mul_of_pos_right _ (Nat.pow_pos (by decide))
end Go.Lm.Huf

set_option linter.unusedVariables false
set_option linter.unusedSimpArgs false
namespace Go.Lm.Huf
open Go.Lm

/-- the most bits that one of the first k codes has -/
def lgm (l : List Nat) (d k : Nat) : Nat := ((cods l d).take k).foldl (fun m c => max m c.1) 0
def lgt (l : List Nat) (d : Nat) : Nat := lgm l d l.length
theorem cods_get (l : List Nat) (d k : Nat) (h : k < (cods l d).length) : (cods l d)[k] = cod l d k := by simp [cods]
theorem lgm_succ (l : List Nat) (d k : Nat) (h : k < l.length) : lgm l d (k + 1) = max (lgm l d k) (cod l d k).1 := by
  unfold lgm
  rw [List.take_succ_eq_append_getElem (by rw [cods_length]; exact h), List.foldl_append, cods_get]
  rfl
theorem lgm_mono (l : List Nat) (d a : Nat) : ∀ b, a ≤ b → b ≤ l.length → lgm l d a ≤ lgm l d b := by
  intro b h hb
  obtain ⟨k, rfl⟩ := Nat.exists_eq_add_of_le h
  induction k with
  | zero => exact Nat.le_refl _
  | succ k ih =>
    refine Nat.le_trans (ih (by omega) (by omega)) ?_
    rw [← Nat.add_assoc, lgm_succ l d (a + k) (by omega)]
    exact Nat.le_max_left _ _
theorem cod_le (l : List Nat) (d k : Nat) : (cod l d k).1 ≤ d := by
  unfold cod nb
  split <;> simp only [] <;> omega
theorem lgm_le (l : List Nat) (d : Nat) : ∀ k, k ≤ l.length → lgm l d k ≤ d
  | 0, _ => Nat.zero_le _
  | k + 1, h => by
    rw [lgm_succ l d k (by omega)]
    exact Nat.max_le.2 ⟨lgm_le l d k (by omega), cod_le l d k⟩
theorem lgt_le (l : List Nat) (d : Nat) : lgt l d ≤ d := lgm_le l d _ (Nat.le_refl _)
theorem cod_lgt (l : List Nat) (d k : Nat) (h : k < l.length) : (cod l d k).1 ≤ lgt l d := by
  refine Nat.le_trans ?_ (lgm_mono l d (k + 1) l.length h (Nat.le_refl _))
  rw [lgm_succ l d k h]
  exact Nat.le_max_right _ _
theorem cod_okay {l : List Nat} {d k : Nat} (h : 0 < l.getD k 0) : cod l d k = (nb l d k, code l k) := by
  unfold cod
  rw [if_neg (by omega)]
theorem nb_lgt {l : List Nat} {d k : Nat} (h : Okay l k) : nb l d k ≤ lgt l d := by
  have := cod_lgt l d k h.1
  rwa [cod_okay h.2] at this

/-! The table -/
def sy (l : List Nat) (d lg X : Nat) : Nat := sym l (X * 2 ^ (d - lg))
def lo (l : List Nat) (d lg s : Nat) : Nat := code l s * 2 ^ (lg - nb l d s)
theorem mul_lt_pow {d lg X : Nat} (hlg : lg ≤ d) (hX : X < 2 ^ lg) : X * 2 ^ (d - lg) < 2 ^ d := by
  have h := Nat.mul_lt_mul_of_pos_right hX (Nat.pow_pos (n := d - lg) (show 0 < 2 by decide))
  rw [← Nat.pow_add] at h
  rwa [show lg + (d - lg) = d by omega] at h
theorem sy_has {l : List Nat} {d lg X : Nat} (h : Deep l d) (hlg : lg ≤ d) (hX : X < 2 ^ lg) : Has l (sy l d lg X) (X * 2 ^ (d - lg)) := sym_has h _ (mul_lt_pow hlg hX)
theorem start_lo {l : List Nat} {d lg s : Nat} (h : Deep l d) (hs : Okay l s) (hb : nb l d s ≤ lg) (hlg : lg ≤ d) : start l s = lo l d lg s * 2 ^ (d - lg) ∧ 2 ^ (l.getD s 0 - 1) = 2 ^ (lg - nb l d s) * 2 ^ (d - lg) := by
  have hd := getD_le h s
  have h0 := hs.2
  have e : l.getD s 0 - 1 = (lg - nb l d s) + (d - lg) := by unfold nb at *; omega
  have e2 : 2 ^ (l.getD s 0 - 1) = 2 ^ (lg - nb l d s) * 2 ^ (d - lg) := by rw [← Nat.pow_add, ← e]
  refine ⟨?_, e2⟩
  rw [← start_code h s h0 hd, e2]
  unfold lo
  rw [Nat.mul_assoc]
theorem has_lo {l : List Nat} {d lg s X : Nat} (h : Deep l d) (hs : Okay l s) (hb : nb l d s ≤ lg) (hlg : lg ≤ d) : Has l s (X * 2 ^ (d - lg)) ↔ lo l d lg s ≤ X ∧ X < lo l d lg s + 2 ^ (lg - nb l d s) := by
  obtain ⟨h1, h2⟩ := start_lo h hs hb hlg
  have hp : 0 < 2 ^ (d - lg) := Nat.pow_pos (by decide)
  unfold Has
  rw [h1, h2, ← Nat.add_mul]
  constructor
  · rintro ⟨_, _, h3, h4⟩
    exact ⟨Nat.le_of_mul_le_mul_right h3 hp, Nat.lt_of_mul_lt_mul_right h4⟩
  · rintro ⟨h3, h4⟩
    exact ⟨hs.1, hs.2, Nat.mul_le_mul_right _ h3, Nat.mul_lt_mul_of_pos_right h4 hp⟩
theorem lo_le {l : List Nat} {d lg s : Nat} (h : Deep l d) (hs : Okay l s) (hb : nb l d s ≤ lg) (hlg : lg ≤ d) : lo l d lg s + 2 ^ (lg - nb l d s) ≤ 2 ^ lg := by
  obtain ⟨h1, h2⟩ := start_lo h hs hb hlg
  have hh : Has l s (start l s + 2 ^ (l.getD s 0 - 1) - 1) := by
    have : 0 < 2 ^ (l.getD s 0 - 1) := Nat.pow_pos (by decide)
    exact ⟨hs.1, hs.2, by omega, by omega⟩
  have h3 := (has_top hh).2
  have h4 := A_mono l _ _ (getD_le h s)
  rw [A_worth l d h.le, h.whole] at h4
  have h5 : start l s + 2 ^ (l.getD s 0 - 1) ≤ 2 ^ d := by omega
  rw [h1, h2, ← Nat.add_mul, show 2 ^ d = 2 ^ lg * 2 ^ (d - lg) by rw [← Nat.pow_add]; congr 1; omega] at h5
  exact Nat.le_of_mul_le_mul_right h5 (Nat.pow_pos (by decide))
theorem sy_lo {l : List Nat} {d lg s i : Nat} (h : Deep l d) (hs : Okay l s) (hb : nb l d s ≤ lg) (hlg : lg ≤ d) (hi : i < 2 ^ (lg - nb l d s)) : sy l d lg (lo l d lg s + i) = s := by
  have := lo_le h hs hb hlg
  exact sym_eq h (mul_lt_pow hlg (by omega)) ((has_lo h hs hb hlg).2 ⟨by omega, by omega⟩)
/-- What the table tells of bits X. -/
def fnd (l : List Nat) (d lg X : Nat) : Nat × Nat := (sy l d lg X, nb l d (sy l d lg X))
def tab (l : List Nat) (d lg : Nat) : List (Nat × Nat) := (List.range (2 ^ lg)).map (fnd l d lg)
/-- .. with the symbols ahead of s, and s itself below X = b. -/
def tabp (l : List Nat) (d lg s b : Nat) : List (Nat × Nat) := (List.range (2 ^ lg)).map fun X => if sy l d lg X < s ∨ (sy l d lg X = s ∧ X < b) then fnd l d lg X else (0, 0)
theorem tabp_length (l : List Nat) (d lg s b : Nat) : (tabp l d lg s b).length = 2 ^ lg := by simp [tabp]
theorem tab_length (l : List Nat) (d lg : Nat) : (tab l d lg).length = 2 ^ lg := by simp [tab]
theorem tab_get (l : List Nat) (d lg X : Nat) (h : X < (tab l d lg).length) : (tab l d lg)[X] = fnd l d lg X := by simp [tab]
theorem tabp_start (l : List Nat) (d lg : Nat) : tabp l d lg 0 0 = List.replicate (2 ^ lg) (0, 0) := by
  unfold tabp
  rw [List.eq_replicate_iff]
  refine ⟨by simp, fun b hb => ?_⟩
  obtain ⟨X, _, rfl⟩ := List.mem_map.1 hb
  rw [if_neg (by omega)]
theorem tabp_congr {l : List Nat} {d lg s b s' b' : Nat} (h : ∀ X, X < 2 ^ lg → ((sy l d lg X < s ∨ (sy l d lg X = s ∧ X < b)) ↔ (sy l d lg X < s' ∨ (sy l d lg X = s' ∧ X < b')))) : tabp l d lg s b = tabp l d lg s' b' := by
  unfold tabp
  refine List.map_congr_left fun X hX => ?_
  have := h X (List.mem_range.1 hX)
  congr 1
  exact propext this
theorem tabp_skip {l : List Nat} {d lg s : Nat} (h : Deep l d) (hlg : lg ≤ d) (h0 : l.getD s 0 = 0) : tabp l d lg s 0 = tabp l d lg (s + 1) 0 := by
  refine tabp_congr fun X hX => ?_
  have hpos := (sy_has h hlg hX).2.1
  constructor
  · rintro (h1 | ⟨_, h1⟩)
    · exact .inl (by omega)
    · omega
  · rintro (h1 | ⟨_, h1⟩)
    · rcases Nat.lt_or_ge (sy l d lg X) s with h2 | h2
      · exact .inl h2
      · have he : sy l d lg X = s := by omega
        rw [he] at hpos
        omega
    · omega
theorem tabp_low {l : List Nat} {d lg s : Nat} (h : Deep l d) (hs : Okay l s) (hb : nb l d s ≤ lg) (hlg : lg ≤ d) : tabp l d lg s 0 = tabp l d lg s (lo l d lg s) := by
  refine tabp_congr fun X hX => ?_
  have h1 := sy_has h hlg hX
  constructor
  · rintro (h2 | ⟨_, h2⟩)
    · exact .inl h2
    · omega
  · rintro (h2 | ⟨h2, h3⟩)
    · exact .inl h2
    · rw [h2, has_lo h hs hb hlg] at h1
      omega
theorem tabp_next {l : List Nat} {d lg s : Nat} (h : Deep l d) (hs : Okay l s) (hb : nb l d s ≤ lg) (hlg : lg ≤ d) : tabp l d lg s (lo l d lg s + 2 ^ (lg - nb l d s)) = tabp l d lg (s + 1) 0 := by
  refine tabp_congr fun X hX => ?_
  have h1 := sy_has h hlg hX
  constructor
  · rintro (h2 | ⟨h2, _⟩)
    · exact .inl (by omega)
    · exact .inl (by omega)
  · rintro (h2 | ⟨_, h2⟩)
    · rcases Nat.lt_or_ge (sy l d lg X) s with h3 | h3
      · exact .inl h3
      · have h4 : sy l d lg X = s := by omega
        rw [h4, has_lo h hs hb hlg] at h1
        exact .inr ⟨h4, h1.2⟩
    · omega
theorem tabp_put {l : List Nat} {d lg s i : Nat} (h : Deep l d) (hs : Okay l s) (hb : nb l d s ≤ lg) (hlg : lg ≤ d) (hi : i < 2 ^ (lg - nb l d s)) : tabp l d lg s (lo l d lg s + (i + 1)) = (tabp l d lg s (lo l d lg s + i)).set (lo l d lg s + i) (s, nb l d s) := by
  refine List.ext_getElem (by simp [tabp]) fun X h1 h2 => ?_
  rw [tabp_length] at h1
  rw [List.getElem_set]
  simp only [tabp, List.getElem_map, List.getElem_range]
  have hsy := sy_lo h hs hb hlg hi
  by_cases hX : lo l d lg s + i = X
  · subst hX
    rw [if_pos rfl, if_pos (.inr ⟨hsy, by omega⟩)]
    unfold fnd
    rw [hsy]
  · rw [if_neg hX]
    congr 1
    exact propext ⟨fun h => by omega, fun h => by omega⟩
theorem tabp_all {l : List Nat} {d lg : Nat} (h : Deep l d) (hlg : lg ≤ d) : tabp l d lg l.length 0 = tab l d lg := by
  unfold tabp tab
  refine List.map_congr_left fun X hX => ?_
  rw [if_pos (.inl (sy_has h hlg (List.mem_range.1 hX)).1)]

/-! What the next bits tell -/
theorem sym_okay {l : List Nat} {d : Nat} (h : Deep l d) (M : List Bool) (p : Nat) : Okay l (sym l (msb M p d)) := by
  have := sym_has h _ (msb_lt M p d)
  exact ⟨this.1, this.2.1⟩
theorem sym_code {l : List Nat} {d : Nat} (h : Deep l d) (M : List Bool) (p : Nat) : msb M p (nb l d (sym l (msb M p d))) = code l (sym l (msb M p d)) := by
  have := sym_has h _ (msb_lt M p d)
  exact (has_code h M p _ this.1 this.2.1).1 this
theorem sy_msb {l : List Nat} {d : Nat} (h : Deep l d) (M : List Bool) (p : Nat) : sy l d (lgt l d) (msb M p (lgt l d)) = sym l (msb M p d) := by
  have hk := sym_okay h M p
  have hc := sym_code h M p
  have hb := nb_lgt (d := d) hk
  have hlg := lgt_le l d
  obtain ⟨s, hs⟩ : ∃ s, sym l (msb M p d) = s := ⟨_, rfl⟩
  rw [hs] at hk hc hb ⊢
  refine sym_eq h (mul_lt_pow hlg (msb_lt _ _ _)) ((has_lo h hk hb hlg).2 ?_)
  have hd := msb_div M p (nb l d s) (lgt l d - nb l d s)
  rw [show nb l d s + (lgt l d - nb l d s) = lgt l d by omega, hc] at hd
  unfold lo
  rw [← hd, ← Nat.succ_mul]
  have hp : 0 < 2 ^ (lgt l d - nb l d s) := Nat.pow_pos (by decide)
  exact ⟨Nat.div_mul_le_self _ _, Nat.lt_mul_of_div_lt (Nat.lt_succ_self _) hp⟩
theorem fnd_msb {l : List Nat} {d : Nat} (h : Deep l d) (M : List Bool) (p : Nat) : fnd l d (lgt l d) (msb M p (lgt l d)) = (sym l (msb M p d), nb l d (sym l (msb M p d))) := by
  unfold fnd
  rw [sy_msb h]
theorem msb_more (M : List Bool) (p a b c : Nat) (h : a + b = c) : msb M p a * 2 ^ b ||| msb M (p + a) b = msb M p c := by
  rw [← h, msb_add, Nat.mul_comm (msb M p a), Nat.two_pow_add_eq_or_of_lt (msb_lt _ _ _)]
theorem msb_rest (M : List Bool) (p a b c : Nat) (h : a + b = c) : msb M p c &&& (2 ^ b - 1) = msb M (p + a) b := by
  rw [← h, msb_add, Nat.and_two_pow_sub_one_eq_mod, Nat.mul_comm, Nat.mul_add_mod, Nat.mod_eq_of_lt (msb_lt _ _ _)]
/-- Only its symbol has the code that is there. -/
theorem one_only {l : List Nat} {d : Nat} (h : Deep l d) (M : List Bool) (p j s : Nat) (hs : s < l.length) (hj : 1 ≤ j) (hc : cod l d s = (j, msb M p j)) : s = sym l (msb M p d) ∧ j = nb l d s := by
  unfold cod at hc
  split at hc
  · simp at hc; omega
  · rename_i h0
    simp only [Prod.mk.injEq] at hc
    obtain ⟨h1, h2⟩ := hc
    refine ⟨?_, h1.symm⟩
    have h3 : Has l s (msb M p d) := (has_code h M p s hs (by omega)).2 (by rw [h1, h2])
    exact (sym_eq h (msb_lt _ _ _) h3).symm
theorem one_here {l : List Nat} {d : Nat} (h : Deep l d) (M : List Bool) (p : Nat) : cod l d (sym l (msb M p d)) = (nb l d (sym l (msb M p d)), msb M p (nb l d (sym l (msb M p d)))) := by
  rw [cod_okay (sym_okay h M p).2, sym_code h M p]
end Go.Lm.Huf

