/-
  PLAIN: codes of lengths and offsets, by tables. No program in sight.
-/
namespace Go.Lm.Codes

def lits : List Int := [1, 1, 1, 1, 2, 2, 3, 3, 4, 6, 7, 8, 9, 10, 11, 12, 13, 14, 15, 16]
def mats : List Int := [1, 1, 1, 1, 2, 2, 3, 3, 4, 4, 5, 7, 8, 9, 10, 11, 12, 13, 14, 15, 16]
def begins0 : List Int := [0, 1, 2, 3, 4, 5, 6, 7, 8, 9, 10, 11, 12, 13, 14, 15, 16, 18, 20, 22, 24, 28, 32, 40, 48, 64, 128, 256, 512, 1024, 2048, 4096, 8192, 16384, 32768, 65536]
def begins2 : List Int := [3, 4, 5, 6, 7, 8, 9, 10, 11, 12, 13, 14, 15, 16, 17, 18, 19, 20, 21, 22, 23, 24, 25, 26, 27, 28, 29, 30, 31, 32, 33, 34, 35, 37, 39, 41, 43, 47, 51, 59, 67, 83, 99, 131, 259, 515, 1027, 2051, 4099, 8195, 16387, 32771, 65539]
def begins1 : List Int := (List.range 32).map fun (i : Nat) => (2 ^ i : Int)
def adds0 : List Int := [0, 0, 0, 0, 0, 0, 0, 0, 0, 0, 0, 0, 0, 0, 0, 0, 1, 1, 1, 1, 2, 2, 3, 3, 4, 6, 7, 8, 9, 10, 11, 12, 13, 14, 15, 16]
def adds2 : List Int := [0, 0, 0, 0, 0, 0, 0, 0, 0, 0, 0, 0, 0, 0, 0, 0, 0, 0, 0, 0, 0, 0, 0, 0, 0, 0, 0, 0, 0, 0, 0, 0, 1, 1, 1, 1, 2, 2, 3, 3, 4, 4, 5, 7, 8, 9, 10, 11, 12, 13, 14, 15, 16]
def adds1 : List Int := (List.range 32).map fun (i : Nat) => (i : Int)

/-- How many codes add nothing; where they begin; what the others add. -/
def plain (k : Int) : Int := if k = 0 then 16 else if k = 2 then 32 else 0
def first (k : Int) : Int := if k = 0 then 0 else if k = 2 then 3 else 0
def more (k : Int) : List Int := if k = 0 then lits else if k = 2 then mats else []
def last (k : Int) : Int := if k = 1 then 31 else plain k + (more k).length - 1
def begins (k : Int) : List Int := if k = 0 then begins0 else if k = 2 then begins2 else if k = 1 then begins1 else []
def adds (k : Int) : List Int := if k = 0 then adds0 else if k = 2 then adds2 else if k = 1 then adds1 else []

/-- Where a code begins, what it adds, the error. -/
def code (k c : Int) : Int × Int × Int :=
  if begins k = [] then (0, 0, 1) else if c < 0 ∨ (begins k).length ≤ c then (0, 0, 17) else ((begins k).getD c.toNat 0, (adds k).getD c.toNat 0, 0)

/-- The first code from i on whose range holds v. -/
def look : List Int → List Int → Nat → Int → Option (Int × Int)
  | b :: bs, a :: as, i, v => if b ≤ v ∧ v - b < 2 ^ a.toNat then some (i, v - b) else look bs as (i + 1) v
  | _, _, _, _ => none
def of (k v : Int) : Int × Int × Int :=
  if begins k = [] then (0, 0, 1) else match look (begins k) (adds k) 0 v with
    | some (i, x) => (i, x, 0)
    | none => (0, 0, 17)

theorem last_eq (k : Int) : last k = (begins k).length - 1 := by
  unfold last begins more plain
  by_cases h1 : k = 1
  · subst h1; decide
  by_cases h0 : k = 0
  · subst h0; decide
  by_cases h2 : k = 2
  · subst h2; decide
  simp [h0, h1, h2]
theorem len_eq (k : Int) : (begins k).length = (adds k).length := by
  unfold begins adds
  by_cases h0 : k = 0
  · subst h0; decide
  by_cases h2 : k = 2
  · subst h2; decide
  by_cases h1 : k = 1
  · subst h1; decide
  simp [h0, h1, h2]

/-- Codes begin where those ahead end. -/
theorem chain0 : ∀ i, i < 35 → begins0.getD (i + 1) 0 = begins0.getD i 0 + 2 ^ (adds0.getD i 0).toNat := by decide
theorem chain2 : ∀ i, i < 52 → begins2.getD (i + 1) 0 = begins2.getD i 0 + 2 ^ (adds2.getD i 0).toNat := by decide
theorem chain1 : ∀ i, i < 31 → begins1.getD (i + 1) 0 = begins1.getD i 0 + 2 ^ (adds1.getD i 0).toNat := by decide
theorem chain (k : Int) (h : k = 0 ∨ k = 1 ∨ k = 2) (i : Nat) (hi : i + 1 < (begins k).length) : (begins k).getD (i + 1) 0 = (begins k).getD i 0 + 2 ^ ((adds k).getD i 0).toNat := by
  rcases h with rfl | rfl | rfl
  · exact chain0 i (by have : (begins 0).length = 36 := by decide
                       omega)
  · exact chain1 i (by have : (begins 1).length = 32 := by decide
                       omega)
  · exact chain2 i (by have : (begins 2).length = 53 := by decide
                       omega)
theorem adds_lt0 : ∀ i, i < 36 → 0 ≤ adds0.getD i 0 ∧ adds0.getD i 0 ≤ 31 ∧ 0 ≤ begins0.getD i 0 ∧ begins0.getD i 0 + 2 ^ (adds0.getD i 0).toNat ≤ 4294967296 := by decide
theorem adds_lt1 : ∀ i, i < 32 → 0 ≤ adds1.getD i 0 ∧ adds1.getD i 0 ≤ 31 ∧ 0 ≤ begins1.getD i 0 ∧ begins1.getD i 0 + 2 ^ (adds1.getD i 0).toNat ≤ 4294967296 := by decide
theorem adds_lt2 : ∀ i, i < 53 → 0 ≤ adds2.getD i 0 ∧ adds2.getD i 0 ≤ 31 ∧ 0 ≤ begins2.getD i 0 ∧ begins2.getD i 0 + 2 ^ (adds2.getD i 0).toNat ≤ 4294967296 := by decide
theorem bounds (k : Int) (h : k = 0 ∨ k = 1 ∨ k = 2) (i : Nat) (hi : i < (begins k).length) :
    0 ≤ (adds k).getD i 0 ∧ (adds k).getD i 0 ≤ 31 ∧ 0 ≤ (begins k).getD i 0 ∧ (begins k).getD i 0 + 2 ^ ((adds k).getD i 0).toNat ≤ 4294967296 := by
  rcases h with rfl | rfl | rfl
  · exact adds_lt0 i hi
  · exact adds_lt1 i hi
  · exact adds_lt2 i hi

/-- From a place on: nothing ahead of it holds v. -/
theorem look_drop : ∀ (bs as : List Int) (j i : Nat) (v : Int), bs.length = as.length → (∀ m, m < j → ¬ (bs.getD m 0 ≤ v ∧ v - bs.getD m 0 < 2 ^ (as.getD m 0).toNat)) → look (bs.drop j) (as.drop j) (i + j) v = look bs as i v
  | bs, as, 0, i, v, _, _ => rfl
  | [], [], j + 1, i, v, _, _ => rfl
  | [], _ :: _, _ + 1, _, _, h, _ => by simp at h
  | _ :: _, [], _ + 1, _, _, h, _ => by simp at h
  | b :: bs, a :: as, j + 1, i, v, hl, h => by
    have h0 := h 0 (by omega)
    simp only [List.getD_cons_zero] at h0
    rw [look, if_neg h0]
    have := look_drop bs as j (i + 1) v (by simpa using hl) (fun m hm => by have := h (m + 1) (by omega); simpa using this)
    rw [← this]
    simp only [List.drop_succ_cons]
    congr 1; omega
theorem look_here {bs as : List Int} {j : Nat} {v : Int} (i : Nat) (hl : bs.length = as.length) (hj : j < bs.length) (hy : bs.getD j 0 ≤ v ∧ v - bs.getD j 0 < 2 ^ (as.getD j 0).toNat) : look (bs.drop j) (as.drop j) i v = some ((i : Int), v - bs.getD j 0) := by
  have h1 : bs.getD j 0 = bs[j] := by simp [List.getD_eq_getElem?_getD, hj]
  have h2 : as.getD j 0 = as[j]'(by omega) := by simp [List.getD_eq_getElem?_getD, show j < as.length by omega]
  rw [List.drop_eq_getElem_cons hj, List.drop_eq_getElem_cons (show j < as.length by omega), look, ← h1, ← h2, if_pos hy]

/-- Begins rise. -/
theorem rise (k : Int) (h : k = 0 ∨ k = 1 ∨ k = 2) (m j : Nat) (hmj : m < j) (hj : j < (begins k).length) : (begins k).getD m 0 + 2 ^ ((adds k).getD m 0).toNat ≤ (begins k).getD j 0 := by
  induction j with
  | zero => omega
  | succ j ih =>
    rw [chain k h j hj]
    by_cases e : m = j
    · subst e; omega
    · have := ih (by omega) (by omega)
      have : (0 : Int) < 2 ^ ((adds k).getD j 0).toNat := by exact Int.pow_pos (by decide)
      omega
/-- A value within a code's range has that code. -/
theorem look_code (k : Int) (h : k = 0 ∨ k = 1 ∨ k = 2) (c : Nat) (hc : c < (begins k).length) (v : Int) (hv : (begins k).getD c 0 ≤ v) (hv2 : v - (begins k).getD c 0 < 2 ^ ((adds k).getD c 0).toNat) :
    look (begins k) (adds k) 0 v = some ((c : Int), v - (begins k).getD c 0) := by
  rw [← look_drop (begins k) (adds k) c 0 v (len_eq k) (fun m hm ⟨h1, h2⟩ => by have := rise k h m c hm hc; omega), look_here _ (len_eq k) hc ⟨hv, hv2⟩]
  simp
/-- From the end of all on there is none. -/
theorem look_none (k : Int) (h : k = 0 ∨ k = 1 ∨ k = 2) (v : Int) (hv : (begins k).getD ((begins k).length - 1) 0 + 2 ^ ((adds k).getD ((begins k).length - 1) 0).toNat ≤ v) : look (begins k) (adds k) 0 v = none := by
  rw [← look_drop (begins k) (adds k) (begins k).length 0 v (len_eq k) (fun m hm ⟨h1, h2⟩ => by
    by_cases e : m = (begins k).length - 1
    · subst e; omega
    · have := rise k h m ((begins k).length - 1) (by omega) (by omega)
      have : (0 : Int) < 2 ^ ((adds k).getD ((begins k).length - 1) 0).toNat := Int.pow_pos (by decide)
      omega)]
  rw [List.drop_length]
  rfl
/-- Below the first there is none. -/
theorem look_low (k : Int) (h : k = 0 ∨ k = 1 ∨ k = 2) (v : Int) (hv : v < (begins k).getD 0 0) : look (begins k) (adds k) 0 v = none := by
  rw [← look_drop (begins k) (adds k) (begins k).length 0 v (len_eq k) (fun m hm ⟨h1, h2⟩ => by
    by_cases e : m = 0
    · subst e; omega
    · have := rise k h 0 m (by omega) hm
      have : (0 : Int) < 2 ^ ((adds k).getD 0 0).toNat := Int.pow_pos (by decide)
      omega)]
  rw [List.drop_length]
  rfl

/-- The kinds' tables and what is told of them. -/
theorem begin_plain0 : ∀ c, c < 16 → begins0.getD c 0 = (c : Int) ∧ adds0.getD c 0 = 0 := by decide
theorem begin_plain2 : ∀ c, c < 32 → begins2.getD c 0 = 3 + (c : Int) ∧ adds2.getD c 0 = 0 := by decide
theorem begin_plain (k : Int) (h : k = 0 ∨ k = 2) (c : Nat) (hc : (c : Int) < plain k) : (begins k).getD c 0 = first k + c ∧ (adds k).getD c 0 = 0 := by
  rcases h with rfl | rfl
  · have := begin_plain0 c (by have : plain 0 = 16 := rfl
                               omega); simpa [begins, first, adds] using this
  · have := begin_plain2 c (by have : plain 2 = 32 := rfl
                               omega); simpa [begins, first, adds] using this
theorem add_more0 : ∀ j, j < 20 → adds0.getD (16 + j) 0 = lits.getD j 0 := by decide
theorem add_more2 : ∀ j, j < 21 → adds2.getD (32 + j) 0 = mats.getD j 0 := by decide
theorem add_more (k : Int) (h : k = 0 ∨ k = 2) (j : Nat) (hj : j < (more k).length) : (adds k).getD ((plain k).toNat + j) 0 = (more k).getD j 0 := by
  rcases h with rfl | rfl
  · exact add_more0 j hj
  · exact add_more2 j hj
theorem begin_more (k : Int) (h : k = 0 ∨ k = 2) : (begins k).getD (plain k).toNat 0 = first k + plain k := by
  rcases h with rfl | rfl <;> decide
theorem len_more (k : Int) (h : k = 0 ∨ k = 2) : ((begins k).length : Int) = plain k + (more k).length ∧ 0 < (more k).length ∧ (more k).length ≤ 21 ∧ 0 ≤ plain k ∧ plain k ≤ 32 ∧ 0 ≤ first k ∧ first k ≤ 3 := by
  rcases h with rfl | rfl <;> decide
theorem more_bounds0 : ∀ j, j < 20 → 1 ≤ lits.getD j 0 ∧ lits.getD j 0 ≤ 16 := by decide
theorem more_bounds2 : ∀ j, j < 21 → 1 ≤ mats.getD j 0 ∧ mats.getD j 0 ≤ 16 := by decide
theorem more_bounds (k : Int) (h : k = 0 ∨ k = 2) (j : Nat) (hj : j < (more k).length) : 1 ≤ (more k).getD j 0 ∧ (more k).getD j 0 ≤ 16 := by
  rcases h with rfl | rfl
  · exact more_bounds0 j hj
  · exact more_bounds2 j hj
end Go.Lm.Codes
