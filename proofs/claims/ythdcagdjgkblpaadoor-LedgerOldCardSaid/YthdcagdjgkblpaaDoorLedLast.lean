/-
  THE WALK of ledger.Last.
-/
import Derived.Test.YthdcagdjgkblpaaDoorLedRead
set_option linter.unusedVariables false
set_option linter.unusedSimpArgs false
namespace Go.Lm.Led
/-- The greatest value of a kind, and whether there is one. -/
def lst (kind : Nat) (s : Nat × Bool) (r : Nat × Nat) : Nat × Bool := if r.1 = kind then (max s.1 r.2, true) else s
def last (R : List (Nat × Nat)) (kind : Nat) : Nat × Bool := R.foldl (lst kind) (0, false)
theorem last_take (R : List (Nat × Nat)) (kind k : Nat) (h : k < R.length) : last (R.take (k + 1)) kind = lst kind (last (R.take k) kind) R[k] := by
  unfold last
  rw [List.take_succ_eq_append_getElem h, List.foldl_append]
  rfl
end Go.Lm.Led
namespace Go.Proofs.YthdcagdjgkblpaaDoor.led
open Go Go.RowKit Go.Lm Go.Proofs.YthdcagdjgkblpaaDoor.cur Go.Proofs.YthdcagdjgkblpaaDoor.crc

/-- A slice of records, to read. -/
def RS (w : World) (v : Value) (R : List (Nat × Nat)) : Prop :=
  ∃ a cap, v = .slice a R.length cap ∧ R.length ≤ cap ∧ cap ≤ maxLen ∧ ∀ k (h : k < R.length), ∃ b off, a = some ⟨b, off, none⟩ ∧ w.cell? ⟨b, off + k * 2, none⟩ = some (.int .u8 (R[k].1 : Int)) ∧ w.cell? ⟨b, off + k * 2 + 1, none⟩ = some (.int .u64 (R[k].2 : Int))
theorem RS.only {w w' : World} {v : Value} {R : List (Nat × Nat)} (h : RS w v R) (ho : Only [] w w') : RS w' v R := by
  obtain ⟨a, cap, h1, h2, h3, h4⟩ := h
  refine ⟨a, cap, h1, h2, h3, fun k hk => ?_⟩
  obtain ⟨b, off, e, c0, c1⟩ := h4 k hk
  exact ⟨b, off, e, ho.cell c0 (by simp), ho.cell c1 (by simp)⟩
theorem RS.slice {w : World} {v : Value} {R : List (Nat × Nat)} (h : RS w v R) : ∃ a cap, v = .slice a R.length cap ∧ R.length ≤ cap ∧ cap ≤ maxLen := by
  obtain ⟨a, cap, h1, h2, h3, _⟩ := h
  exact ⟨a, cap, h1, h2, h3⟩
theorem RS.at {w : World} {a : Option Addr} {n cap : Nat} {R : List (Nat × Nat)} (h : RS w (.slice a n cap) R) (k : Nat) (hk : k < R.length) :
    ∃ b off, a = some ⟨b, off, none⟩ ∧ w.cell? ⟨b, off + k * 2, none⟩ = some (.int .u8 (R[k].1 : Int)) ∧ w.cell? ⟨b, off + k * 2 + 1, none⟩ = some (.int .u64 (R[k].2 : Int)) := by
  obtain ⟨a', cap', e, _, _, h4⟩ := h
  simp only [Value.slice.injEq] at e
  obtain ⟨rfl, rfl, rfl⟩ := e
  exact h4 k hk
theorem cellsR_length (R : List (Nat × Nat)) : (cellsR R).length = R.length * 2 := by
  induction R with
  | nil => rfl
  | cons r R ih => rw [show cellsR (r :: R) = [.int .u8 (r.1 : Int), .int .u64 (r.2 : Int)] ++ cellsR R from rfl, List.length_append, ih]; simp; omega
theorem cellsR_at : ∀ (R : List (Nat × Nat)) (k : Nat) (h : k < R.length), (cellsR R)[k * 2]? = some (.int .u8 (R[k].1 : Int)) ∧ (cellsR R)[k * 2 + 1]? = some (.int .u64 (R[k].2 : Int))
  | r :: R, 0, _ => ⟨rfl, rfl⟩
  | r :: R, k + 1, h => by
    have ih := cellsR_at R k (by simpa using h)
    have e : cellsR (r :: R) = .int .u8 (r.1 : Int) :: .int .u64 (r.2 : Int) :: cellsR R := rfl
    rw [e, show (k + 1) * 2 = k * 2 + 1 + 1 by omega]
    simpa using ih
theorem RS.of_row {w : World} {B : Nat} {e : TypeId} {v : Value} {R : List (Nat × Nat)} (h : w.ownsRow B e 2 v R.length (cellsR R)) : RS w v R := by
  have hr := h
  rcases h.2 with ⟨rfl, h0⟩ | ⟨g, cap, cur, rfl, _, hg, h1, h2, h3, htake⟩
  · refine ⟨none, 0, by rw [h0], by omega, by unfold maxLen; omega, fun k hk => by omega⟩
  · refine ⟨_, cap, rfl, h1, h2, fun k hk => ⟨g, 0, rfl, ?_, ?_⟩⟩
    · rw [Nat.zero_add, World.ownsRow.cellAt hr (k * 2) (by omega), (cellsR_at R k hk).1]
    · rw [Nat.zero_add, World.ownsRow.cellAt hr (k * 2 + 1) (by omega), (cellsR_at R k hk).2]

set_option maxHeartbeats 2000000 in
theorem last_c (w : World) (v : Value) (R : List (Nat × Nat)) (hv : RS w v R) (kind : Nat) (hR : ∀ r ∈ R, r.2 < 18446744073709551616) : Calls Tryd.prog 15 #[v, .int .u8 (kind : Int)] w fun e w' =>
    e = .returned (.tuple #[.int .u64 ((Led.last R kind).1 : Nat), .bool (Led.last R kind).2]) ∧ Only [] w w' := by
  have HV := Lib.hid hv; have HR := Lib.hid hR
  obtain ⟨a, cap, rfl, h1, h2⟩ := hv.slice
  unfold maxLen at h2
  clear hv hR
  go_enter Tryd.func15, Tryd.ntmps15
  go_wp2_with fail
  --@1
  go_loopw [6, 7, 12] (fun x y i wr => ∃ (k m : Nat) (b : Bool), k ≤ R.length ∧ i = .int .i64 k ∧ Led.last (R.take k) kind = (m, b) ∧ x = .int .u64 m ∧ y = .bool b ∧ Only [] w wr) (fun x y i _ => R.length - (intOf i).toNat)
  case atStart => exact ⟨0, 0, false, Nat.zero_le _, rfl, rfl, rfl, rfl, Only.refl _ _⟩
  case round =>
    obtain ⟨k, m, b, hk, rfl, hl, rfl, rfl, ho⟩ := hrel
    have HO := Lib.hid ho; have HL := Lib.hid hl
    clear ho hl
    by_cases hlt : k < R.length
    · obtain ⟨bb, off, rfl, c0, c1⟩ := (HV.out.only HO.out).at k hlt
      have hs := Led.last_take R kind k hlt
      have hb2 := HR.out R[k] (List.getElem_mem hlt)
      obtain ⟨⟨K, V⟩, hrk⟩ : ∃ t, R[k] = t := ⟨_, rfl⟩
      rw [hrk] at c0 c1 hs hb2
      rw [HL.out] at hs
      have HS := Lib.hid hs
      clear hs hrk
      go_upto_region 5 with fail
      have hrec : P2 (wr.alloc (.cells #[.int .u8 (K : Int), .int .u64 (V : Int)] 32 (0, 0))) wr.heap.size 32 (.int .u8 (K : Int)) (.int .u64 (V : Int)) := P2.new wr _ _ _
      have HO4 : Hid (Only [] w (wr.alloc (.cells #[.int .u8 (K : Int), .int .u64 (V : Int)] 32 (0, 0)))) := HO.out.alloc _
      clear c0 c1
      generalize World.alloc wr _ = W4 at *
      generalize wr.heap.size = q at *
      obtain ⟨c0, c1, cf⟩ := P2.cells hrec
      clear hrec
      by_cases hK : K = kind
      · subst hK
        have HS' : Hid (Led.last (R.take (k + 1)) K = (max m V, true)) := by rw [HS.out]; exact if_pos rfl
        obtain ⟨M, hM⟩ : ∃ M, max m V = M := ⟨_, rfl⟩
        rw [hM] at HS'
        have hmx : max (m : Int) (V : Int) = (M : Int) := by omega
        have hmy : (if (m : Int) < (V : Int) then (V : Int) else (m : Int)) = (M : Int) := by split <;> omega
        have hmz : (if m < V then (V : Int) else (m : Int)) = (M : Int) := by split <;> omega
        clear hM HS
        --@2
        go_wp2
        --@3
        go_roundw
        case rel => exact ⟨k + 1, M, true, by omega, by go_num, HS'.out, rfl, rfl, HO4.out⟩
        case measure => simp [intOf]; omega
      · have hKI : ((K : Int) == (kind : Int)) = false := by rw [beq_eq_false_iff_ne]; omega
        have HS' : Hid (Led.last (R.take (k + 1)) kind = (m, b)) := by rw [HS.out]; exact if_neg hK
        clear hK HS
        go_wp2
        go_roundw
        case rel => exact ⟨k + 1, m, b, by omega, by go_num, HS'.out, rfl, rfl, HO4.out⟩
        case measure => simp [intOf]; omega
    · obtain rfl : k = R.length := by omega
      rw [List.take_length] at HL
      go_wp2
      go_ret2
      exact ⟨by rw [HL.out]; rfl, HO.out⟩
end Go.Proofs.YthdcagdjgkblpaaDoor.led
