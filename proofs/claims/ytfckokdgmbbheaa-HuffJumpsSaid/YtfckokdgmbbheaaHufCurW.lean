/-
  THE WALK of cursor's Number, once more: which blocks it turns.
-/
import Derived.Test.YtfckokdgmbbheaaCurNums
import Derived.Test.YtfckokdgmbbheaaBitWrite
import Derived.Test.YtfckokdgmbbheaaGen6
set_option linter.unusedVariables false
set_option linter.unusedSimpArgs false
set_option maxRecDepth 20000
namespace Go.Proofs.Ytfckokdgmbbheaa.cur
open Go Go.RowKit Go.Lm Go.Proofs.Ytfckokdgmbbheaa.bit

theorem wown_one {w : World} {r : Nat} {v : Value} {t : TypeId} {fr : Nat × Nat} (h : w.heap[r]? = some (.cells #[v] t fr)) : wown w r = v.ownBlock.toList := by
  unfold wown; rw [h]; rfl
/-- A writer's slice has grown, and is laid. -/
theorem WR.grow {w w0 w' : World} {B r : Nat} {l' : List UInt8} {v v' : Value} (h1 : B ≤ r) (h2 : w.heap[r]? = some (.cells #[v] 86 (0, 0))) (hb : ∀ c, v.ownBlock = some c → B ≤ c) (hne : ∀ c, v.ownBlock = some c → c ≠ r) (h0 : Only [] w w0)
    (hov' : OV w' B 5 v' (l'.map u8v)) (hg : w0.grownBy w' v.ownBlock) (hnew : ∀ g, v'.ownBlock = some g → v.ownBlock = some g ∨ w.heap.size ≤ g) :
    w'.cell? ⟨r, 0, none⟩ = some v ∧ (∀ k, w'.frozen? ⟨r, k, none⟩ = false) ∧ WR (w'.setCell ⟨r, 0, none⟩ v') B r l' ∧ OW w (w'.setCell ⟨r, 0, none⟩ v') r := by
  have hlt := lt_of_block h2
  have ho : Only v.ownBlock.toList w w' := h0.trans (Only.of_grown hg) (by simp) (fun i hi => .inl hi)
  have hr : w'.heap[r]? = some (.cells #[v] 86 (0, 0)) := ho.heap h2 (by
    intro hm
    exact hne r (by simpa using hm) rfl)
  have hov2 : OV (w'.setCell ⟨r, 0, none⟩ v') B 5 v' (l'.map u8v) := by
    refine hov'.only ((Only.refl [r] w').setCell (.inl (by simp)) _) fun c hc hm => ?_
    simp only [List.mem_singleton] at hm
    subst hm
    rcases hov'.2 with ⟨h0, _⟩ | ⟨g, cap', cur, he, _, hg, _⟩
    · rw [h0] at hc; simp [Value.ownBlock] at hc
    · rw [he] at hc
      simp only [Value.ownBlock, Option.some.injEq] at hc
      subst hc
      rw [hr] at hg
      simp at hg
  refine ⟨cell_of_one hr, fun k => by simp [World.frozen?, hr], ⟨h1, _, (Go.Lm.heap_setCell_same (k := 0) hr _).trans rfl, hov2⟩, ?_⟩
  have ho2 : Only (r :: v.ownBlock.toList) w (w'.setCell ⟨r, 0, none⟩ v') := (ho.mono (S' := r :: v.ownBlock.toList) (fun i hi => .inl (List.mem_cons_of_mem _ hi))).setCell (.inl (by simp)) _
  refine ⟨by rw [wown_one h2]; exact ho2, fun g hg => ?_⟩
  rw [wown_one h2]
  rw [wown_one ((Go.Lm.heap_setCell_same (k := 0) hr _).trans rfl)] at hg
  have hgv : v'.ownBlock = some g := by simpa using hg
  rcases hnew g hgv with h1 | h1
  · exact .inl (by simp [h1])
  · exact .inr h1
set_option maxHeartbeats 1000000 in
theorem wnumber_o (w : World) (B r : Nat) (l : List UInt8) (h : WR w B r l) (x : Nat) (n : Int) (hx : x < 18446744073709551616) (hl : l.length ≤ 1000000000) : Calls Try.prog 24 #[.pointer (some ⟨r, 0, none⟩), .int .u64 x, .int .i64 n] w fun e w' =>
    e = .returned (.tuple #[]) ∧ WR w' B r (l ++ if 1 ≤ n ∧ n ≤ 8 then Cur.put x n.toNat else []) ∧ OW w w' r := by
  have hsz := h.lt
  have hB := h.1
  have H := Lib.hid h; clear h
  by_cases hn1 : 1 ≤ n
  · by_cases hn2 : n ≤ 8
    · rw [if_pos ⟨hn1, hn2⟩]
      obtain ⟨n, rfl⟩ := Int.eq_ofNat_of_zero_le (show 0 ≤ n by omega)
      rw [Int.toNat_natCast]
      obtain ⟨i0, hi, hz0, hz1, hz2⟩ := info_parts info_u8
      have HI := Lib.hid hi; have HZ0 := Lib.hid hz0; have HZ1 := Lib.hid hz1; have HZ2 := Lib.hid hz2
      clear hi hz0 hz1 hz2
      go_enter Try.func24, Try.ntmps24
      go_wp2
      go_loopw [18] (fun i wr => ∃ k : Nat, k ≤ n ∧ i = .int .i64 k ∧ WR wr B r (l ++ Cur.put x k) ∧ OW w wr r) (fun i _ => n - (intOf i).toNat)
      case atStart => exact ⟨0, Nat.zero_le _, rfl, by simpa [Cur.put] using H.out, OW.refl _ _⟩
      case round =>
        obtain ⟨k, hk, rfl, hwr, hbw⟩ := hrel
        by_cases hkn : k < n
        · obtain ⟨a, m, cap, hc, hf, hov, hr, hne⟩ := hwr.cells
          have hbyte := shr_u64 x k hx (by omega)
          obtain ⟨v', w', hrun, hov', hg⟩ := run_append_one (P := Try.prog) (ty := 22) (T := 5) (fr := (0, 0)) (u := .int .u8 ((UInt8.ofNat (x / 256 ^ k)).toNat : Int)) Try.underlying22 HI.out HZ0.out HZ1.out HZ2.out rfl hov rfl (by simp [maxLen, Cur.put_length]; omega) (by simp [Cur.put_length]; omega) (by have := hwr.lt; omega)
          have hnew := append_block_one (P := Try.prog) Try.underlying22 HI.out HZ0.out HZ1.out HZ2.out rfl hov rfl (by simp [maxLen, Cur.put_length]; omega) (by simp [Cur.put_length]; omega) hrun
          obtain ⟨a', cap', hv', _⟩ := hov'.slice
          obtain ⟨n', hn'⟩ : ∃ n', (List.map u8v (l ++ Cur.put x k) ++ [Value.int .u8 ((UInt8.ofNat (x / 256 ^ k)).toNat : Int)]).length = n' := ⟨_, rfl⟩
          rw [hn'] at hv'
          subst hv'
          have hl' : List.map u8v (l ++ Cur.put x k) ++ [Value.int .u8 ((UInt8.ofNat (x / 256 ^ k)).toNat : Int)] = List.map u8v (l ++ Cur.put x (k + 1)) := by
            rw [Cur.put_snoc, ← List.append_assoc, List.map_append (l₁ := l ++ Cur.put x k)]; rfl
          rw [hl'] at hov'
          obtain ⟨hc', hf', hw', hb'⟩ := WR.grow hB hr (fun c hc => (hov.lt hc).1) hne ((Only.refl [] wr).alloc _) hov' hg hnew
          have HW := Lib.hid hw'; have HB := Lib.hid (hbw.trans hb'); have HRUN := Lib.hid hrun
          clear hg hov' hov hw' hb' hrun hr hne hn' hwr hbw hl'
          obtain ⟨U, hU⟩ : ∃ U : Nat, (UInt8.ofNat (x / 256 ^ k)).toNat = U := ⟨_, rfl⟩
          rw [hU] at hbyte HRUN
          clear hU
          go_wp2_with (at_builtin; refine wpList_append_run rfl _ _ _ rfl rfl rfl HRUN.out ?_)
          go_roundw
          case rel => exact ⟨k + 1, by omega, by go_num, HW.out, HB.out⟩
          case measure => simp [intOf]; omega
        · obtain rfl : k = n := by omega
          have HW := Lib.hid hwr; have HB := Lib.hid hbw
          clear hwr hbw
          go_wp2
          go_end0
          exact ⟨rfl, HW.out, HB.out⟩
    · rw [if_neg (by omega), List.append_nil]
      go_enter Try.func24, Try.ntmps24
      go_wp2
      go_returns
      exact ⟨rfl, H.out, OW.refl _ _⟩
  · rw [if_neg (by omega), List.append_nil]
    go_enter Try.func24, Try.ntmps24
    go_wp2
    go_returns
    exact ⟨rfl, H.out, OW.refl _ _⟩
end Go.Proofs.Ytfckokdgmbbheaa.cur
