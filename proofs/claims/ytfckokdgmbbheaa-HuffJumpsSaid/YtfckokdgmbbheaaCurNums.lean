/-
  THE WALKS of package cursor: numbers read; writers.
-/
import Derived.Test.YtfckokdgmbbheaaCurWalks
import Derived.Handy
set_option linter.unusedVariables false
set_option maxRecDepth 20000
namespace Go.Proofs.Ytfckokdgmbbheaa.cur
open Go Go.RowKit Go.Lm

theorem rnum_len (l : List UInt8) (e n : Int) : (Cur.rtake l e n (decide (1 ≤ n) && decide (n ≤ 8))).2.2.length ≤ 8 := by
  unfold Cur.rtake
  repeat (first | split | simp)
  rename_i h1 _
  simp at h1
  omega

theorem or_u64 (X U k : Nat) (hk : k < 8) (hx : X < 256 ^ k) (hu : U < 256) : bits .or .u64 (X : Int) (IntKind.u64.wrap ((U : Int) * 2 ^ (8 * k))) = ((X + U * 256 ^ k : Nat) : Int) := by
  have h1 : U * 2 ^ (8 * k) < 18446744073709551616 := by
    have : 2 ^ (8 * k) ≤ 2 ^ 56 := Nat.pow_le_pow_right (by decide) (by omega)
    calc U * 2 ^ (8 * k) ≤ 255 * 2 ^ 56 := Nat.mul_le_mul (by omega) this
      _ < _ := by decide
  have h2 : X < 18446744073709551616 := by
    rw [Cur.pow256] at hx
    have h3 : 2 ^ (8 * k) ≤ 2 ^ 64 := Nat.pow_le_pow_right (by decide) (by omega)
    omega
  have e : IntKind.u64.wrap ((U : Int) * 2 ^ (8 * k)) = ((U * 2 ^ (8 * k) : Nat) : Int) := by
    have e1 : (U : Int) * 2 ^ (8 * k) = ((U * 2 ^ (8 * k) : Nat) : Int) := by rw [Int.natCast_mul, Int.natCast_pow]; rfl
    rw [e1, IntKind.wrap_u64]
    omega
  rw [e, bits_or_u64_nat _ _ h2 h1, Cur.or_above hx]

set_option maxHeartbeats 400000 in
theorem number_c (w : World) (B C r : Nat) (e n : Int) (l : List UInt8) (h : RD w B C r e l) : Calls Try.prog 30 #[.pointer (some ⟨r, 0, none⟩), .int .i64 n] w fun x w' =>
    x = .returned (.int .u64 ((Cur.rnum l e n).2.2 : Nat)) ∧ RD w' B C r (Cur.rnum l e n).2.1 (Cur.rnum l e n).1 ∧ Only [r] w w' := by
  have H := Lib.hid h; clear h
  have hlen := rnum_len l e n
  obtain ⟨M, hM⟩ : ∃ M, (decide (1 ≤ n) && decide (n ≤ 8)) = M := ⟨_, rfl⟩
  have hn0 : M = true → 0 ≤ n := by rintro rfl; simp at hM; omega
  unfold Cur.rnum
  rw [hM] at hlen ⊢
  obtain ⟨t, ht⟩ : ∃ t, Cur.rtake l e n M = t := ⟨_, rfl⟩
  have HT := Lib.hid ht
  rw [ht] at hlen ⊢
  clear ht
  by_cases h1 : 1 ≤ n
  all_goals
    have hM2 : M = (decide (n ≤ 8)) ∨ M = false := by simp [h1] at hM; simp [hM]
    simp only [h1, decide_true, decide_false, Bool.true_and, Bool.false_and] at hM
    have HM := Lib.hid hM; have HN0 := Lib.hid hn0
    clear hM hn0 hM2
    go_enter Try.func30, Try.ntmps30
    go_wp2_with fail
    rw [HM.out]
    refine (take_c w B C r e n M l H.out HN0.out).mono ?_
    rintro x w1 ⟨v, rfl, h2, h3, h4⟩
    rw [HT.out] at h2 h3
    have H1 := Lib.hid h2; have H3 := Lib.hid h4
    obtain ⟨a, cap, rfl, hc1, hc2, hc3, hc4⟩ := h3.1
    clear h2 h3 h4 hc3
    unfold maxLen at hc2
    have HC := Lib.hid hc4; clear hc4
    go_wp2_with fail
    go_loop [5, 20] (fun x i => ∃ k : Nat, k ≤ t.2.2.length ∧ i = .int .i64 k ∧ x = .int .u64 (Cur.le (t.2.2.take k) : Nat)) (fun _ i => t.2.2.length - (intOf i).toNat)
    case atStart => exact ⟨0, Nat.zero_le _, rfl, rfl⟩
    case round =>
      obtain ⟨k, hk, rfl, rfl⟩ := hrel
      by_cases hkl : k < t.2.2.length
      · obtain ⟨b, off, rfl, hcell⟩ := HC.out k hkl
        have hle := Cur.le_take t.2.2 k hkl
        have hlt := Cur.le_take_lt t.2.2 k (by omega)
        have hu := (t.2.2[k]).toNat_lt
        obtain ⟨U, hU⟩ : ∃ U, (t.2.2[k]).toNat = U := ⟨_, rfl⟩
        rw [hU] at hcell hle hu
        generalize Cur.le (t.2.2.take k) = X at hle hlt
        have hor := or_u64 X U k (by omega) hlt hu
        have HLE := Lib.hid hle; have HLT := Lib.hid hlt; have HOR := Lib.hid hor; clear hle hlt hor hU
        go_wp2
        go_round
        case rel => exact ⟨k + 1, by omega, by go_num, by rw [HLE.out, ← HOR.out]⟩
        case measure => simp [intOf]; omega
      · obtain rfl : k = t.2.2.length := by omega
        rw [List.take_length]
        have H1' := H1; have H3' := H3
        go_wp2
        go_ret
        exact ⟨rfl, H1.out, H3.out⟩

theorem WR.cells {w : World} {B r : Nat} {l : List UInt8} (h : WR w B r l) : ∃ a n cap, w.cell? ⟨r, 0, none⟩ = some (.slice a n cap) ∧ (∀ k, w.frozen? ⟨r, k, none⟩ = false) ∧ OV w B 5 (.slice a n cap) (l.map u8v) ∧
    w.heap[r]? = some (.cells #[.slice a n cap] 86 (0, 0)) ∧ (∀ c, (Value.slice a n cap).ownBlock = some c → c ≠ r) := by
  obtain ⟨h1, v, h2, h3⟩ := h
  obtain ⟨a, cap, rfl, _⟩ := h3.slice
  refine ⟨_, _, _, cell_of_one h2, fun k => by simp [World.frozen?, h2], h3, h2, fun c hc he => ?_⟩
  subst he
  rcases h3.2 with ⟨h0, _⟩ | ⟨g, cap', cur, he, _, hg, _⟩
  · rw [h0] at hc; simp [Value.ownBlock] at hc
  · rw [he] at hc
    simp only [Value.ownBlock, Option.some.injEq] at hc
    subst hc
    rw [h2] at hg
    simp at hg
theorem WR.lt {w : World} {B r : Nat} {l : List UInt8} (h : WR w B r l) : r < w.heap.size := by
  obtain ⟨h1, v, h2, h3⟩ := h
  exact lt_of_block h2
/-- A writer's slice has grown, and is laid. -/
theorem WR.step {w w0 w' : World} {B r : Nat} {l' : List UInt8} {v v' : Value} (h1 : B ≤ r) (h2 : w.heap[r]? = some (.cells #[v] 86 (0, 0))) (hb : ∀ c, v.ownBlock = some c → B ≤ c) (hne : ∀ c, v.ownBlock = some c → c ≠ r) (h0 : Only [] w w0)
    (hov' : OV w' B 5 v' (l'.map u8v)) (hg : w0.grownBy w' v.ownBlock) :
    w'.cell? ⟨r, 0, none⟩ = some v ∧ (∀ k, w'.frozen? ⟨r, k, none⟩ = false) ∧ WR (w'.setCell ⟨r, 0, none⟩ v') B r l' ∧ Below B w (w'.setCell ⟨r, 0, none⟩ v') := by
  have hlt := lt_of_block h2
  have ho : Only v.ownBlock.toList w w' := h0.trans (Only.of_grown hg) (by simp) (fun i hi => .inl hi)
  have hr : w'.heap[r]? = some (.cells #[v] 86 (0, 0)) := ho.heap h2 (by
    intro hm
    exact hne r (by simpa using hm) rfl)
  have hov2 : OV (w'.setCell ⟨r, 0, none⟩ v') B 5 v' (l'.map u8v) := by
    refine hov'.only ((Only.refl [r] w').setCell (.inl (by simp)) _) fun c hc hm => ?_
    simp only [List.mem_singleton] at hm
    subst hm
    rcases hov'.2 with ⟨h0, _⟩ | ⟨g, cap', cur, he, _, hg, _⟩
    · rw [h0] at hc; simp [Value.ownBlock] at hc
    · rw [he] at hc
      simp only [Value.ownBlock, Option.some.injEq] at hc
      subst hc
      rw [hr] at hg
      simp at hg
  refine ⟨cell_of_one hr, fun k => by simp [World.frozen?, hr], ⟨h1, _, (Go.Lm.heap_setCell_same (k := 0) hr _).trans rfl, hov2⟩, ?_⟩
  have ho2 : Only (r :: v.ownBlock.toList) w (w'.setCell ⟨r, 0, none⟩ v') := (ho.mono (S' := r :: v.ownBlock.toList) (fun i hi => .inl (List.mem_cons_of_mem _ hi))).setCell (.inl (by simp)) _
  refine ho2.below (fun k hk => ?_) (by omega)
  rcases List.mem_cons.1 hk with rfl | hk
  · exact h1
  · exact hb k (by simpa using hk)

theorem newwriter_c (w : World) : Calls Try.prog 23 #[] w fun e w' => e = .returned (.pointer (some ⟨w.heap.size, 0, none⟩)) ∧ WR w' w.heap.size w.heap.size [] ∧ Only [] w w' := by
  go_enter Try.func23, Try.ntmps23
  go_wp2
  go_ret
  exact ⟨rfl, ⟨Nat.le_refl _, _, heap_alloc_new w _, OV.nil _ _ _⟩, (Only.refl _ _).alloc _⟩

set_option maxHeartbeats 400000 in
theorem wbytes_c (w : World) (B r : Nat) (l m : List UInt8) (h : WR w B r l) (x : Value) (hx : BS w x m) (hl : l.length + m.length ≤ 1000000000) : Calls Try.prog 25 #[.pointer (some ⟨r, 0, none⟩), x] w fun e w' => e = .returned (.tuple #[]) ∧ WR w' B r (l ++ m) ∧ Below B w w' := by
  obtain ⟨i0, hi, hz0, hz1, hz2⟩ := info_parts info_u8
  have HI := Lib.hid hi; have HZ0 := Lib.hid hz0; have HZ1 := Lib.hid hz1; have HZ2 := Lib.hid hz2
  clear hi hz0 hz1 hz2
  obtain ⟨a, n, cap, hc, hf, hov, hr, hne⟩ := h.cells
  have hB := h.1
  have hlt := h.lt
  obtain ⟨xa, xcap, hxe, _⟩ := id hx
  obtain ⟨xn, hxn⟩ : ∃ xn, m.length = xn := ⟨_, rfl⟩
  rw [hxn] at hxe
  subst hxe
  obtain ⟨v', w', hrun, hov', hg⟩ := run_append_vs (P := Try.prog) (ty := 22) Try.underlying22 HI.out HZ0.out HZ1.out HZ2.out rfl hov (VS.of_bs hx) (u8s_one m) (by simp [maxLen]; omega) (by simp; omega) (by omega)
  obtain ⟨a', cap', hv', _⟩ := hov'.slice
  obtain ⟨n', hn'⟩ : ∃ n', (List.map u8v l ++ List.map u8v m).length = n' := ⟨_, rfl⟩
  rw [hn'] at hv'
  subst hv'
  rw [← List.map_append] at hov'
  obtain ⟨hc', hf', hw', hb'⟩ := WR.step hB hr (fun c hc => (hov.lt hc).1) hne (Only.refl [] w) hov' hg
  have HW := Lib.hid hw'; have HB := Lib.hid hb'; have HRUN := Lib.hid hrun
  clear hg hov' hov hw' hb' hrun hr hne h hx hn' hxn
  go_enter Try.func25, Try.ntmps25
  go_wp2_with (at_builtin; refine wpList_append_run rfl _ _ _ rfl rfl rfl HRUN.out ?_)
  go_end0
  exact ⟨rfl, HW.out, HB.out⟩

theorem out_c (w : World) (B r : Nat) (l : List UInt8) (h : WR w B r l) (hl : l.length ≤ 140737488355328) : Calls Try.prog 26 #[.pointer (some ⟨r, 0, none⟩)] w fun e w' => ∃ v, e = .returned v ∧ OV w' w.heap.size 5 v (l.map u8v) ∧ Only [] w w' := by
  obtain ⟨a, n, cap, hc, hf, hov, hr, hne⟩ := h.cells
  have hbs := BS.of_vs hov.vs
  have HBS := Lib.hid hbs
  clear hov hr hne h hbs
  go_enter Try.func26, Try.ntmps26
  go_wp2_with fail
  refine (clone_c w _ l HBS.out hl).mono ?_
  rintro e w1 ⟨v', rfl, hov, ho1⟩
  have HOV := Lib.hid hov; have HO1 := Lib.hid ho1
  clear hov ho1
  go_wp2
  go_ret
  exact ⟨_, rfl, HOV.out, HO1.out⟩

theorem shr_u64 (x k : Nat) (hx : x < 18446744073709551616) (hk : k < 8) : IntKind.u8.wrap ((x : Int) / 2 ^ (8 * k)) = ((UInt8.ofNat (x / 256 ^ k)).toNat : Int) := by
  rw [Cur.pow256, IntKind.wrap_u8]
  have e : (x : Int) / 2 ^ (8 * k) = ((x / 2 ^ (8 * k) : Nat) : Int) := by rw [Int.natCast_ediv, Int.natCast_pow]; rfl
  rw [e]
  simp

set_option maxHeartbeats 1000000 in
theorem wnumber_c (w : World) (B r : Nat) (l : List UInt8) (h : WR w B r l) (x : Nat) (n : Int) (hx : x < 18446744073709551616) (hl : l.length ≤ 1000000000) : Calls Try.prog 24 #[.pointer (some ⟨r, 0, none⟩), .int .u64 x, .int .i64 n] w fun e w' =>
    e = .returned (.tuple #[]) ∧ WR w' B r (l ++ if 1 ≤ n ∧ n ≤ 8 then Cur.put x n.toNat else []) ∧ Below B w w' := by
  have hsz := h.lt
  have hB := h.1
  have H := Lib.hid h; clear h
  by_cases hn1 : 1 ≤ n
  · by_cases hn2 : n ≤ 8
    · rw [if_pos ⟨hn1, hn2⟩]
      obtain ⟨n, rfl⟩ := Int.eq_ofNat_of_zero_le (show 0 ≤ n by omega)
      rw [Int.toNat_natCast]
      obtain ⟨i0, hi, hz0, hz1, hz2⟩ := info_parts info_u8
      have HI := Lib.hid hi; have HZ0 := Lib.hid hz0; have HZ1 := Lib.hid hz1; have HZ2 := Lib.hid hz2
      clear hi hz0 hz1 hz2
      go_enter Try.func24, Try.ntmps24
      go_wp2
      go_loopw [18] (fun i wr => ∃ k : Nat, k ≤ n ∧ i = .int .i64 k ∧ WR wr B r (l ++ Cur.put x k) ∧ Below B w wr) (fun i _ => n - (intOf i).toNat)
      case atStart => exact ⟨0, Nat.zero_le _, rfl, by simpa [Cur.put] using H.out, Below.refl _ _⟩
      case round =>
        obtain ⟨k, hk, rfl, hwr, hbw⟩ := hrel
        by_cases hkn : k < n
        · obtain ⟨a, m, cap, hc, hf, hov, hr, hne⟩ := hwr.cells
          have hbyte := shr_u64 x k hx (by omega)
          obtain ⟨v', w', hrun, hov', hg⟩ := run_append_one (P := Try.prog) (ty := 22) (T := 5) (fr := (0, 0)) (u := .int .u8 ((UInt8.ofNat (x / 256 ^ k)).toNat : Int)) Try.underlying22 HI.out HZ0.out HZ1.out HZ2.out rfl hov rfl (by simp [maxLen, Cur.put_length]; omega) (by simp [Cur.put_length]; omega) (by have := hwr.lt; omega)
          obtain ⟨a', cap', hv', _⟩ := hov'.slice
          obtain ⟨n', hn'⟩ : ∃ n', (List.map u8v (l ++ Cur.put x k) ++ [Value.int .u8 ((UInt8.ofNat (x / 256 ^ k)).toNat : Int)]).length = n' := ⟨_, rfl⟩
          rw [hn'] at hv'
          subst hv'
          have hl' : List.map u8v (l ++ Cur.put x k) ++ [Value.int .u8 ((UInt8.ofNat (x / 256 ^ k)).toNat : Int)] = List.map u8v (l ++ Cur.put x (k + 1)) := by
            rw [Cur.put_snoc, ← List.append_assoc, List.map_append (l₁ := l ++ Cur.put x k)]; rfl
          rw [hl'] at hov'
          obtain ⟨hc', hf', hw', hb'⟩ := WR.step hB hr (fun c hc => (hov.lt hc).1) hne ((Only.refl [] wr).alloc _) hov' hg
          have HW := Lib.hid hw'; have HB := Lib.hid (hbw.trans hb'); have HRUN := Lib.hid hrun
          clear hg hov' hov hw' hb' hrun hr hne hn' hwr hbw hl'
          obtain ⟨U, hU⟩ : ∃ U : Nat, (UInt8.ofNat (x / 256 ^ k)).toNat = U := ⟨_, rfl⟩
          rw [hU] at hbyte HRUN
          clear hU
          go_wp2_with (at_builtin; refine wpList_append_run rfl _ _ _ rfl rfl rfl HRUN.out ?_)
          go_roundw
          case rel => exact ⟨k + 1, by omega, by go_num, HW.out, HB.out⟩
          case measure => simp [intOf]; omega
        · obtain rfl : k = n := by omega
          have HW := Lib.hid hwr; have HB := Lib.hid hbw
          clear hwr hbw
          go_wp2
          go_end0
          exact ⟨rfl, HW.out, HB.out⟩
    · rw [if_neg (by omega), List.append_nil]
      go_enter Try.func24, Try.ntmps24
      go_wp2
      go_returns
      exact ⟨rfl, H.out, Below.refl _ _⟩
  · rw [if_neg (by omega), List.append_nil]
    go_enter Try.func24, Try.ntmps24
    go_wp2
    go_returns
    exact ⟨rfl, H.out, Below.refl _ _⟩
end Go.Proofs.Ytfckokdgmbbheaa.cur
