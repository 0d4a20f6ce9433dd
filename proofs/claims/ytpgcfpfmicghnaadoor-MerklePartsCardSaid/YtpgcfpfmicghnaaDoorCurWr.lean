/-
  THE WALKS of cursor's Writer and of the reference's Put (the Reader's left out: printed by program from CurWalks, CurNums, CurPut).
-/
import Derived.Test.YtpgcfpfmicghnaaDoorRows
import Derived.Test.YtpgcfpfmicghnaaDoorGen4
import Derived.Test.YtpgcfpfmicghnaaDoorCurPlain
import Derived.WalkSpells
import Derived.PlainAid
import Derived.Laws.OwnMore
import Derived.Laws.Bits64b
import Derived.Handy
set_option linter.unusedVariables false
namespace Go.Proofs.YtpgcfpfmicghnaaDoor.cur
open Go Go.RowKit Go.Lm
/-- Bytes in memory of a reader's own: blocks from B on, below C. -/
def BO (w : World) (B C : Nat) (v : Value) (l : List UInt8) : Prop :=
  BS w v l ∧ ∀ c, v.ownBlock = some c → l ≠ [] → B ≤ c ∧ c < C ∧ ∃ cs, w.heap[c]? = some (.cells cs 5 (0, 0))
/-- A writer. -/
def WR (w : World) (B r : Nat) (l : List UInt8) : Prop :=
  B ≤ r ∧ ∃ v, w.heap[r]? = some (.cells #[v] 83 (0, 0)) ∧ OV w B 5 v (l.map u8v)

theorem BO.nil (w : World) (B C : Nat) : BO w B C (.slice none 0 0) [] := ⟨BS.nil w, fun c hc => by simp [Value.ownBlock] at hc⟩
theorem BO.kept {w w' : World} {B C : Nat} {v : Value} {l : List UInt8} (h : BO w B C v l) (hk : ∀ k, B ≤ k → k < C → w'.heap[k]? = w.heap[k]?) : BO w' B C v l := by
  refine ⟨h.1.kept fun p u hb hn hc => ?_, fun c hc hn => ?_⟩
  · obtain ⟨h1, h2, _⟩ := h.2 _ hb hn
    unfold World.cell? at hc ⊢
    rw [hk _ h1 h2]; exact hc
  · obtain ⟨h1, h2, cs, h3⟩ := h.2 c hc hn
    exact ⟨h1, h2, cs, by rw [hk c h1 h2]; exact h3⟩
/-- Other cells of other blocks may turn. -/
theorem BO.only {S : List Nat} {w w' : World} {B C : Nat} {v : Value} {l : List UInt8} (h : BO w B C v l) (ho : Only S w w') (hn : ∀ c, v.ownBlock = some c → l ≠ [] → c ∉ S) : BO w' B C v l :=
  ⟨h.1.only ho hn, fun c hc hl => by
    obtain ⟨h1, h2, cs, h3⟩ := h.2 c hc hl
    exact ⟨h1, h2, cs, ho.heap h3 (hn c hc hl)⟩⟩
theorem WR.only {w w' : World} {B r : Nat} {l : List UInt8} (h : WR w B r l) (ho : Only [] w w') : WR w' B r l := by
  obtain ⟨h1, v, h2, h3⟩ := h
  exact ⟨h1, v, ho.heap h2 (by simp), h3.only ho (by simp)⟩

/-- A reader's bytes lie in another block than the reader. -/
theorem BS.not_block {w : World} {v : Value} {l : List UInt8} (h : BS w v l) {r : Nat} {e : Int} {t : TypeId} {fr : Nat × Nat} (hb : ∃ a n c, w.heap[r]? = some (.cells #[.slice a n c, .int .i64 e] t fr)) : ∀ c, v.ownBlock = some c → l ≠ [] → c ≠ r := by
  obtain ⟨a2, n2, c2, hb2⟩ := hb
  intro c hc hl he
  subst he
  obtain ⟨a, cap, rfl, h1, h2, h3, h4⟩ := h
  obtain ⟨b, off, rfl, hcell⟩ := h4 0 (List.length_pos_iff.2 hl)
  simp only [Value.ownBlock, Option.some.injEq] at hc
  subst hc
  rw [Nat.add_zero, cell_of_row _ _ _ _ _ _ hb2] at hcell
  cases off with
  | zero => simp at hcell
  | succ off =>
    cases off with
    | zero => simp at hcell
    | succ off => simp at hcell

theorem info_u8 : (Tryd.prog.info? 5).map (fun i => (i.zero, i.size, i.bytes)) = some (some (.int .u8 0), 1, 1) := by kernel_rfl
theorem u8s_one (l : List UInt8) : ∀ u ∈ l.map u8v, u.oneCell' = true := by
  intro u hu
  obtain ⟨x, _, rfl⟩ := List.mem_map.1 hu
  rfl

set_option maxHeartbeats 400000 in
theorem clone_c (w : World) (v : Value) (l : List UInt8) (hv : BS w v l) (hl : l.length ≤ 140737488355328) : Calls Tryd.prog 51 #[v] w fun e w' => ∃ v', e = .returned v' ∧ OV w' w.heap.size 5 v' (l.map u8v) ∧ Only [] w w' := by
  obtain ⟨i0, hi, hz0, hz1, hz2⟩ := info_parts info_u8
  have HI := Lib.hid hi; have HZ0 := Lib.hid hz0; have HZ1 := Lib.hid hz1; have HZ2 := Lib.hid hz2
  clear hi hz0 hz1 hz2
  have HV := Lib.hid hv
  obtain ⟨a, cap, rfl, h1, h2, h3, h4⟩ := hv
  have H4 := Lib.hid h4; clear h4
  cases a with
  | none =>
    obtain rfl := h3 rfl
    obtain rfl : l = [] := by cases l <;> simp_all
    have he : ∀ w : World, (binOp .eql 23 (.slice none 0 0) (.slice none 0 0)).run Tryd.prog w = .ok (.bool true) w := fun _ => rfl
    go_enter Tryd.func51, Tryd.ntmps51
    go_wp2
    go_ret
    exact ⟨_, rfl, OV.nil _ _ _, Only.refl _ _⟩
  | some ad =>
    have hov : OV (w.alloc (.cells #[] 5)) w.heap.size 5 (.slice (some ⟨w.heap.size, 0, none⟩) 0 0) [] := World.ownsRow_lit w #[] 0 (Nat.le_refl _) (Nat.zero_le _) rfl
    obtain ⟨v', w', hrun, hov', hg⟩ := run_append_vs (P := Tryd.prog) (ty := 23) Tryd.underlying23 HI.out HZ0.out HZ1.out HZ2.out rfl hov (VS.of_bs (HV.out.only ((Only.refl [] w).alloc _) (by simp))) (u8s_one l) (by simp; omega) (by simp; omega) (by simp)
    have ho : Only [] w w' := ((Only.refl [] w).alloc (.cells #[] 5)).trans (Only.of_grown hg) (by simp) (by simp [Value.ownBlock])
    rw [List.nil_append] at hov'
    have HOV := Lib.hid hov'; have HO := Lib.hid ho; have HRUN := Lib.hid hrun
    clear hov hov' hg ho hrun
    have he : ∀ w : World, (binOp .eql 23 (.slice (some ad) l.length cap) (.slice none 0 0)).run Tryd.prog w = .ok (.bool false) w := fun _ => rfl
    go_enter Tryd.func51, Tryd.ntmps51
    go_wp2_with (at_builtin; refine wpList_append_run rfl _ _ _ rfl rfl rfl HRUN.out ?_)
    go_ret
    exact ⟨_, rfl, HOV.out, HO.out⟩

theorem BO.of_ov {w : World} {B C : Nat} {v : Value} {l : List UInt8} (h : OV w B 5 v (l.map u8v)) (hC : w.heap.size ≤ C) : BO w B C v l := by
  refine ⟨BS.of_vs h.vs, fun c hc hl => ?_⟩
  have := h.lt hc
  refine ⟨this.1, by omega, ?_⟩
  rcases h.2 with ⟨rfl, h0⟩ | ⟨g, cap, cur, rfl, _, hg, _⟩
  · simp [Value.ownBlock] at hc
  · simp only [Value.ownBlock, Option.some.injEq] at hc
    subst hc
    exact ⟨cur, hg⟩

theorem size_u8 : (Tryd.prog.info? 5).map (·.size) = some 1 := by kernel_rfl

theorem or_u64 (X U k : Nat) (hk : k < 8) (hx : X < 256 ^ k) (hu : U < 256) : bits .or .u64 (X : Int) (IntKind.u64.wrap ((U : Int) * 2 ^ (8 * k))) = ((X + U * 256 ^ k : Nat) : Int) := by
  have h1 : U * 2 ^ (8 * k) < 18446744073709551616 := by
    have : 2 ^ (8 * k) ≤ 2 ^ 56 := Nat.pow_le_pow_right (by decide) (by omega)
    calc U * 2 ^ (8 * k) ≤ 255 * 2 ^ 56 := Nat.mul_le_mul (by omega) this
      _ < _ := by decide
  have h2 : X < 18446744073709551616 := by
    rw [Cur.pow256] at hx
    have h3 : 2 ^ (8 * k) ≤ 2 ^ 64 := Nat.pow_le_pow_right (by decide) (by omega)
    omega
  have e : IntKind.u64.wrap ((U : Int) * 2 ^ (8 * k)) = ((U * 2 ^ (8 * k) : Nat) : Int) := by
    have e1 : (U : Int) * 2 ^ (8 * k) = ((U * 2 ^ (8 * k) : Nat) : Int) := by rw [Int.natCast_mul, Int.natCast_pow]; rfl
    rw [e1, IntKind.wrap_u64]
    omega
  rw [e, bits_or_u64_nat _ _ h2 h1, Cur.or_above hx]

theorem WR.cells {w : World} {B r : Nat} {l : List UInt8} (h : WR w B r l) : ∃ a n cap, w.cell? ⟨r, 0, none⟩ = some (.slice a n cap) ∧ (∀ k, w.frozen? ⟨r, k, none⟩ = false) ∧ OV w B 5 (.slice a n cap) (l.map u8v) ∧
    w.heap[r]? = some (.cells #[.slice a n cap] 83 (0, 0)) ∧ (∀ c, (Value.slice a n cap).ownBlock = some c → c ≠ r) := by
  obtain ⟨h1, v, h2, h3⟩ := h
  obtain ⟨a, cap, rfl, _⟩ := h3.slice
  refine ⟨_, _, _, cell_of_one h2, fun k => by simp [World.frozen?, h2], h3, h2, fun c hc he => ?_⟩
  subst he
  rcases h3.2 with ⟨h0, _⟩ | ⟨g, cap', cur, he, _, hg, _⟩
  · rw [h0] at hc; simp [Value.ownBlock] at hc
  · rw [he] at hc
    simp only [Value.ownBlock, Option.some.injEq] at hc
    subst hc
    rw [h2] at hg
    simp at hg
theorem WR.lt {w : World} {B r : Nat} {l : List UInt8} (h : WR w B r l) : r < w.heap.size := by
  obtain ⟨h1, v, h2, h3⟩ := h
  exact lt_of_block h2
/-- A writer's slice has grown, and is laid. -/
theorem WR.step {w w0 w' : World} {B r : Nat} {l' : List UInt8} {v v' : Value} (h1 : B ≤ r) (h2 : w.heap[r]? = some (.cells #[v] 83 (0, 0))) (hb : ∀ c, v.ownBlock = some c → B ≤ c) (hne : ∀ c, v.ownBlock = some c → c ≠ r) (h0 : Only [] w w0)
    (hov' : OV w' B 5 v' (l'.map u8v)) (hg : w0.grownBy w' v.ownBlock) :
    w'.cell? ⟨r, 0, none⟩ = some v ∧ (∀ k, w'.frozen? ⟨r, k, none⟩ = false) ∧ WR (w'.setCell ⟨r, 0, none⟩ v') B r l' ∧ Below B w (w'.setCell ⟨r, 0, none⟩ v') := by
  have hlt := lt_of_block h2
  have ho : Only v.ownBlock.toList w w' := h0.trans (Only.of_grown hg) (by simp) (fun i hi => .inl hi)
  have hr : w'.heap[r]? = some (.cells #[v] 83 (0, 0)) := ho.heap h2 (by
    intro hm
    exact hne r (by simpa using hm) rfl)
  have hov2 : OV (w'.setCell ⟨r, 0, none⟩ v') B 5 v' (l'.map u8v) := by
    refine hov'.only ((Only.refl [r] w').setCell (.inl (by simp)) _) fun c hc hm => ?_
    simp only [List.mem_singleton] at hm
    subst hm
    rcases hov'.2 with ⟨h0, _⟩ | ⟨g, cap', cur, he, _, hg, _⟩
    · rw [h0] at hc; simp [Value.ownBlock] at hc
    · rw [he] at hc
      simp only [Value.ownBlock, Option.some.injEq] at hc
      subst hc
      rw [hr] at hg
      simp at hg
  refine ⟨cell_of_one hr, fun k => by simp [World.frozen?, hr], ⟨h1, _, (Go.Lm.heap_setCell_same (k := 0) hr _).trans rfl, hov2⟩, ?_⟩
  have ho2 : Only (r :: v.ownBlock.toList) w (w'.setCell ⟨r, 0, none⟩ v') := (ho.mono (S' := r :: v.ownBlock.toList) (fun i hi => .inl (List.mem_cons_of_mem _ hi))).setCell (.inl (by simp)) _
  refine ho2.below (fun k hk => ?_) (by omega)
  rcases List.mem_cons.1 hk with rfl | hk
  · exact h1
  · exact hb k (by simpa using hk)

theorem newwriter_c (w : World) : Calls Tryd.prog 34 #[] w fun e w' => e = .returned (.pointer (some ⟨w.heap.size, 0, none⟩)) ∧ WR w' w.heap.size w.heap.size [] ∧ Only [] w w' := by
  go_enter Tryd.func34, Tryd.ntmps34
  go_wp2
  go_ret
  exact ⟨rfl, ⟨Nat.le_refl _, _, heap_alloc_new w _, OV.nil _ _ _⟩, (Only.refl _ _).alloc _⟩

set_option maxHeartbeats 400000 in
theorem wbytes_c (w : World) (B r : Nat) (l m : List UInt8) (h : WR w B r l) (x : Value) (hx : BS w x m) (hl : l.length + m.length ≤ 1000000000) : Calls Tryd.prog 36 #[.pointer (some ⟨r, 0, none⟩), x] w fun e w' => e = .returned (.tuple #[]) ∧ WR w' B r (l ++ m) ∧ Below B w w' := by
  obtain ⟨i0, hi, hz0, hz1, hz2⟩ := info_parts info_u8
  have HI := Lib.hid hi; have HZ0 := Lib.hid hz0; have HZ1 := Lib.hid hz1; have HZ2 := Lib.hid hz2
  clear hi hz0 hz1 hz2
  obtain ⟨a, n, cap, hc, hf, hov, hr, hne⟩ := h.cells
  have hB := h.1
  have hlt := h.lt
  obtain ⟨xa, xcap, hxe, _⟩ := id hx
  obtain ⟨xn, hxn⟩ : ∃ xn, m.length = xn := ⟨_, rfl⟩
  rw [hxn] at hxe
  subst hxe
  obtain ⟨v', w', hrun, hov', hg⟩ := run_append_vs (P := Tryd.prog) (ty := 23) Tryd.underlying23 HI.out HZ0.out HZ1.out HZ2.out rfl hov (VS.of_bs hx) (u8s_one m) (by simp [maxLen]; omega) (by simp; omega) (by omega)
  obtain ⟨a', cap', hv', _⟩ := hov'.slice
  obtain ⟨n', hn'⟩ : ∃ n', (List.map u8v l ++ List.map u8v m).length = n' := ⟨_, rfl⟩
  rw [hn'] at hv'
  subst hv'
  rw [← List.map_append] at hov'
  obtain ⟨hc', hf', hw', hb'⟩ := WR.step hB hr (fun c hc => (hov.lt hc).1) hne (Only.refl [] w) hov' hg
  have HW := Lib.hid hw'; have HB := Lib.hid hb'; have HRUN := Lib.hid hrun
  clear hg hov' hov hw' hb' hrun hr hne h hx hn' hxn
  go_enter Tryd.func36, Tryd.ntmps36
  go_wp2_with (at_builtin; refine wpList_append_run rfl _ _ _ rfl rfl rfl HRUN.out ?_)
  go_end0
  exact ⟨rfl, HW.out, HB.out⟩

theorem out_c (w : World) (B r : Nat) (l : List UInt8) (h : WR w B r l) (hl : l.length ≤ 140737488355328) : Calls Tryd.prog 37 #[.pointer (some ⟨r, 0, none⟩)] w fun e w' => ∃ v, e = .returned v ∧ OV w' w.heap.size 5 v (l.map u8v) ∧ Only [] w w' := by
  obtain ⟨a, n, cap, hc, hf, hov, hr, hne⟩ := h.cells
  have hbs := BS.of_vs hov.vs
  have HBS := Lib.hid hbs
  clear hov hr hne h hbs
  go_enter Tryd.func37, Tryd.ntmps37
  go_wp2_with fail
  refine (clone_c w _ l HBS.out hl).mono ?_
  rintro e w1 ⟨v', rfl, hov, ho1⟩
  have HOV := Lib.hid hov; have HO1 := Lib.hid ho1
  clear hov ho1
  go_wp2
  go_ret
  exact ⟨_, rfl, HOV.out, HO1.out⟩

theorem shr_u64 (x k : Nat) (hx : x < 18446744073709551616) (hk : k < 8) : IntKind.u8.wrap ((x : Int) / 2 ^ (8 * k)) = ((UInt8.ofNat (x / 256 ^ k)).toNat : Int) := by
  rw [Cur.pow256, IntKind.wrap_u8]
  have e : (x : Int) / 2 ^ (8 * k) = ((x / 2 ^ (8 * k) : Nat) : Int) := by rw [Int.natCast_ediv, Int.natCast_pow]; rfl
  rw [e]
  simp

set_option maxHeartbeats 1000000 in
theorem wnumber_c (w : World) (B r : Nat) (l : List UInt8) (h : WR w B r l) (x : Nat) (n : Int) (hx : x < 18446744073709551616) (hl : l.length ≤ 1000000000) : Calls Tryd.prog 35 #[.pointer (some ⟨r, 0, none⟩), .int .u64 x, .int .i64 n] w fun e w' =>
    e = .returned (.tuple #[]) ∧ WR w' B r (l ++ if 1 ≤ n ∧ n ≤ 8 then Cur.put x n.toNat else []) ∧ Below B w w' := by
  have hsz := h.lt
  have hB := h.1
  have H := Lib.hid h; clear h
  by_cases hn1 : 1 ≤ n
  · by_cases hn2 : n ≤ 8
    · rw [if_pos ⟨hn1, hn2⟩]
      obtain ⟨n, rfl⟩ := Int.eq_ofNat_of_zero_le (show 0 ≤ n by omega)
      rw [Int.toNat_natCast]
      obtain ⟨i0, hi, hz0, hz1, hz2⟩ := info_parts info_u8
      have HI := Lib.hid hi; have HZ0 := Lib.hid hz0; have HZ1 := Lib.hid hz1; have HZ2 := Lib.hid hz2
      clear hi hz0 hz1 hz2
      go_enter Tryd.func35, Tryd.ntmps35
      go_wp2
      go_loopw [18] (fun i wr => ∃ k : Nat, k ≤ n ∧ i = .int .i64 k ∧ WR wr B r (l ++ Cur.put x k) ∧ Below B w wr) (fun i _ => n - (intOf i).toNat)
      case atStart => exact ⟨0, Nat.zero_le _, rfl, by simpa [Cur.put] using H.out, Below.refl _ _⟩
      case round =>
        obtain ⟨k, hk, rfl, hwr, hbw⟩ := hrel
        by_cases hkn : k < n
        · obtain ⟨a, m, cap, hc, hf, hov, hr, hne⟩ := hwr.cells
          have hbyte := shr_u64 x k hx (by omega)
          obtain ⟨v', w', hrun, hov', hg⟩ := run_append_one (P := Tryd.prog) (ty := 23) (T := 5) (fr := (0, 0)) (u := .int .u8 ((UInt8.ofNat (x / 256 ^ k)).toNat : Int)) Tryd.underlying23 HI.out HZ0.out HZ1.out HZ2.out rfl hov rfl (by simp [maxLen, Cur.put_length]; omega) (by simp [Cur.put_length]; omega) (by have := hwr.lt; omega)
          obtain ⟨a', cap', hv', _⟩ := hov'.slice
          obtain ⟨n', hn'⟩ : ∃ n', (List.map u8v (l ++ Cur.put x k) ++ [Value.int .u8 ((UInt8.ofNat (x / 256 ^ k)).toNat : Int)]).length = n' := ⟨_, rfl⟩
          rw [hn'] at hv'
          subst hv'
          have hl' : List.map u8v (l ++ Cur.put x k) ++ [Value.int .u8 ((UInt8.ofNat (x / 256 ^ k)).toNat : Int)] = List.map u8v (l ++ Cur.put x (k + 1)) := by
            rw [Cur.put_snoc, ← List.append_assoc, List.map_append (l₁ := l ++ Cur.put x k)]; rfl
          rw [hl'] at hov'
          obtain ⟨hc', hf', hw', hb'⟩ := WR.step hB hr (fun c hc => (hov.lt hc).1) hne ((Only.refl [] wr).alloc _) hov' hg
          have HW := Lib.hid hw'; have HB := Lib.hid (hbw.trans hb'); have HRUN := Lib.hid hrun
          clear hg hov' hov hw' hb' hrun hr hne hn' hwr hbw hl'
          obtain ⟨U, hU⟩ : ∃ U : Nat, (UInt8.ofNat (x / 256 ^ k)).toNat = U := ⟨_, rfl⟩
          rw [hU] at hbyte HRUN
          clear hU
          go_wp2_with (at_builtin; refine wpList_append_run rfl _ _ _ rfl rfl rfl HRUN.out ?_)
          go_roundw
          case rel => exact ⟨k + 1, by omega, by go_num, HW.out, HB.out⟩
          case measure => simp [intOf]; omega
        · obtain rfl : k = n := by omega
          have HW := Lib.hid hwr; have HB := Lib.hid hbw
          clear hwr hbw
          go_wp2
          go_end0
          exact ⟨rfl, HW.out, HB.out⟩
    · rw [if_neg (by omega), List.append_nil]
      go_enter Tryd.func35, Tryd.ntmps35
      go_wp2
      go_returns
      exact ⟨rfl, H.out, Below.refl _ _⟩
  · rw [if_neg (by omega), List.append_nil]
    go_enter Tryd.func35, Tryd.ntmps35
    go_wp2
    go_returns
    exact ⟨rfl, H.out, Below.refl _ _⟩

/-- Bytes in the order of 'put'. -/
theorem put_zero (x : Nat) : Cur.put x 0 = [] := rfl
theorem put_eq (x k : Nat) : (UInt8.ofNat (x / 256 ^ k)).toNat = x / 256 ^ k % 256 := by simp

set_option maxHeartbeats 1000000 in
theorem refput_c (w : World) (x : Nat) (n : Int) (hx : x < 18446744073709551616) (hn0 : -9223372036854775808 ≤ n) : Calls Tryd.prog 38 #[.int .u64 x, .int .i64 n] w fun e w' => ∃ s, e = .returned (.string s) ∧ s.data.toList = (if 1 ≤ n ∧ n ≤ 8 then Cur.put x n.toNat else []) ∧ Only [] w w' := by
  by_cases hn2 : n ≤ 8
  · by_cases hn1 : 1 ≤ n
    · rw [if_pos ⟨hn1, hn2⟩]
      obtain ⟨n, rfl⟩ := Int.eq_ofNat_of_zero_le (show 0 ≤ n by omega)
      rw [Int.toNat_natCast]
      obtain ⟨i0, hi, hz0, hz1, hz2⟩ := info_parts info_u8
      have HI := Lib.hid hi; have HZ0 := Lib.hid hz0; have HZ1 := Lib.hid hz1; have HZ2 := Lib.hid hz2
      clear hi hz0 hz1 hz2
      go_enter Tryd.func38, Tryd.ntmps38
      go_wp2
      go_loopw [0, 5, 6] (fun y o i wr => ∃ k : Nat, k ≤ n ∧ i = .int .i64 k ∧ y = .int .u64 ((x / 256 ^ k : Nat) : Int) ∧ OV wr w.heap.size 5 o ((Cur.put x k).map u8v) ∧ Only [] w wr) (fun _ _ i _ => n - (intOf i).toNat)
      case atStart => exact ⟨0, Nat.zero_le _, rfl, by simp, OV.nil _ _ _, Only.refl _ _⟩
      case round =>
        obtain ⟨k, hk, rfl, rfl, hov, hon⟩ := hrel
        obtain ⟨a, cap, hsl, _⟩ := hov.slice
        obtain ⟨m, hm⟩ : ∃ m, (List.map u8v (Cur.put x k)).length = m := ⟨_, rfl⟩
        rw [hm] at hsl
        subst hsl
        clear hm
        have HOV := Lib.hid hov; have HON := Lib.hid hon
        clear hov hon
        have hY : x / 256 ^ k < 18446744073709551616 := Nat.lt_of_le_of_lt (Nat.div_le_self _ _) hx
        have hnx : x / 256 ^ (k + 1) = x / 256 ^ k / 256 := by rw [Nat.div_div_eq_div_mul, Nat.pow_succ]
        have hpe := put_eq x k
        have hsn := Cur.put_snoc x k
        have hln := Cur.put_length x k
        by_cases hkn : k < n
        · obtain ⟨v', w', hrun, hov', hg⟩ := run_append_one (P := Tryd.prog) (ty := 23) (T := 5) (fr := (0, 0)) Tryd.underlying23 HI.out HZ0.out HZ1.out HZ2.out rfl HOV.out (u := .int .u8 ((UInt8.ofNat (x / 256 ^ k)).toNat : Int)) rfl (by simp [maxLen, hln]; omega) (by simp [hln]; omega) HON.out.size
          have hon' : Only [] w w' := (HON.out.alloc (.cells #[.int .u8 ((UInt8.ofNat (x / 256 ^ k)).toNat : Int)] 5)).trans (Only.of_grown hg) (by simp) (by
            intro c hc
            have := HOV.out.lt (c := c) (by simpa [eq_comm] using hc)
            exact .inr this.1)
          have e1 : (Cur.put x k).map u8v ++ [.int .u8 ((UInt8.ofNat (x / 256 ^ k)).toNat : Int)] = (Cur.put x (k + 1)).map u8v := by rw [hsn]; simp [u8v]
          rw [e1] at hov'
          rw [hpe] at hrun
          clear hpe hsn e1
          generalize x / 256 ^ k = Y at hrun hY hnx ⊢
          have HOV' := Lib.hid hov'; have HON' := Lib.hid hon'; have HRUN := Lib.hid hrun; have HNX := Lib.hid hnx
          clear hg hov' hon' hrun hnx
          have hyy : ((Y % 256 : Nat) : Int) = (Y : Int) % 256 := by omega
          rw [hyy] at HRUN
          clear hyy HOV HON
          go_wp2_with (at_builtin; refine wpList_append_run rfl _ _ _ rfl rfl rfl HRUN.out ?_)
          go_roundw
          case rel => exact ⟨k + 1, by omega, by go_num, by rw [HNX.out]; go_num, HOV'.out, HON'.out⟩
          case measure => simp [intOf]; omega
        · obtain rfl : k = n := by omega
          have hbs := BS.of_vs HOV.out.vs
          have hstr := run_string_of_bytes (P := Tryd.prog) Tryd.underlying23 Tryd.underlying5 Tryd.underlying9 hbs
          clear hbs
          go_wp2
          go_ret
          exact ⟨_, rfl, by simp, HON.out⟩
    · rw [if_neg (by omega)]
      go_enter Tryd.func38, Tryd.ntmps38
      go_wp2
      refine wp_loop_rounds 1 ?_
      rw [rounds_succ]
      have hstr := run_string_of_bytes (P := Tryd.prog) Tryd.underlying23 Tryd.underlying5 Tryd.underlying9 (BS.nil w)
      go_wp2
      go_ret
      exact ⟨_, rfl, by simp, Only.refl _ _⟩
  · rw [if_neg (by omega)]
    go_enter Tryd.func38, Tryd.ntmps38
    go_wp2
    go_ret
    exact ⟨_, rfl, rfl, Only.refl _ _⟩

end Go.Proofs.YtpgcfpfmicghnaaDoor.cur
