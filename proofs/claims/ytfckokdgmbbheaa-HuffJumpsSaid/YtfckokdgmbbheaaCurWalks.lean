/-
  THE WALKS of package cursor: clones, readers.
-/
import Derived.Test.YtfckokdgmbbheaaRows
import Derived.Test.YtfckokdgmbbheaaGen4
import Derived.Test.YtfckokdgmbbheaaCurPlain
import Derived.WalkSpells
import Derived.PlainAid
import Derived.Laws.OwnMore
import Derived.Laws.Bits64b
set_option linter.unusedVariables false
set_option maxRecDepth 20000
namespace Go.Proofs.Ytfckokdgmbbheaa.cur
open Go Go.RowKit Go.Lm

/-- Bytes in memory of a reader's own: blocks from B on, below C. -/
def BO (w : World) (B C : Nat) (v : Value) (l : List UInt8) : Prop :=
  BS w v l ∧ ∀ c, v.ownBlock = some c → l ≠ [] → B ≤ c ∧ c < C ∧ ∃ cs, w.heap[c]? = some (.cells cs 5 (0, 0))
/-- A reader. -/
def RD (w : World) (B C r : Nat) (e : Int) (l : List UInt8) : Prop :=
  B ≤ r ∧ r < C ∧ ∃ v, w.heap[r]? = some (.cells #[v, .int .i64 e] 98 (0, 0)) ∧ BO w B C v l
/-- A writer. -/
def WR (w : World) (B r : Nat) (l : List UInt8) : Prop :=
  B ≤ r ∧ ∃ v, w.heap[r]? = some (.cells #[v] 86 (0, 0)) ∧ OV w B 5 v (l.map u8v)

theorem BO.nil (w : World) (B C : Nat) : BO w B C (.slice none 0 0) [] := ⟨BS.nil w, fun c hc => by simp [Value.ownBlock] at hc⟩
theorem BO.kept {w w' : World} {B C : Nat} {v : Value} {l : List UInt8} (h : BO w B C v l) (hk : ∀ k, B ≤ k → k < C → w'.heap[k]? = w.heap[k]?) : BO w' B C v l := by
  refine ⟨h.1.kept fun p u hb hn hc => ?_, fun c hc hn => ?_⟩
  · obtain ⟨h1, h2, _⟩ := h.2 _ hb hn
    unfold World.cell? at hc ⊢
    rw [hk _ h1 h2]; exact hc
  · obtain ⟨h1, h2, cs, h3⟩ := h.2 c hc hn
    exact ⟨h1, h2, cs, by rw [hk c h1 h2]; exact h3⟩
/-- Other cells of other blocks may turn. -/
theorem BO.only {S : List Nat} {w w' : World} {B C : Nat} {v : Value} {l : List UInt8} (h : BO w B C v l) (ho : Only S w w') (hn : ∀ c, v.ownBlock = some c → l ≠ [] → c ∉ S) : BO w' B C v l :=
  ⟨h.1.only ho hn, fun c hc hl => by
    obtain ⟨h1, h2, cs, h3⟩ := h.2 c hc hl
    exact ⟨h1, h2, cs, ho.heap h3 (hn c hc hl)⟩⟩
theorem RD.kept {w w' : World} {B C r : Nat} {e : Int} {l : List UInt8} (h : RD w B C r e l) (hk : ∀ k, B ≤ k → k < C → w'.heap[k]? = w.heap[k]?) : RD w' B C r e l := by
  obtain ⟨h1, h2, v, h3, h4⟩ := h
  exact ⟨h1, h2, v, by rw [hk r h1 h2]; exact h3, h4.kept hk⟩
theorem RD.below {w w' : World} {B C D r : Nat} {e : Int} {l : List UInt8} (h : RD w B C r e l) (hb : Below D w w') (hC : C ≤ D) : RD w' B C r e l :=
  h.kept fun k _ hk => hb.block k (by omega)
theorem RD.only {w w' : World} {B C r : Nat} {e : Int} {l : List UInt8} (h : RD w B C r e l) (ho : Only [] w w') (hs : C ≤ w.heap.size) : RD w' B C r e l :=
  h.kept fun k _ hk => ho.block k (by omega) (by simp)
theorem RD.len {w : World} {B C r : Nat} {e : Int} {l : List UInt8} (h : RD w B C r e l) : l.length ≤ maxLen := by
  obtain ⟨_, _, v, _, ⟨a, cap, _, h1, h2, _⟩, _⟩ := h
  omega
theorem WR.only {w w' : World} {B r : Nat} {l : List UInt8} (h : WR w B r l) (ho : Only [] w w') : WR w' B r l := by
  obtain ⟨h1, v, h2, h3⟩ := h
  exact ⟨h1, v, ho.heap h2 (by simp), h3.only ho (by simp)⟩

/-- A reader's bytes lie in another block than the reader. -/
theorem BS.not_block {w : World} {v : Value} {l : List UInt8} (h : BS w v l) {r : Nat} {e : Int} {t : TypeId} {fr : Nat × Nat} (hb : ∃ a n c, w.heap[r]? = some (.cells #[.slice a n c, .int .i64 e] t fr)) : ∀ c, v.ownBlock = some c → l ≠ [] → c ≠ r := by
  obtain ⟨a2, n2, c2, hb2⟩ := hb
  intro c hc hl he
  subst he
  obtain ⟨a, cap, rfl, h1, h2, h3, h4⟩ := h
  obtain ⟨b, off, rfl, hcell⟩ := h4 0 (List.length_pos_iff.2 hl)
  simp only [Value.ownBlock, Option.some.injEq] at hc
  subst hc
  rw [Nat.add_zero, cell_of_row _ _ _ _ _ _ hb2] at hcell
  cases off with
  | zero => simp at hcell
  | succ off =>
    cases off with
    | zero => simp at hcell
    | succ off => simp at hcell

theorem info_u8 : (Try.prog.info? 5).map (fun i => (i.zero, i.size, i.bytes)) = some (some (.int .u8 0), 1, 1) := by kernel_rfl
theorem u8s_one (l : List UInt8) : ∀ u ∈ l.map u8v, u.oneCell' = true := by
  intro u hu
  obtain ⟨x, _, rfl⟩ := List.mem_map.1 hu
  rfl

set_option maxHeartbeats 400000 in
theorem clone_c (w : World) (v : Value) (l : List UInt8) (hv : BS w v l) (hl : l.length ≤ 140737488355328) : Calls Try.prog 46 #[v] w fun e w' => ∃ v', e = .returned v' ∧ OV w' w.heap.size 5 v' (l.map u8v) ∧ Only [] w w' := by
  obtain ⟨i0, hi, hz0, hz1, hz2⟩ := info_parts info_u8
  have HI := Lib.hid hi; have HZ0 := Lib.hid hz0; have HZ1 := Lib.hid hz1; have HZ2 := Lib.hid hz2
  clear hi hz0 hz1 hz2
  have HV := Lib.hid hv
  obtain ⟨a, cap, rfl, h1, h2, h3, h4⟩ := hv
  have H4 := Lib.hid h4; clear h4
  cases a with
  | none =>
    obtain rfl := h3 rfl
    obtain rfl : l = [] := by cases l <;> simp_all
    have he : ∀ w : World, (binOp .eql 22 (.slice none 0 0) (.slice none 0 0)).run Try.prog w = .ok (.bool true) w := fun _ => rfl
    go_enter Try.func46, Try.ntmps46
    go_wp2
    go_ret
    exact ⟨_, rfl, OV.nil _ _ _, Only.refl _ _⟩
  | some ad =>
    have hov : OV (w.alloc (.cells #[] 5)) w.heap.size 5 (.slice (some ⟨w.heap.size, 0, none⟩) 0 0) [] := World.ownsRow_lit w #[] 0 (Nat.le_refl _) (Nat.zero_le _) rfl
    obtain ⟨v', w', hrun, hov', hg⟩ := run_append_vs (P := Try.prog) (ty := 22) Try.underlying22 HI.out HZ0.out HZ1.out HZ2.out rfl hov (VS.of_bs (HV.out.only ((Only.refl [] w).alloc _) (by simp))) (u8s_one l) (by simp; omega) (by simp; omega) (by simp)
    have ho : Only [] w w' := ((Only.refl [] w).alloc (.cells #[] 5)).trans (Only.of_grown hg) (by simp) (by simp [Value.ownBlock])
    rw [List.nil_append] at hov'
    have HOV := Lib.hid hov'; have HO := Lib.hid ho; have HRUN := Lib.hid hrun
    clear hov hov' hg ho hrun
    have he : ∀ w : World, (binOp .eql 22 (.slice (some ad) l.length cap) (.slice none 0 0)).run Try.prog w = .ok (.bool false) w := fun _ => rfl
    go_enter Try.func46, Try.ntmps46
    go_wp2_with (at_builtin; refine wpList_append_run rfl _ _ _ rfl rfl rfl HRUN.out ?_)
    go_ret
    exact ⟨_, rfl, HOV.out, HO.out⟩

theorem BO.of_ov {w : World} {B C : Nat} {v : Value} {l : List UInt8} (h : OV w B 5 v (l.map u8v)) (hC : w.heap.size ≤ C) : BO w B C v l := by
  refine ⟨BS.of_vs h.vs, fun c hc hl => ?_⟩
  have := h.lt hc
  refine ⟨this.1, by omega, ?_⟩
  rcases h.2 with ⟨rfl, h0⟩ | ⟨g, cap, cur, rfl, _, hg, _⟩
  · simp [Value.ownBlock] at hc
  · simp only [Value.ownBlock, Option.some.injEq] at hc
    subst hc
    exact ⟨cur, hg⟩

theorem newreader_c (w : World) (v : Value) (l : List UInt8) (hv : BS w v l) (hl : l.length ≤ 140737488355328) : Calls Try.prog 29 #[v] w fun e w' => ∃ r, e = .returned (.pointer (some ⟨r, 0, none⟩)) ∧ RD w' w.heap.size w'.heap.size r 0 l ∧ Only [] w w' := by
  have HV := Lib.hid hv; clear hv
  go_enter Try.func29, Try.ntmps29
  go_wp2_with fail
  refine (clone_c w v l HV.out hl).mono ?_
  rintro e w1 ⟨v', rfl, hov, ho1⟩
  have HOV := Lib.hid hov; have HO1 := Lib.hid ho1
  clear hov ho1
  obtain ⟨a, n, cap, rfl⟩ : ∃ a n cap, v' = .slice a n cap := by
    obtain ⟨a, cap, h, _⟩ := HOV.out.slice
    exact ⟨_, _, _, h⟩
  go_wp2
  go_ret
  refine ⟨_, rfl, ?_, HO1.out.alloc _⟩
  refine ⟨HO1.out.size, by simp, _, heap_alloc_new _ _, ?_⟩
  exact (BO.of_ov HOV.out (Nat.le_refl _)).only ((Only.refl [] _).alloc _) (by simp) |> fun h => ⟨h.1, fun c hc hl => by
    obtain ⟨h1, h2, h3⟩ := h.2 c hc hl
    exact ⟨h1, by simp; omega, h3⟩⟩

/-- The three-index form 'b[:n:n]'. -/
theorem run_sub_hm {P : Program} {t e : TypeId} (a : Option Addr) (n cap hi : Nat) (ht : P.underlying t = some (.slice e)) (hsz : (P.info? e).map (·.size) = some 1) (h2 : hi ≤ cap) (w : World) : (Instr.slice t (.slice a n cap) none (some (.int .i64 hi)) (some (.int .i64 hi))).run P w = .ok (subv a hi 0 hi) w := by
  rw [run_slice_hm w t a n cap (by rw [ht, elem_eq ht]) .i64 .i64 hi hi (by omega) (by omega) (by omega), elem_eq ht, sizeOf_one hsz]
  simp [Result.andThen, sliced, subv]
theorem BS.head {w : World} {a : Option Addr} {n cap : Nat} {l : List UInt8} (h : BS w (.slice a n cap) l) (hi : Nat) (h2 : hi ≤ l.length) : BS w (subv a hi 0 hi) (l.take hi) := by
  have h' : BS w (.slice a hi hi) (l.take hi) := by
    obtain ⟨a', cap', he, h3, h4, h5, h6⟩ := h
    simp only [Value.slice.injEq] at he
    obtain ⟨rfl, rfl, rfl⟩ := he
    refine ⟨a, hi, by simp; omega, by simp; omega, by omega, fun hn => by have := h5 hn; omega, fun k hk => ?_⟩
    simp only [List.length_take] at hk
    obtain ⟨b, off, ha, hc⟩ := h6 k (by omega)
    exact ⟨b, off, ha, by rw [hc]; simp⟩
  have := h'.sub 0 hi (by omega) (by simp; omega)
  simpa [List.take_take] using this
theorem size_u8 : (Try.prog.info? 5).map (·.size) = some 1 := by kernel_rfl

theorem RD.cells {w : World} {B C r : Nat} {e : Int} {l : List UInt8} (h : RD w B C r e l) : ∃ a cap, w.cell? ⟨r, 0, none⟩ = some (.slice a l.length cap) ∧ w.cell? ⟨r, 1, none⟩ = some (.int .i64 e) ∧ (∀ k, w.frozen? ⟨r, k, none⟩ = false) ∧ l.length ≤ cap ∧ cap ≤ maxLen ∧
    w.heap[r]? = some (.cells #[.slice a l.length cap, .int .i64 e] 98 (0, 0)) ∧ BO w B C (.slice a l.length cap) l := by
  obtain ⟨h1, h2, v, h3, h4⟩ := h
  obtain ⟨a, cap, rfl, h5, h6, _⟩ := h4.1
  exact ⟨a, cap, by rw [cell_of_row _ _ _ _ _ _ h3]; rfl, by rw [cell_of_row _ _ _ _ _ _ h3]; rfl, fun k => by simp [World.frozen?, h3], h5, h6, h3, h4⟩
/-- The error is laid. -/
theorem RD.err {w : World} {B C r : Nat} {e : Int} {l : List UInt8} (h : RD w B C r e l) (e' : Int) : RD (w.setCell ⟨r, 1, none⟩ (.int .i64 e')) B C r e' l ∧ Only [r] w (w.setCell ⟨r, 1, none⟩ (.int .i64 e')) := by
  have ho : Only [r] w (w.setCell ⟨r, 1, none⟩ (.int .i64 e')) := (Only.refl [r] w).setCell (.inl (by simp)) _
  obtain ⟨a, cap, _, _, _, h5, h6, h3, h4⟩ := h.cells
  refine ⟨⟨h.1, h.2.1, _, (Go.Lm.heap_setCell_same (k := 1) h3 _).trans rfl, h4.only ho fun c hc hl => ?_⟩, ho⟩
  have := BS.not_block h4.1 ⟨_, _, _, h3⟩ c hc hl
  simp [this]

/-- What is left is laid. -/
theorem RD.cut {w : World} {B C r : Nat} {e : Int} {l : List UInt8} {a : Option Addr} {cap : Nat} (h : RD w B C r e l) (hr : w.heap[r]? = some (.cells #[.slice a l.length cap, .int .i64 e] 98 (0, 0))) (hb : BO w B C (.slice a l.length cap) l) (k : Nat) (hk : k ≤ l.length) :
    RD (w.setCell ⟨r, 0, none⟩ (subv a cap k l.length)) B C r e (l.drop k) ∧ BO (w.setCell ⟨r, 0, none⟩ (subv a cap k l.length)) B C (subv a k 0 k) (l.take k) ∧ Only [r] w (w.setCell ⟨r, 0, none⟩ (subv a cap k l.length)) := by
  have ho : Only [r] w (w.setCell ⟨r, 0, none⟩ (subv a cap k l.length)) := (Only.refl [r] w).setCell (.inl (by simp)) _
  have hne := BS.not_block hb.1 ⟨_, _, _, hr⟩
  have hbl : ∀ c, a.map (·.block) = some c → (Value.slice a l.length cap).ownBlock = some c := fun c hc => by rw [ownBlock_slice]; exact hc
  have hb1 : BO w B C (subv a cap k l.length) (l.drop k) := by
    refine ⟨by have := hb.1.sub k l.length hk (Nat.le_refl _); simpa using this, fun c hc hl => hb.2 c (hbl c (by rw [subv_block] at hc; exact hc)) ?_⟩
    rintro rfl; simp at hl
  have hb2 : BO w B C (subv a k 0 k) (l.take k) := by
    refine ⟨BS.head hb.1 k hk, fun c hc hl => hb.2 c (hbl c (by rw [subv_block] at hc; exact hc)) ?_⟩
    rintro rfl; simp at hl
  refine ⟨⟨h.1, h.2.1, _, (Go.Lm.heap_setCell_same (k := 0) hr _).trans rfl, hb1.only ho fun c hc hl => ?_⟩, hb2.only ho fun c hc hl => ?_, ho⟩
  · have := hne c (hbl c (by rw [subv_block] at hc; exact hc)) (by rintro rfl; simp at hl)
    simp [this]
  · have := hne c (hbl c (by rw [subv_block] at hc; exact hc)) (by rintro rfl; simp at hl)
    simp [this]

set_option maxHeartbeats 400000 in
theorem take_c (w : World) (B C r : Nat) (e n : Int) (may : Bool) (l : List UInt8) (h : RD w B C r e l) (hn : may = true → 0 ≤ n) : Calls Try.prog 50 #[.pointer (some ⟨r, 0, none⟩), .int .i64 n, .bool may] w fun x w' =>
    ∃ v, x = .returned v ∧ RD w' B C r (Cur.rtake l e n may).2.1 (Cur.rtake l e n may).1 ∧ BO w' B C v (Cur.rtake l e n may).2.2 ∧ Only [r] w w' := by
  obtain ⟨a, cap, hc0, hc1, hfz, hcap, hcm, hr, hb⟩ := h.cells
  unfold maxLen at hcm
  by_cases he : e = 0
  · subst he
    cases may with
    | false =>
      have ht : Cur.rtake l 0 n false = (l, 1, []) := by simp [Cur.rtake]
      have hend := h.err 1
      rw [ht]
      have HEND := Lib.hid hend
      clear hend ht hr hb h hn
      go_enter Try.func50, Try.ntmps50
      go_wp2
      go_ret
      exact ⟨_, rfl, HEND.out.1, BO.nil _ _ _, HEND.out.2⟩
    | true =>
      have hn0 := hn rfl
      by_cases hlen : (l.length : Int) < n
      · have ht : Cur.rtake l 0 n true = (l, 10, []) := by simp [Cur.rtake, hlen]
        have hend := h.err 10
        rw [ht]
        have HEND := Lib.hid hend
        clear hend ht hr hb h hn
        go_enter Try.func50, Try.ntmps50
        go_wp2
        go_ret
        exact ⟨_, rfl, HEND.out.1, BO.nil _ _ _, HEND.out.2⟩
      · obtain ⟨k, rfl⟩ := Int.eq_ofNat_of_zero_le hn0
        have hk : k ≤ l.length := by omega
        have ht : Cur.rtake l 0 k true = (l.drop k, 0, l.take k) := by simp [Cur.rtake, hk]
        rw [ht]
        have hend := h.cut hr hb k hk
        have HEND := Lib.hid hend
        have hs1 := fun w => run_sub_hm (P := Try.prog) (t := 22) a l.length cap k Try.underlying22 size_u8 (by omega) w
        have hs2 := fun w => run_sub_l (P := Try.prog) (t := 22) Try.underlying22 size_u8 a l.length cap k hk w
        obtain ⟨A2, n2, c2, hV2⟩ : ∃ A2 n2 c2, subv a cap k l.length = .slice A2 n2 c2 := ⟨_, _, _, rfl⟩
        rw [hV2] at hs2 HEND
        clear hV2
        generalize subv a k 0 k = V1 at hs1 HEND
        clear hend ht hr hb h hn hn0 hlen
        go_enter Try.func50, Try.ntmps50
        go_wp2
        go_ret
        exact ⟨_, rfl, HEND.out.1, HEND.out.2.1, HEND.out.2.2⟩
  · have ht : Cur.rtake l e n may = (l, e, []) := by simp [Cur.rtake, he]
    have hz : (e == 0) = false := beq_eq_false_iff_ne.2 he
    have hz2 : (e != 0) = true := bne_iff_ne.2 he
    rw [ht]
    have H := Lib.hid h
    clear h hn ht hr hb
    go_enter Try.func50, Try.ntmps50
    go_wp2
    refine ⟨rfl, _, results_tmp rfl _ _ _, ?_⟩
    exact ⟨_, rfl, H.out, BO.nil _ _ _, Only.refl _ _⟩

theorem bytes_c (w : World) (B C r : Nat) (e n : Int) (l : List UInt8) (h : RD w B C r e l) : Calls Try.prog 33 #[.pointer (some ⟨r, 0, none⟩), .int .i64 n] w fun x w' =>
    ∃ v, x = .returned v ∧ RD w' B C r (Cur.rbytes l e n).2.1 (Cur.rbytes l e n).1 ∧ BO w' B C v (Cur.rbytes l e n).2.2 ∧ Only [r] w w' := by
  have H := Lib.hid h; clear h
  go_enter Try.func33, Try.ntmps33
  go_wp2_with fail
  refine (take_c w B C r e n (decide (0 ≤ n)) l H.out (by simp)).mono ?_
  rintro x w1 ⟨v, rfl, h1, h2, h3⟩
  have H1 := Lib.hid h1; have H2 := Lib.hid h2; have H3 := Lib.hid h3
  clear h1 h2 h3
  go_wp2
  go_ret
  exact ⟨_, rfl, H1.out, H2.out, H3.out⟩

theorem left_c (w : World) (B C r : Nat) (e : Int) (l : List UInt8) (h : RD w B C r e l) : Calls Try.prog 31 #[.pointer (some ⟨r, 0, none⟩)] w fun x w' => x = .returned (.int .i64 (l.length : Int)) ∧ w = w' := by
  obtain ⟨a, cap, hc0, hc1, hfz, hcap, hcm, hr, hb⟩ := h.cells
  clear hr hb h
  unfold maxLen at hcm
  go_enter Try.func31, Try.ntmps31
  go_wp2
  go_ret
  exact ⟨rfl, rfl⟩
theorem err_c (w : World) (B C r : Nat) (e : Int) (l : List UInt8) (h : RD w B C r e l) : Calls Try.prog 32 #[.pointer (some ⟨r, 0, none⟩)] w fun x w' => x = .returned (.int .i64 e) ∧ w = w' := by
  obtain ⟨a, cap, hc0, hc1, hfz, hcap, hcm, hr, hb⟩ := h.cells
  clear hr hb h
  unfold maxLen at hcm
  go_enter Try.func32, Try.ntmps32
  go_wp2
  go_ret
  exact ⟨rfl, rfl⟩
end Go.Proofs.Ytfckokdgmbbheaa.cur
