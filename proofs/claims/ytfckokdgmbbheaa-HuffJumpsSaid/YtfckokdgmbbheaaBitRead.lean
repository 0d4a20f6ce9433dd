/-
  THE WALKS of package bits: clones, readers from the front.
-/
import Derived.Test.YtfckokdgmbbheaaBitRef
import Derived.Outline
import Derived.OwnWalk
import Derived.RegionTactic
import Derived.Deep.RegionWith
set_option linter.unusedVariables false
set_option linter.unusedSimpArgs false
set_option maxRecDepth 20000
namespace Go.Proofs.Ytfckokdgmbbheaa.bit
open Go Go.RowKit Go.Lm

/-- Bytes in memory of a reader's own: blocks from B on, below C. -/
def BO (w : World) (B C : Nat) (v : Value) (l : List UInt8) : Prop :=
  BS w v l ∧ ∀ c, v.ownBlock = some c → l ≠ [] → B ≤ c ∧ c < C ∧ ∃ cs, w.heap[c]? = some (.cells cs 5 (0, 0))
/-- A reader (of type t): its number, its bytes. -/
def RD (t : TypeId) (w : World) (B C r : Nat) (e : Int) (l : List UInt8) : Prop :=
  B ≤ r ∧ r < C ∧ ∃ v, w.heap[r]? = some (.cells #[v, .int .i64 e] t (0, 0)) ∧ BO w B C v l
abbrev BW := RD 109

theorem BO.nil (w : World) (B C : Nat) : BO w B C (.slice none 0 0) [] := ⟨BS.nil w, fun c hc => by simp [Value.ownBlock] at hc⟩
theorem BO.kept {w w' : World} {B C : Nat} {v : Value} {l : List UInt8} (h : BO w B C v l) (hk : ∀ k, B ≤ k → k < C → w'.heap[k]? = w.heap[k]?) : BO w' B C v l := by
  refine ⟨h.1.kept fun p u hb hn hc => ?_, fun c hc hn => ?_⟩
  · obtain ⟨h1, h2, _⟩ := h.2 _ hb hn
    unfold World.cell? at hc ⊢
    rw [hk _ h1 h2]; exact hc
  · obtain ⟨h1, h2, cs, h3⟩ := h.2 c hc hn
    exact ⟨h1, h2, cs, by rw [hk c h1 h2]; exact h3⟩
theorem BO.only {S : List Nat} {w w' : World} {B C : Nat} {v : Value} {l : List UInt8} (h : BO w B C v l) (ho : Only S w w') (hn : ∀ c, v.ownBlock = some c → l ≠ [] → c ∉ S) : BO w' B C v l :=
  ⟨h.1.only ho hn, fun c hc hl => by
    obtain ⟨h1, h2, cs, h3⟩ := h.2 c hc hl
    exact ⟨h1, h2, cs, ho.heap h3 (hn c hc hl)⟩⟩
variable {t : TypeId}
theorem RD.kept {w w' : World} {B C r : Nat} {e : Int} {l : List UInt8} (h : RD t w B C r e l) (hk : ∀ k, B ≤ k → k < C → w'.heap[k]? = w.heap[k]?) : RD t w' B C r e l := by
  obtain ⟨h1, h2, v, h3, h4⟩ := h
  exact ⟨h1, h2, v, by rw [hk r h1 h2]; exact h3, h4.kept hk⟩
theorem RD.below {w w' : World} {B C D r : Nat} {e : Int} {l : List UInt8} (h : RD t w B C r e l) (hb : Below D w w') (hC : C ≤ D) : RD t w' B C r e l :=
  h.kept fun k _ hk => hb.block k (by omega)
theorem RD.only {w w' : World} {B C r : Nat} {e : Int} {l : List UInt8} (h : RD t w B C r e l) (ho : Only [] w w') (hs : C ≤ w.heap.size) : RD t w' B C r e l :=
  h.kept fun k _ hk => ho.block k (by omega) (by simp)
theorem RD.only' {S : List Nat} {w w' : World} {B C r : Nat} {e : Int} {l : List UInt8} (h : RD t w B C r e l) (ho : Only S w w') (hs : C ≤ w.heap.size) (hS : ∀ s ∈ S, s < B ∨ C ≤ s) : RD t w' B C r e l :=
  h.kept fun k h1 h2 => ho.block k (by omega) (fun hm => by have := hS k hm; omega)
theorem RD.lt {w : World} {B C r : Nat} {e : Int} {l : List UInt8} (h : RD t w B C r e l) : r < w.heap.size := by
  obtain ⟨_, _, v, h, _⟩ := h
  exact lt_of_block h
/-- A reader's bytes lie in another block than the reader. -/
theorem BS.not_block {w : World} {v : Value} {l : List UInt8} (h : BS w v l) {r : Nat} {e : Int} {t : TypeId} {fr : Nat × Nat} (hb : ∃ a n c, w.heap[r]? = some (.cells #[.slice a n c, .int .i64 e] t fr)) : ∀ c, v.ownBlock = some c → l ≠ [] → c ≠ r := by
  obtain ⟨a2, n2, c2, hb2⟩ := hb
  intro c hc hl he
  subst he
  obtain ⟨a, cap, rfl, h1, h2, h3, h4⟩ := h
  obtain ⟨b, off, rfl, hcell⟩ := h4 0 (List.length_pos_iff.2 hl)
  simp only [Value.ownBlock, Option.some.injEq] at hc
  subst hc
  rw [Nat.add_zero, cell_of_row _ _ _ _ _ _ hb2] at hcell
  cases off with
  | zero => simp at hcell
  | succ off =>
    cases off with
    | zero => simp at hcell
    | succ off => simp at hcell
theorem RD.cells {w : World} {B C r : Nat} {e : Int} {l : List UInt8} (h : RD t w B C r e l) : ∃ a cap, w.cell? ⟨r, 0, none⟩ = some (.slice a l.length cap) ∧ w.cell? ⟨r, 1, none⟩ = some (.int .i64 e) ∧ (∀ k, w.frozen? ⟨r, k, none⟩ = false) ∧ l.length ≤ cap ∧ cap ≤ maxLen ∧
    w.heap[r]? = some (.cells #[.slice a l.length cap, .int .i64 e] t (0, 0)) ∧ BO w B C (.slice a l.length cap) l := by
  obtain ⟨h1, h2, v, h3, h4⟩ := h
  obtain ⟨a, cap, rfl, h5, h6, _⟩ := h4.1
  exact ⟨a, cap, by rw [cell_of_row _ _ _ _ _ _ h3]; rfl, by rw [cell_of_row _ _ _ _ _ _ h3]; rfl, fun k => by simp [World.frozen?, h3], h5, h6, h3, h4⟩
/-- The number is laid. -/
theorem RD.put {w : World} {B C r : Nat} {e : Int} {l : List UInt8} (h : RD t w B C r e l) (e' : Int) : RD t (w.setCell ⟨r, 1, none⟩ (.int .i64 e')) B C r e' l ∧ Only [r] w (w.setCell ⟨r, 1, none⟩ (.int .i64 e')) := by
  have ho : Only [r] w (w.setCell ⟨r, 1, none⟩ (.int .i64 e')) := (Only.refl [r] w).setCell (.inl (by simp)) _
  obtain ⟨a, cap, _, _, _, h5, h6, h3, h4⟩ := h.cells
  refine ⟨⟨h.1, h.2.1, _, (Go.Lm.heap_setCell_same (k := 1) h3 _).trans rfl, h4.only ho fun c hc hl => ?_⟩, ho⟩
  have := BS.not_block h4.1 ⟨_, _, _, h3⟩ c hc hl
  simp [this]

set_option maxHeartbeats 400000 in
theorem clone_c (w : World) (v : Value) (l : List UInt8) (hv : BS w v l) (hl : l.length ≤ 140737488355328) : Calls Try.prog 46 #[v] w fun e w' => ∃ v', e = .returned v' ∧ OV w' w.heap.size 5 v' (l.map u8v) ∧ Only [] w w' := by
  obtain ⟨i0, hi, hz0, hz1, hz2⟩ := info_parts info_u8
  have HI := Lib.hid hi; have HZ0 := Lib.hid hz0; have HZ1 := Lib.hid hz1; have HZ2 := Lib.hid hz2
  clear hi hz0 hz1 hz2
  have HV := Lib.hid hv
  obtain ⟨a, cap, rfl, h1, h2, h3, h4⟩ := hv
  have H4 := Lib.hid h4; clear h4
  cases a with
  | none =>
    obtain rfl := h3 rfl
    obtain rfl : l = [] := by cases l <;> simp_all
    have he : ∀ w : World, (binOp .eql 22 (.slice none 0 0) (.slice none 0 0)).run Try.prog w = .ok (.bool true) w := fun _ => rfl
    go_enter Try.func46, Try.ntmps46
    go_wp2
    go_ret
    exact ⟨_, rfl, OV.nil _ _ _, Only.refl _ _⟩
  | some ad =>
    have hov : OV (w.alloc (.cells #[] 5)) w.heap.size 5 (.slice (some ⟨w.heap.size, 0, none⟩) 0 0) [] := World.ownsRow_lit w #[] 0 (Nat.le_refl _) (Nat.zero_le _) rfl
    obtain ⟨v', w', hrun, hov', hg⟩ := run_append_vs (P := Try.prog) (ty := 22) Try.underlying22 HI.out HZ0.out HZ1.out HZ2.out rfl hov (VS.of_bs (HV.out.only ((Only.refl [] w).alloc _) (by simp))) (u8s_one l) (by simp; omega) (by simp; omega) (by simp)
    have ho : Only [] w w' := ((Only.refl [] w).alloc (.cells #[] 5)).trans (Only.of_grown hg) (by simp) (by simp [Value.ownBlock])
    rw [List.nil_append] at hov'
    have HOV := Lib.hid hov'; have HO := Lib.hid ho; have HRUN := Lib.hid hrun
    clear hov hov' hg ho hrun
    have he : ∀ w : World, (binOp .eql 22 (.slice (some ad) l.length cap) (.slice none 0 0)).run Try.prog w = .ok (.bool false) w := fun _ => rfl
    go_enter Try.func46, Try.ntmps46
    go_wp2_with (at_builtin; refine wpList_append_run rfl _ _ _ rfl rfl rfl HRUN.out ?_)
    go_ret
    exact ⟨_, rfl, HOV.out, HO.out⟩
theorem BO.of_ov {w : World} {B C : Nat} {v : Value} {l : List UInt8} (h : OV w B 5 v (l.map u8v)) (hC : w.heap.size ≤ C) : BO w B C v l := by
  refine ⟨BS.of_vs h.vs, fun c hc hl => ?_⟩
  have := h.lt hc
  refine ⟨this.1, by omega, ?_⟩
  rcases h.2 with ⟨rfl, h0⟩ | ⟨g, cap, cur, rfl, _, hg, _⟩
  · simp [Value.ownBlock] at hc
  · simp only [Value.ownBlock, Option.some.injEq] at hc
    subst hc
    exact ⟨cur, hg⟩
/-- What a read from the front gives: the number, the error, where it stands. -/
def fread (l : List UInt8) (p : Nat) (n : Int) : Nat × Int × Nat :=
  if n < 0 ∨ 32 < n then (0, 1, p) else if (8 * l.length : Int) - p < n then (0, 10, p) else (Bt.num (((Bt.bitsOf l).drop p).take n.toNat), 0, p + n.toNat)
theorem fread_at (l : List UInt8) (p : Nat) (n : Int) (hp : p ≤ 8 * l.length) : (fread l p n).2.2 ≤ 8 * l.length := by
  unfold fread
  split
  · exact hp
  · split
    · exact hp
    · simp only; omega

/-- Where it stands behind 'Back'. -/
def fback (p : Nat) (n : Int) : Nat := if 0 < n then p - min n.toNat p else p
end Go.Proofs.Ytfckokdgmbbheaa.bit
