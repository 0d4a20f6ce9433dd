/-
  THE WALK of wire.Get.
-/
import Derived.Test.YtdoiebbbgmlkaaaDoorWrPut
import Derived.RangeFuncBox
import Derived.Deep.RegionHeld3
set_option linter.unusedVariables false
set_option linter.unusedSimpArgs false
namespace Go.Proofs.YtdoiebbbgmlkaaaDoor.wr
open Go Go.RowKit Go.Lm Go.Proofs.YtdoiebbbgmlkaaaDoor.cur Go.Proofs.YtdoiebbbgmlkaaaDoor.crc

theorem rdn {W W' : World} {B C r : Nat} {e : Int} {l : List UInt8} (h : RD W B C r e l) (hC : C ≤ W.heap.size) (h' : Only [] W W') : RD W' B C r e l := h.only h' hC
theorem MB.set {w : World} {b : Nat} {t : TypeId} {m : Wr.Msg} {v : Value} (h : MB w b t m v) (m' : Wr.Msg) (v' : Value) :
    MB (((((((w.setCell ⟨b, 0, none⟩ (.int .u8 (m'.kind : Int))).setCell ⟨b, 1, none⟩ (.int .u64 (m'.key : Int))).setCell ⟨b, 2, none⟩ (.int .u64 (m'.epoch : Int))).setCell ⟨b, 3, none⟩ (.int .u32 (m'.index : Int))).setCell ⟨b, 4, none⟩ (.int .u32 (m'.a : Int))).setCell ⟨b, 5, none⟩ (.int .u32 (m'.b : Int))).setCell ⟨b, 6, none⟩ v') b t m' v' := by
  unfold MB at *
  have h0 := Lm.heap_setCell_same (k := 0) h (.int .u8 (m'.kind : Int))
  simp only [List.setIfInBounds_toArray, List.set_cons_zero, List.set_cons_succ] at h0
  have h1 := Lm.heap_setCell_same (k := 1) h0 (.int .u64 (m'.key : Int))
  simp only [List.setIfInBounds_toArray, List.set_cons_zero, List.set_cons_succ] at h1
  have h2 := Lm.heap_setCell_same (k := 2) h1 (.int .u64 (m'.epoch : Int))
  simp only [List.setIfInBounds_toArray, List.set_cons_zero, List.set_cons_succ] at h2
  have h3 := Lm.heap_setCell_same (k := 3) h2 (.int .u32 (m'.index : Int))
  simp only [List.setIfInBounds_toArray, List.set_cons_zero, List.set_cons_succ] at h3
  have h4 := Lm.heap_setCell_same (k := 4) h3 (.int .u32 (m'.a : Int))
  simp only [List.setIfInBounds_toArray, List.set_cons_zero, List.set_cons_succ] at h4
  have h5 := Lm.heap_setCell_same (k := 5) h4 (.int .u32 (m'.b : Int))
  simp only [List.setIfInBounds_toArray, List.set_cons_zero, List.set_cons_succ] at h5
  have h6 := Lm.heap_setCell_same (k := 6) h5 v'
  simp only [List.setIfInBounds_toArray, List.set_cons_zero, List.set_cons_succ] at h6
  exact h6

theorem only_set7 {S : List Nat} {w0 w : World} {D : Nat} (h : Only S w0 w) (hD : w0.heap.size ≤ D) (m' : Wr.Msg) (v' : Value) :
    Only S w0 (((((((w.setCell ⟨D, 0, none⟩ (.int .u8 (m'.kind : Int))).setCell ⟨D, 1, none⟩ (.int .u64 (m'.key : Int))).setCell ⟨D, 2, none⟩ (.int .u64 (m'.epoch : Int))).setCell ⟨D, 3, none⟩ (.int .u32 (m'.index : Int))).setCell ⟨D, 4, none⟩ (.int .u32 (m'.a : Int))).setCell ⟨D, 5, none⟩ (.int .u32 (m'.b : Int))).setCell ⟨D, 6, none⟩ v') :=
  ((((((h.setCell (.inr hD) _).setCell (.inr hD) _).setCell (.inr hD) _).setCell (.inr hD) _).setCell (.inr hD) _).setCell (.inr hD) _).setCell (.inr hD) _
theorem rd_set7 {w : World} {B C r D : Nat} {e : Int} {l : List UInt8} (h : RD w B C r e l) (hD : C ≤ D) (m' : Wr.Msg) (v' : Value) :
    RD (((((((w.setCell ⟨D, 0, none⟩ (.int .u8 (m'.kind : Int))).setCell ⟨D, 1, none⟩ (.int .u64 (m'.key : Int))).setCell ⟨D, 2, none⟩ (.int .u64 (m'.epoch : Int))).setCell ⟨D, 3, none⟩ (.int .u32 (m'.index : Int))).setCell ⟨D, 4, none⟩ (.int .u32 (m'.a : Int))).setCell ⟨D, 5, none⟩ (.int .u32 (m'.b : Int))).setCell ⟨D, 6, none⟩ v') B C r e l :=
  h.kept fun k _ hk => by
    rw [Below.heap_setCell _ _ _ _ (by simp; omega), Below.heap_setCell _ _ _ _ (by simp; omega), Below.heap_setCell _ _ _ _ (by simp; omega), Below.heap_setCell _ _ _ _ (by simp; omega), Below.heap_setCell _ _ _ _ (by simp; omega), Below.heap_setCell _ _ _ _ (by simp; omega), Below.heap_setCell _ _ _ _ (by simp; omega)]
theorem bs_set7 {w : World} {u : Value} {l : List UInt8} {D : Nat} (h : BS w u l) (hn : ∀ b, u.ownBlock = some b → l ≠ [] → D < b) (m' : Wr.Msg) (v' : Value) :
    BS (((((((w.setCell ⟨D, 0, none⟩ (.int .u8 (m'.kind : Int))).setCell ⟨D, 1, none⟩ (.int .u64 (m'.key : Int))).setCell ⟨D, 2, none⟩ (.int .u64 (m'.epoch : Int))).setCell ⟨D, 3, none⟩ (.int .u32 (m'.index : Int))).setCell ⟨D, 4, none⟩ (.int .u32 (m'.a : Int))).setCell ⟨D, 5, none⟩ (.int .u32 (m'.b : Int))).setCell ⟨D, 6, none⟩ v') u l :=
  h.kept fun p x hb hne hc => by
    have hp := hn _ hb hne
    rw [World.cell?_of_block (a := p) (w := w) (by rw [Below.heap_setCell _ _ _ _ (by simp; omega), Below.heap_setCell _ _ _ _ (by simp; omega), Below.heap_setCell _ _ _ _ (by simp; omega), Below.heap_setCell _ _ _ _ (by simp; omega), Below.heap_setCell _ _ _ _ (by simp; omega), Below.heap_setCell _ _ _ _ (by simp; omega), Below.heap_setCell _ _ _ _ (by simp; omega)])]
    exact hc
theorem mb_new {w w' : World} {r : Nat} {t : TypeId} (ho : Only [r] (w.alloc (.cells #[.int .u8 0, .int .u64 0, .int .u64 0, .int .u32 0, .int .u32 0, .int .u32 0, .slice none 0 0] t (0, 0))) w') (hr : r < w.heap.size) : MB w' w.heap.size t Wr.zero (.slice none 0 0) :=
  (MB.new w t Wr.zero _).only ho (by simp; omega)
theorem mb_newd {w w' : World} {r : Nat} {t : TypeId} (ho : Only [r] (w.alloc (.cells #[.int .u8 0, .int .u64 0, .int .u64 0, .int .u32 0, .int .u32 0, .int .u32 0, .slice none 0 0] t (0, 0))).drew w') (hr : r < w.heap.size) : MB w' w.heap.size t Wr.zero (.slice none 0 0) :=
  mb_new (⟨ho.os, ho.tape, ho.output, ho.size, ho.block⟩ : Only [r] (w.alloc (.cells #[.int .u8 0, .int .u64 0, .int .u64 0, .int .u32 0, .int .u32 0, .int .u32 0, .slice none 0 0] t (0, 0))) w') hr

theorem MB.set345 {w : World} {b : Nat} {t : TypeId} {m : Wr.Msg} {v : Value} (h : MB w b t m v) (i a z : Nat) :
    MB (((w.setCell ⟨b, 3, none⟩ (.int .u32 (i : Int))).setCell ⟨b, 4, none⟩ (.int .u32 (a : Int))).setCell ⟨b, 5, none⟩ (.int .u32 (z : Int))) b t ⟨m.kind, m.key, m.epoch, i, a, z, m.bytes⟩ v := by
  unfold MB at *
  have h3 := Lm.heap_setCell_same (k := 3) h (.int .u32 (i : Int))
  simp only [List.setIfInBounds_toArray, List.set_cons_zero, List.set_cons_succ] at h3
  have h4 := Lm.heap_setCell_same (k := 4) h3 (.int .u32 (a : Int))
  simp only [List.setIfInBounds_toArray, List.set_cons_zero, List.set_cons_succ] at h4
  have h5 := Lm.heap_setCell_same (k := 5) h4 (.int .u32 (z : Int))
  simp only [List.setIfInBounds_toArray, List.set_cons_zero, List.set_cons_succ] at h5
  exact h5
theorem MB.set6 {w : World} {b : Nat} {t : TypeId} {m : Wr.Msg} {v : Value} (h : MB w b t m v) (bs : List UInt8) (v' : Value) : MB (w.setCell ⟨b, 6, none⟩ v') b t ⟨m.kind, m.key, m.epoch, m.index, m.a, m.b, bs⟩ v' := by
  unfold MB at *
  have h6 := Lm.heap_setCell_same (k := 6) h v'
  simp only [List.setIfInBounds_toArray, List.set_cons_zero, List.set_cons_succ] at h6
  exact h6
theorem rd_set {w : World} {B C r D k : Nat} {e : Int} {l : List UInt8} {v : Value} (h : RD w B C r e l) (hD : C ≤ D) : RD (w.setCell ⟨D, k, none⟩ v) B C r e l :=
  h.kept fun k _ hk => by rw [Below.heap_setCell _ _ _ _ (by simp; omega)]

theorem bs_take {w : World} {a : Option Addr} {n cap : Nat} {l : List UInt8} (h : BS w (.slice a n cap) l) (k : Nat) (hk : k ≤ l.length) : BS w (.slice a k cap) (l.take k) := by
  obtain ⟨a', cap', he, h1, h2, h3, hc⟩ := h
  simp only [Value.slice.injEq] at he
  obtain ⟨rfl, rfl, rfl⟩ := he
  have hl : (l.take k).length = k := by rw [List.length_take]; omega
  refine ⟨a, cap, by rw [hl], by rw [hl]; omega, h2, h3, fun j hj => ?_⟩
  rw [hl] at hj
  obtain ⟨b, off, rfl, hcell⟩ := hc j (by omega)
  refine ⟨b, off, rfl, ?_⟩
  rw [hcell, List.getElem_take]

/-- The closure: the next number of four bytes. -/
theorem four_c (w : World) (C r x : Nat) (hx : x < 4294967296) (hp : w.cell? ⟨C, 0, none⟩ = some (.pointer (some ⟨r, 0, none⟩))) (Q : World → Prop)
    (hn : Calls Tryd.prog 28 #[.pointer (some ⟨r, 0, none⟩), .int .i64 4] w fun z w' => z = .returned (.int .u64 (x : Nat)) ∧ Q w') :
    Calls Tryd.prog 27 #[.pointer (some ⟨C, 0, none⟩)] w fun e w' => e = .returned (.int .u32 (x : Nat)) ∧ Q w' := by
  have HN := Lib.hid hn
  clear hn
  go_enter Tryd.func27, Tryd.ntmps27
  go_wp2_with fail
  refine HN.out.mono ?_
  rintro e w' ⟨rfl, hq⟩
  have HQ := Lib.hid hq
  clear hq
  go_wp2
  go_ret
  exact ⟨rfl, HQ.out⟩

set_option maxRecDepth 100000 in
set_option maxHeartbeats 8000000 in
theorem get_c (w : World) (v : Value) (l : List UInt8) (hv : BS w v l) (hl : l.length ≤ 1000000) (hT : Tab w) : Calls Tryd.prog 12 #[v] w fun e w' => (∃ u, e = .returned (.tuple #[msgV (Wr.get l).1 u, .int .i64 (Wr.get l).2]) ∧ BS w' u (Wr.get l).1.bytes) ∧ Only [] w w' := by
  have HV := Lib.hid hv; have HT := Lib.hid hT
  clear hT
  obtain ⟨⟨L1, E1, K⟩, h1⟩ : ∃ t, Cur.rnum l 0 1 = t := ⟨_, rfl⟩
  obtain ⟨⟨L2, E2, Y⟩, h2⟩ : ∃ t, Cur.rnum L1 E1 8 = t := ⟨_, rfl⟩
  obtain ⟨⟨L3, E3, P⟩, h3⟩ : ∃ t, Cur.rnum L2 E2 8 = t := ⟨_, rfl⟩
  obtain ⟨⟨L4, E4, I⟩, h4⟩ : ∃ t, Cur.rnum L3 E3 4 = t := ⟨_, rfl⟩
  obtain ⟨⟨L5, E5, A⟩, h5⟩ : ∃ t, Cur.rnum L4 E4 4 = t := ⟨_, rfl⟩
  obtain ⟨⟨L6, E6, Z⟩, h6⟩ : ∃ t, Cur.rnum L5 E5 4 = t := ⟨_, rfl⟩
  obtain ⟨⟨L7, E7, N⟩, h7⟩ : ∃ t, Cur.rnum L6 E6 2 = t := ⟨_, rfl⟩
  obtain ⟨⟨L8, E8, bs⟩, h8⟩ : ∃ t, Cur.rbytes L7 E7 (N : Nat) = t := ⟨_, rfl⟩
  obtain ⟨⟨L9, E9, X⟩, h9⟩ : ∃ t, Cur.rnum L8 E8 4 = t := ⟨_, rfl⟩
  have hraw := Wr.raw_of h1 h2 h3 h4 h5 h6 h7 h8 h9
  have k1 := Cur.rnum_lt l 0 1 (by decide) (by decide)
  have k4 := Cur.rnum_lt L3 E3 4 (by decide) (by decide)
  have k5 := Cur.rnum_lt L4 E4 4 (by decide) (by decide)
  have k6 := Cur.rnum_lt L5 E5 4 (by decide) (by decide)
  have k7 := Cur.rnum_lt L6 E6 2 (by decide) (by decide)
  have k9 := Cur.rnum_lt L8 E8 4 (by decide) (by decide)
  have k1 : K < 256 := by have e := congrArg (fun t => t.2.2) h1; simp only at e; rw [← e]; exact k1
  have k4 : I < 4294967296 := by have e := congrArg (fun t => t.2.2) h4; simp only at e; rw [← e]; exact k4
  have k5 : A < 4294967296 := by have e := congrArg (fun t => t.2.2) h5; simp only at e; rw [← e]; exact k5
  have k6 : Z < 4294967296 := by have e := congrArg (fun t => t.2.2) h6; simp only at e; rw [← e]; exact k6
  have k7 : N < 65536 := by have e := congrArg (fun t => t.2.2) h7; simp only at e; rw [← e]; exact k7
  have k9 : X < 4294967296 := by have e := congrArg (fun t => t.2.2) h9; simp only at e; rw [← e]; exact k9
  have HRAW := Lib.hid hraw
  have nc : ∀ (B C r : Nat) (l : List UInt8) (e : Int) (n : Int) (l' : List UInt8) (e' : Int) (x : Nat), Cur.rnum l e n = (l', e', x) → ∀ W, RD W B C r e l → Calls Tryd.prog 28 #[.pointer (some ⟨r, 0, none⟩), .int .i64 n] W fun z w' =>
      z = .returned (.int .u64 (x : Nat)) ∧ RD w' B C r e' l' ∧ Only [r] W w' := by
    intro B C r l e n l' e' x h W hW
    have h2 := number_c W B C r e n l hW
    rw [h] at h2
    exact h2
  have HN1 := Lib.hid (fun B C r => nc B C r _ _ _ _ _ _ h1)
  have HN2 := Lib.hid (fun B C r => nc B C r _ _ _ _ _ _ h2)
  have HN3 := Lib.hid (fun B C r => nc B C r _ _ _ _ _ _ h3)
  have HN4 := Lib.hid (fun B C r => nc B C r _ _ _ _ _ _ h4)
  have HN5 := Lib.hid (fun B C r => nc B C r _ _ _ _ _ _ h5)
  have HN6 := Lib.hid (fun B C r => nc B C r _ _ _ _ _ _ h6)
  have HN7 := Lib.hid (fun B C r => nc B C r _ _ _ _ _ _ h7)
  have HN9 := Lib.hid (fun B C r => nc B C r _ _ _ _ _ _ h9)
  have HB8 : Hid (∀ (B C r : Nat) (W : World), RD W B C r E7 L7 → Calls Tryd.prog 29 #[.pointer (some ⟨r, 0, none⟩), .int .i64 (N : Nat)] W fun x w' => ∃ v, x = .returned v ∧ RD w' B C r E8 L8 ∧ BO w' B C v bs ∧ Only [r] W w') := Lib.hid (by
    intro B C r W hW
    have h2 := bytes_c W B C r E7 (N : Nat) L7 hW
    rw [h8] at h2
    exact h2)
  clear h1 h2 h3 h4 h5 h6 h7 h8 h9 hraw nc
  obtain ⟨a, cap, rfl, hc1, hc2, -, -⟩ := hv
  unfold maxLen at hc2
  go_enter Tryd.func12, Tryd.ntmps12
  --@1
  go_upto_region 1 with fail
  --@2
  have hz : MB (w.alloc (.cells #[.int .u8 0, .int .u64 0, .int .u64 0, .int .u32 0, .int .u32 0, .int .u32 0, .slice none 0 0] 26 (0, 0))) w.heap.size 26 Wr.zero (.slice none 0 0) := MB.new w _ Wr.zero _
  have ho1 : Only [] w (w.alloc (.cells #[.int .u8 0, .int .u64 0, .int .u64 0, .int .u32 0, .int .u32 0, .int .u32 0, .slice none 0 0] 26 (0, 0))) := (Only.refl [] w).alloc _
  generalize World.alloc w _ = w1 at *
  obtain ⟨q, hq⟩ : ∃ q, w.heap.size = q := ⟨_, rfl⟩
  rw [hq] at hz ⊢
  have HQ := Lib.hid hq
  have HZ1 := Lib.hid hz; have HO1 := Lib.hid ho1
  clear hz ho1 hq
  go_wp2_with fail
  refine (newreader_c w1 _ l (HV.out.only HO1.out (by simp)) (by omega)).mono ?_
  rintro e w2 ⟨r, rfl, hr, ho2⟩
  have hr1 := hr.1
  have HO2 := Lib.hid (HO1.out.then ho2)
  have HZ2 := Lib.hid (HZ1.out.only ho2 (by simp))
  have hs2 : w.heap.size ≤ w1.heap.size := HO1.out.size
  have hr0 : w.heap.size ≤ r := by omega
  have hqr : q < w1.heap.size := HZ1.out.lt
  generalize w1.heap.size = B at *
  obtain ⟨C, hC⟩ : ∃ C, w2.heap.size = C := ⟨_, rfl⟩
  rw [hC] at hr
  have HR2 := Lib.hid hr
  clear ho2 hr HO1 HZ1
  --@3
  go_upto_region 3 with fail
  --@4
  have hp3 : (w2.alloc (.cells #[.pointer (some ⟨r, 0, none⟩)] 61 (0, 0))).cell? ⟨C, 0, none⟩ = some (.pointer (some ⟨r, 0, none⟩)) := by
    have h := (Boxed.new w2 61 (.pointer (some ⟨r, 0, none⟩))).cell
    rwa [hC] at h
  have HO3 : Hid (Only [] w (w2.alloc (.cells #[.pointer (some ⟨r, 0, none⟩)] 61 (0, 0)))) := Lib.hid (HO2.out.alloc _)
  have HZ3 : Hid (MB (w2.alloc (.cells #[.pointer (some ⟨r, 0, none⟩)] 61 (0, 0))) q 26 Wr.zero (.slice none 0 0)) := Lib.hid (HZ2.out.only ((Only.refl [] w2).alloc _) (by simp))
  have HR3 : Hid (RD (w2.alloc (.cells #[.pointer (some ⟨r, 0, none⟩)] 61 (0, 0))) B C r 0 l) := Lib.hid (rdn HR2.out (by omega) ((Only.refl [] w2).alloc _))
  have hs3 : C + 1 = (w2.alloc (.cells #[.pointer (some ⟨r, 0, none⟩)] 61 (0, 0))).heap.size := by simp; omega
  generalize World.alloc w2 _ = w3 at *
  have hrC : r < C := HR2.out.2.1
  have hCr : ¬ C = r := by omega
  have HS3 : Hid (C ≤ w3.heap.size) := Lib.hid (by omega)
  have hn3 := World.new_ne w3 _ hp3
  clear HO2 HZ2 HR2 hC hs2
  have hu8 : IntKind.u8.wrap (K : Int) = (K : Int) := by rw [IntKind.wrap_u8]; omega
  --@5
  go_cut [6] (fun s6 wx => ∃ D : Nat, s6 = .pointer (some ⟨D, 0, none⟩) ∧ C < D ∧ w3.heap.size ≤ D ∧ MB wx D 26 ⟨K, Y, P, 0, 0, 0, []⟩ (.slice none 0 0) ∧ RD wx B C r E3 L3 ∧ Only [r] w3 wx)
  case first =>
    go_region_held3 (fun w' => w'.cell? ⟨C, 0, none⟩ = some (.pointer (some ⟨r, 0, none⟩))) (go_keep) (first | (go_at_call 28; with_reducible refine (HN3.out B C r _ (by first | with_reducible exact HR5.out | with_reducible exact rdn HR5.out HS5.out (Only.refl [] _).drew | with_reducible exact rdn HR5.out HS5.out ((Only.refl [] _).alloc _) | with_reducible exact rdn HR5.out HS5.out ((Only.refl [] _).alloc _).drew)).mono ?_; rintro e w6 ⟨rfl, hr6, ho6⟩; have g6 := ho6.cell (p := ⟨C, 0, none⟩) (v := .pointer (some ⟨r, 0, none⟩)) (by go_simp) (by simp [hCr]); have n6 := World.new_ne w6 _ g6; have hx6 : Only [r] w5 w6 := (by first | with_reducible exact ho6 | with_reducible exact (Only.refl [r] w5).drew.then ho6 | with_reducible exact ((Only.refl [r] w5).alloc _).then ho6 | with_reducible exact ((Only.refl [r] w5).alloc _).drew.then ho6); have HS6 : Hid (C ≤ w6.heap.size) := Lib.hid (Nat.le_trans HS5.out hx6.size); have HR6 := Lib.hid hr6; have HX6 := Lib.hid hx6; (first | (with_reducible have kh6 := kh5.only hx6 (by simp; have := HS3.out; have := hx4.size; omega)) | (with_reducible have kh6 := mb_newd ho6 (by have := HS5.out; omega)) | (with_reducible have kh6 := mb_new ho6 (by have := HS5.out; omega)) | skip); (first | (obtain ⟨kc0, kc1, kc2, kc3, kc4, kc5, kc6, kf⟩ := kh6.cells) | skip); clear hr6 ho6) | (go_at_call 28; with_reducible refine (HN2.out B C r _ (by first | with_reducible exact HR4.out | with_reducible exact rdn HR4.out HS4.out (Only.refl [] _).drew | with_reducible exact rdn HR4.out HS4.out ((Only.refl [] _).alloc _) | with_reducible exact rdn HR4.out HS4.out ((Only.refl [] _).alloc _).drew)).mono ?_; rintro e w5 ⟨rfl, hr5, ho5⟩; have g5 := ho5.cell (p := ⟨C, 0, none⟩) (v := .pointer (some ⟨r, 0, none⟩)) (by go_simp) (by simp [hCr]); have n5 := World.new_ne w5 _ g5; have hx5 : Only [r] w4 w5 := (by first | with_reducible exact ho5 | with_reducible exact (Only.refl [r] w4).drew.then ho5 | with_reducible exact ((Only.refl [r] w4).alloc _).then ho5 | with_reducible exact ((Only.refl [r] w4).alloc _).drew.then ho5); have HS5 : Hid (C ≤ w5.heap.size) := Lib.hid (Nat.le_trans HS4.out hx5.size); have HR5 := Lib.hid hr5; have HX5 := Lib.hid hx5; (first | (with_reducible have kh5 := kh4.only hx5 (by simp; have := HS3.out; have := hx4.size; omega)) | (with_reducible have kh5 := mb_newd ho5 (by have := HS4.out; omega)) | (with_reducible have kh5 := mb_new ho5 (by have := HS4.out; omega)) | skip); clear hr5 ho5) | (go_at_call 28; with_reducible refine (HN1.out B C r _ (by first | with_reducible exact HR3.out | with_reducible exact rdn HR3.out HS3.out (Only.refl [] _).drew | with_reducible exact rdn HR3.out HS3.out ((Only.refl [] _).alloc _) | with_reducible exact rdn HR3.out HS3.out ((Only.refl [] _).alloc _).drew)).mono ?_; rintro e w4 ⟨rfl, hr4, ho4⟩; have g4 := ho4.cell (p := ⟨C, 0, none⟩) (v := .pointer (some ⟨r, 0, none⟩)) (by go_simp) (by simp [hCr]); have n4 := World.new_ne w4 _ g4; have hx4 : Only [r] w3 w4 := (by first | with_reducible exact ho4 | with_reducible exact (Only.refl [r] w3).drew.then ho4 | with_reducible exact ((Only.refl [r] w3).alloc _).then ho4 | with_reducible exact ((Only.refl [r] w3).alloc _).drew.then ho4); have HS4 : Hid (C ≤ w4.heap.size) := Lib.hid (Nat.le_trans HS3.out hx4.size); have HR4 := Lib.hid hr4; have HX4 := Lib.hid hx4; (first | (with_reducible have kh4 := mb_newd ho4 (by have := HS3.out; omega)) | (with_reducible have kh4 := mb_new ho4 (by have := HS3.out; omega)) | skip); clear hr4 ho4))
    all_goals
      have hx36 : Only [r] w3 w6 := (HX4.out.then HX5.out).then HX6.out
      have hD6 : w3.heap.size ≤ w6.heap.size := hx36.size
      have hD5 : w3.heap.size ≤ w5.heap.size := (HX4.out.then HX5.out).size
      have hD4 : w3.heap.size ≤ w4.heap.size := HX4.out.size
      have hS3 := HS3.out
      have hD3 := Nat.le_refl w3.heap.size
    focus
      have hm := MB.new w6 26 ⟨K, Y, P, 0, 0, 0, []⟩ (.slice none 0 0)
      have ho : Only [r] w3 (w6.alloc (.cells #[.int .u8 (K : Int), .int .u64 (Y : Int), .int .u64 (P : Int), .int .u32 ((0 : Nat) : Int), .int .u32 ((0 : Nat) : Int), .int .u32 ((0 : Nat) : Int), .slice none 0 0] 26 (0, 0))) := hx36.alloc _
      have hq6 := HR6.out
      have hr7 : RD (w6.alloc (.cells #[.int .u8 (K : Int), .int .u64 (Y : Int), .int .u64 (P : Int), .int .u32 ((0 : Nat) : Int), .int .u32 ((0 : Nat) : Int), .int .u32 ((0 : Nat) : Int), .slice none 0 0] 26 (0, 0))) B C r E3 L3 := rdn HR6.out (by omega) ((Only.refl [] w6).alloc _)
      go_wp2_with fail
      go_meet
      exact ⟨w6.heap.size, rfl, by omega, by omega, hm, hr7, ho⟩
    all_goals
      go_wp2_with fail
      go_meet
      exact ⟨_, rfl, by omega, by omega, kh6.set ⟨K, Y, P, 0, 0, 0, []⟩ (.slice none 0 0), rd_set7 HR6.out (by omega) ⟨K, Y, P, 0, 0, 0, []⟩ (.slice none 0 0), only_set7 hx36 (by omega) ⟨K, Y, P, 0, 0, 0, []⟩ (.slice none 0 0)⟩
  case rest =>
    obtain ⟨D, rfl, hCD, h3D, hm4, hr4, ho4⟩ := hcut
    rename_i wc
    have hp4 := ho4.cell hp3 (by simp [hCr])
    have HZ4 := Lib.hid (HZ3.out.only ho4 (by simp; omega))
    have HM4 := Lib.hid hm4; have HR4 := Lib.hid hr4; have HX4 := Lib.hid ho4
    have HS4 : Hid (C ≤ wc.heap.size) := Lib.hid (by have := ho4.size; omega)
    clear hm4 hr4 ho4 hp3 hn3 HZ3 HR3
    --@7
    have hu5 : IntKind.u32.wrap (I : Int) = (I : Int) := by rw [IntKind.wrap_u32]; omega
    go_wp2_with fail
    refine (four_c wc C r I k4 hp4 _ (HN4.out B C r wc HR4.out)).mono ?_
    rintro e w5 ⟨rfl, hr5, ho5⟩
    have hp5 := ho5.cell hp4 (by simp [hCr])
    have HR5 := Lib.hid hr5; have HX5 := Lib.hid (HX4.out.then ho5)
    have HM5 := Lib.hid (HM4.out.only ho5 (by simp; omega)); have HZ5 := Lib.hid (HZ4.out.only ho5 (by simp; omega))
    have HS5 : Hid (C ≤ w5.heap.size) := Lib.hid (Nat.le_trans HS4.out ho5.size)
    clear hr5 ho5 hp4 HR4 HX4 HM4 HZ4 HS4
    go_wp2_with fail
    refine (four_c w5 C r A k5 hp5 _ (HN5.out B C r w5 HR5.out)).mono ?_
    rintro e w6 ⟨rfl, hr6, ho6⟩
    have hp6 := ho6.cell hp5 (by simp [hCr])
    have HR6 := Lib.hid hr6; have HX6 := Lib.hid (HX5.out.then ho6)
    have HM6 := Lib.hid (HM5.out.only ho6 (by simp; omega)); have HZ6 := Lib.hid (HZ5.out.only ho6 (by simp; omega))
    have HS6 : Hid (C ≤ w6.heap.size) := Lib.hid (Nat.le_trans HS5.out ho6.size)
    clear hr6 ho6 hp5 HR5 HX5 HM5 HZ5 HS5
    go_wp2_with fail
    refine (four_c w6 C r Z k6 hp6 _ (HN6.out B C r w6 HR6.out)).mono ?_
    rintro e w7 ⟨rfl, hr7, ho7⟩
    have hp7 := ho7.cell hp6 (by simp [hCr])
    have hm7 := HM6.out.only ho7 (by simp; omega)
    have HR7 := Lib.hid hr7; have HX7 := Lib.hid (HX6.out.then ho7)
    have HM7 := Lib.hid hm7; have HZ7 := Lib.hid (HZ6.out.only ho7 (by simp; omega))
    have HS7 : Hid (C ≤ w7.heap.size) := Lib.hid (Nat.le_trans HS6.out ho7.size)
    obtain ⟨c0, c1, c2, c3, c4, c5, c6, cf⟩ := hm7.cells
    clear hr7 ho7 hp6 HR6 HX6 HM6 HZ6 HS6 hm7
    --@8
    go_upto_region 5 with fail
    --@9
    have ho8 : Only [r] w3 (((w7.setCell ⟨D, 3, none⟩ (.int .u32 (I : Int))).setCell ⟨D, 4, none⟩ (.int .u32 (A : Int))).setCell ⟨D, 5, none⟩ (.int .u32 (Z : Int))) := ((HX7.out.setCell (.inr h3D) _).setCell (.inr h3D) _).setCell (.inr h3D) _
    have hr8 : RD (((w7.setCell ⟨D, 3, none⟩ (.int .u32 (I : Int))).setCell ⟨D, 4, none⟩ (.int .u32 (A : Int))).setCell ⟨D, 5, none⟩ (.int .u32 (Z : Int))) B C r E6 L6 := rd_set (rd_set (rd_set HR7.out (by omega)) (by omega)) (by omega)
    have hm8 := HM7.out.set345 I A Z
    have hz8 : MB (((w7.setCell ⟨D, 3, none⟩ (.int .u32 (I : Int))).setCell ⟨D, 4, none⟩ (.int .u32 (A : Int))).setCell ⟨D, 5, none⟩ (.int .u32 (Z : Int))) q 26 Wr.zero (.slice none 0 0) := by
      unfold MB
      rw [Below.heap_setCell _ _ _ _ (by simp; omega), Below.heap_setCell _ _ _ _ (by simp; omega), Below.heap_setCell _ _ _ _ (by simp; omega)]
      exact HZ7.out
    have hp8 : (((w7.setCell ⟨D, 3, none⟩ (.int .u32 (I : Int))).setCell ⟨D, 4, none⟩ (.int .u32 (A : Int))).setCell ⟨D, 5, none⟩ (.int .u32 (Z : Int))).cell? ⟨C, 0, none⟩ = some (.pointer (some ⟨r, 0, none⟩)) := by
      rw [World.cell?_of_block (a := ⟨C, 0, none⟩) (w := w7) (by rw [Below.heap_setCell _ _ _ _ (by simp; omega), Below.heap_setCell _ _ _ _ (by simp; omega), Below.heap_setCell _ _ _ _ (by simp; omega)])]
      exact hp7
    have HS8 : Hid (C ≤ (((w7.setCell ⟨D, 3, none⟩ (.int .u32 (I : Int))).setCell ⟨D, 4, none⟩ (.int .u32 (A : Int))).setCell ⟨D, 5, none⟩ (.int .u32 (Z : Int))).heap.size) := Lib.hid (by simp; exact HS7.out)
    generalize World.setCell (World.setCell (World.setCell _ _ _) _ _) _ _ = w8 at *
    have HR8 := Lib.hid hr8; have HX8 := Lib.hid ho8; have HM8 := Lib.hid hm8; have HZ8 := Lib.hid hz8
    clear ho8 hr8 hm8 hz8 hp7 c0 c1 c2 c3 c4 c5 c6 cf HR7 HX7 HM7 HZ7 HS7
    have hn8 := World.new_ne w8 _ hp8
    have hDC : ¬ D = C := by omega
    have hCD' : ¬ C = D := by omega
    have hi7 : IntKind.i64.wrap (N : Int) = (N : Int) := by rw [IntKind.wrap_i64]; omega
    --@10
    go_region_held3 (fun w' => w'.cell? ⟨C, 0, none⟩ = some (.pointer (some ⟨r, 0, none⟩))) (go_keep) (first | (go_at_call 28; (with_reducible refine (HN7.out B C r _ (by first | with_reducible exact HR8.out | with_reducible exact rdn HR8.out HS8.out (Only.refl [] _).drew)).mono ?_); rintro e w9 ⟨rfl, hr9, ho9⟩; have g9 := ho9.cell (p := ⟨C, 0, none⟩) (v := .pointer (some ⟨r, 0, none⟩)) (by go_simp) (by simp [hCr]); have n9 := World.new_ne w9 _ g9; have hx9 : Only [r] w8 w9 := (by first | with_reducible exact ho9 | with_reducible exact (Only.refl [r] w8).drew.then ho9); have HS9 : Hid (C ≤ w9.heap.size) := Lib.hid (Nat.le_trans HS8.out hx9.size); have HR9 := Lib.hid hr9; have HX9 := Lib.hid (HX8.out.then hx9); have HM9 := Lib.hid (HM8.out.only hx9 (by simp; omega)); have HZ9 := Lib.hid (HZ8.out.only hx9 (by simp; omega)); clear hr9 ho9 hx9) | (go_at_call 29; (with_reducible refine (HB8.out B C r _ (by first | with_reducible exact HR9.out | with_reducible exact rdn HR9.out HS9.out (Only.refl [] _).drew)).mono ?_); rintro e w10 ⟨u, rfl, hr10, hbo10, ho10⟩; have hbs10 := hbo10.1; obtain ⟨au, cu, rfl, hu1, hu2, -, -⟩ := hbs10; have g10 := ho10.cell (p := ⟨C, 0, none⟩) (v := .pointer (some ⟨r, 0, none⟩)) (by go_simp) (by simp [hCr]); have hx10 : Only [r] w9 w10 := (by first | with_reducible exact ho10 | with_reducible exact (Only.refl [r] w9).drew.then ho10); have HS10 : Hid (C ≤ w10.heap.size) := Lib.hid (Nat.le_trans HS9.out hx10.size); have HR10 := Lib.hid hr10; have HBO10 := Lib.hid hbo10; have HX10 := Lib.hid (HX9.out.then hx10); have hm10 := HM9.out.only hx10 (by simp; omega); obtain ⟨c0, c1, c2, c3, c4, c5, c6, cf⟩ := hm10.cells; have HM10 := Lib.hid hm10; have HZ10 := Lib.hid (HZ9.out.only hx10 (by simp; omega)); clear hr10 hbo10 ho10 hx10 hm10))
    --@11
    have ho11 : Only [r] w3 (w10.setCell ⟨D, 6, none⟩ (.slice au bs.length cu)) := HX10.out.setCell (.inr h3D) _
    have hr11 : RD (w10.setCell ⟨D, 6, none⟩ (.slice au bs.length cu)) B C r E8 L8 := rd_set HR10.out (by omega)
    have hm11 : MB (w10.setCell ⟨D, 6, none⟩ (.slice au bs.length cu)) D 26 ⟨K, Y, P, I, A, Z, bs⟩ (.slice au bs.length cu) := HM10.out.set6 bs _
    have hz11 : MB (w10.setCell ⟨D, 6, none⟩ (.slice au bs.length cu)) q 26 Wr.zero (.slice none 0 0) := by
      unfold MB
      rw [Below.heap_setCell _ _ _ _ (by simp; omega)]
      exact HZ10.out
    have hbo11 : BO (w10.setCell ⟨D, 6, none⟩ (.slice au bs.length cu)) B C (.slice au bs.length cu) bs := HBO10.out.kept fun k _ hk => by rw [Below.heap_setCell _ _ _ _ (by simp; omega)]
    have hp11 : (w10.setCell ⟨D, 6, none⟩ (.slice au bs.length cu)).cell? ⟨C, 0, none⟩ = some (.pointer (some ⟨r, 0, none⟩)) := by
      rw [World.cell?_of_block (a := ⟨C, 0, none⟩) (w := w10) (by rw [Below.heap_setCell _ _ _ _ (by simp; omega)])]
      exact g10
    have HO11 : Hid (Only [] w (w10.setCell ⟨D, 6, none⟩ (.slice au bs.length cu))) := Lib.hid (Lm.only_own HO3.out ho11 hr0)
    generalize World.setCell w10 _ _ = w11 at *
    have HR11 := Lib.hid hr11; have HM11 := Lib.hid hm11; have HZ11 := Lib.hid hz11; have HBO11 := Lib.hid hbo11
    clear ho11 hr11 hm11 hz11 hbo11 g10 c0 c1 c2 c3 c4 c5 c6 cf HR10 HM10 HZ10 HBO10 HX10 HR9 HM9 HZ9 HX9 HR8 HM8 HZ8 HX8 g9 n9 hn8 hp8
    --@12
    go_wp2_with fail
    refine (HN9.out B C r w11 HR11.out).mono ?_
    rintro e w12 ⟨rfl, hr12, ho12⟩
    have hp12 := ho12.cell hp11 (by simp [hCr])
    have HR12 := Lib.hid hr12; have HM12 := Lib.hid (HM11.out.only ho12 (by simp; omega)); have HZ12 := Lib.hid (HZ11.out.only ho12 (by simp; omega))
    have HO12 := Lib.hid (Lm.only_own HO11.out ho12 hr0)
    have HBS12 : Hid (BS w12 (.slice au bs.length cu) bs) := Lib.hid (HBO11.out.1.only ho12 (fun b hb hne hm => by
      obtain ⟨_, _, cs, hcs⟩ := HBO11.out.2 b hb hne
      have hbr : b = r := by simpa using hm
      subst hbr
      obtain ⟨_, _, v', hv', _⟩ := HR11.out
      rw [hv'] at hcs
      simp at hcs))
    have HNB : Hid (∀ b, (Value.slice au bs.length cu).ownBlock = some b → bs ≠ [] → q < b) := Lib.hid (fun b hb hne => by have := (HBO11.out.2 b hb hne).1; omega)
    clear hr12 ho12 hp11 HR11 HM11 HZ11 HO11 HBO11
    --@13
    go_wp2_with fail
    refine (end_c w12 B C r E9 L9 HR12.out).mono ?_
    rintro e w' ⟨rfl, rfl⟩
    obtain ⟨E, hE⟩ : ∃ E, Cur.rend L9 E9 = E := ⟨_, rfl⟩
    rw [hE] at HRAW ⊢
    have HEE := Lib.hid hE
    clear hE
    by_cases hE0 : E = 0
    · subst hE0
      have hlen := Wr.raw_len l (by rw [HRAW.out])
      obtain ⟨n4, hn4⟩ : ∃ n4, l.length = n4 + 4 := ⟨l.length - 4, by omega⟩
      have hbk := bs_take (show BS w (.slice a l.length cap) l from HV.out) n4 (by omega)
      have hl4 : l.length - 4 = n4 := by omega
      have hget : Wr.get l = if Crc.sum (l.take n4) ≠ X then (Wr.zero, 13) else if Wr.may ⟨K, Y, P, I, A, Z, bs⟩ then (⟨K, Y, P, I, A, Z, bs⟩, 0) else (Wr.zero, 11) := by
        unfold Wr.get
        rw [HRAW.out, hl4]
        simp only []
        rw [if_neg (by simp)]
      have HG := Lib.hid hget
      have HBK := Lib.hid (hbk.only HO12.out (by simp))
      have hlt : (l.take n4).length ≤ 1000000 := by rw [List.length_take]; omega
      have HLT := Lib.hid hlt
      clear hget hbk hlen hlt
      --@16
      go_wp2_with fail
      --@161
      refine (of_c w12 _ _ HBK.out HLT.out (HT.out.only HO12.out (by simp))).mono ?_
      rintro e w13 ⟨rfl, ho13⟩
      have ho13 : Only [] w12 w13 := ho13.mono (by simp)
      have hsum : Crc.sum (l.take n4) ≤ 4294967295 := Nat.sub_le _ _
      obtain ⟨S, hS⟩ : ∃ S, Crc.sum (l.take n4) = S := ⟨_, rfl⟩
      rw [hS] at hsum HG ⊢
      have hm13 := HM12.out.only ho13 (by simp)
      have hz13 := HZ12.out.only ho13 (by simp)
      have HM13 := Lib.hid hm13; have HZ13 := Lib.hid hz13; have HO13 := Lib.hid (HO12.out.then ho13); have HBS13 := Lib.hid (HBS12.out.only ho13 (by simp))
      clear ho13 hS HBK HM12 HZ12 HO12 HBS12 HR12 hp12
      by_cases hSX : S = X
      · have hSI : ((S : Int) != (X : Int)) = false := by rw [bne_eq_false_iff_eq]; omega
        rw [if_neg (fun h => h hSX)] at HG
        clear hSX
        obtain ⟨c0, c1, c2, c3, c4, c5, c6, cf⟩ := hm13.cells
        clear hm13 hz13
        --@17
        go_wp2_with fail
        refine (may_c w13 ⟨K, Y, P, I, A, Z, bs⟩ (.slice au bs.length cu) HBS13.out).mono ?_
        rintro e w14 ⟨rfl, ho14⟩
        have hm14 := HM13.out.only ho14 (by simp)
        have hz14 := HZ13.out.only ho14 (by simp)
        have HO14 := Lib.hid (HO13.out.then ho14); have HBS14 := Lib.hid (HBS13.out.only ho14 (by simp))
        clear ho14 c0 c1 c2 c3 c4 c5 c6 cf
        obtain ⟨c0, c1, c2, c3, c4, c5, c6, cf⟩ := hm14.cells
        obtain ⟨d0, d1, d2, d3, d4, d5, d6, df⟩ := hz14.cells
        simp only [Wr.zero] at c0 c1 c2 c3 c4 c5 d0 d1 d2 d3 d4 d5
        have HZ14 := Lib.hid hz14
        clear hm14 hz14
        cases hmay : Wr.may ⟨K, Y, P, I, A, Z, bs⟩ with
        | true =>
          rw [hmay, if_pos rfl] at HG
          --@18
          go_wp2
          (try simp only [Exit.inBlock, Exit.then])
          (refine bodyPost_ret (v := .tuple #[msgV ⟨K, Y, P, I, A, Z, bs⟩ (.slice au bs.length cu), .int .i64 0]) (by unfold msgV; rw [results_cell_tmp rfl]; go_simp) rfl ⟨⟨_, by rw [HG.out], ?_⟩, only_set7 HO14.out (by have := HQ.out; omega) ⟨K, Y, P, I, A, Z, bs⟩ (.slice au bs.length cu)⟩)
          rw [HG.out]
          exact bs_set7 HBS14.out HNB.out ⟨K, Y, P, I, A, Z, bs⟩ (.slice au bs.length cu)
        | false =>
          rw [hmay, if_neg (by simp)] at HG
          --@20
          go_wp2
          (try simp only [Exit.inBlock, Exit.then])
          (refine bodyPost_ret (v := .tuple #[msgV Wr.zero (.slice none 0 0), .int .i64 11]) (by unfold msgV Wr.zero; rw [results_cell_tmp rfl]; go_simp) rfl ⟨⟨_, by rw [HG.out], by rw [HG.out]; exact BS.nil _⟩, only_set7 HO14.out (by have := HQ.out; omega) Wr.zero (.slice none 0 0)⟩)
      · have hSI : ((S : Int) != (X : Int)) = true := by rw [bne_iff_ne]; omega
        rw [if_pos hSX] at HG
        clear hSX
        obtain ⟨d0, d1, d2, d3, d4, d5, d6, df⟩ := hz13.cells
        simp only [Wr.zero] at d0 d1 d2 d3 d4 d5
        clear hm13 hz13
        --@21
        go_wp2
        (try simp only [Exit.inBlock, Exit.then])
        (refine bodyPost_ret (v := .tuple #[msgV Wr.zero (.slice none 0 0), .int .i64 13]) (by unfold msgV Wr.zero; rw [results_cell_tmp rfl]; go_simp) rfl ⟨⟨_, by rw [HG.out], by rw [HG.out]; exact BS.nil _⟩, only_set7 HO13.out (by have := HQ.out; omega) Wr.zero (.slice none 0 0)⟩)
    · have hget : Wr.get l = (Wr.zero, E) := by
        unfold Wr.get
        rw [HRAW.out]
        simp only []
        rw [if_pos hE0]
      have HG := Lib.hid hget
      have hEI : (E != 0) = true := bne_iff_ne.2 hE0
      obtain ⟨c0, c1, c2, c3, c4, c5, c6, cf⟩ := HZ12.out.cells
      simp only [Wr.zero] at c0 c1 c2 c3 c4 c5
      clear hget hE0
      --@14
      go_wp2_with fail
      refine (end_c w12 B C r E9 L9 HR12.out).mono ?_
      rintro e w' ⟨rfl, rfl⟩
      rw [HEE.out]
      --@15
      go_wp2
      (try simp only [Exit.inBlock, Exit.then])
      (refine bodyPost_ret (v := .tuple #[msgV Wr.zero (.slice none 0 0), .int .i64 E]) (by unfold msgV Wr.zero; rw [results_cell_tmp rfl]; go_simp) rfl ⟨⟨_, by rw [HG.out], by rw [HG.out]; exact BS.nil _⟩, only_set7 HO12.out (by have := HQ.out; omega) Wr.zero (.slice none 0 0)⟩)
end Go.Proofs.YtdoiebbbgmlkaaaDoor.wr
