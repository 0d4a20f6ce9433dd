/-
  THE WALK of frame.Read.
-/
import Derived.Test.YtkblnlddamojoaaFrmWin
import Derived.Deep.DeepCutAuto
import Derived.Deep.RegionWith
import Derived.Outline
import Derived.OwnWalk
set_option linter.unusedVariables false
set_option linter.unusedSimpArgs false
namespace Go.Proofs.Ytkblnlddamojoaa.frm
open Go Go.RowKit Go.Lm Go.Proofs.Ytkblnlddamojoaa.cur

theorem results_cell_tmp2 {fn : Func} {p u u2 : Tmp} {ty : TypeId} (h : fn.results = #[.cell p ty, .tmp u, .tmp u2]) (tmps : Array Value) (P : Program) (w : World) :
    (results fn tmps).run P w =
      ((asAddr (tmps.getD p undef)).run P w).andThen fun a w₁ => ((loadVar ty a).run P w₁).andThen fun v w₂ => .ok (.tuple #[v, tmps.getD u undef, tmps.getD u2 undef]) w₂ := by
  simp only [results, h]
  simp [Sem.run_bind, Result.andThen]

def hdC (a b : Nat) (k s : Bool) : Array Value := #[.int .u64 (a : Int), .int .u64 (b : Int), .bool k, .bool s]
def hdV (h : Frm.Hd) : Value := .agg #[.int .u64 (h.win : Int), .int .u64 (h.size : Int), .bool h.known, .bool h.sum]
/-- Block b holds a head. -/
def HC (w : World) (b : Nat) (t : TypeId) (x y : Nat) (k s : Bool) : Prop := w.heap[b]? = some (.cells (hdC x y k s) t (0, 0))
theorem HC.cells {w : World} {b : Nat} {t : TypeId} {x y : Nat} {k s : Bool} (h : HC w b t x y k s) : w.cell? ⟨b, 0, none⟩ = some (.int .u64 (x : Int)) ∧ w.cell? ⟨b, 1, none⟩ = some (.int .u64 (y : Int)) ∧ w.cell? ⟨b, 2, none⟩ = some (.bool k) ∧ w.cell? ⟨b, 3, none⟩ = some (.bool s) ∧ ∀ i, w.frozen? ⟨b, i, none⟩ = false := by
  unfold HC hdC at h
  exact ⟨by rw [cell_of_row _ _ _ _ _ _ h]; rfl, by rw [cell_of_row _ _ _ _ _ _ h]; rfl, by rw [cell_of_row _ _ _ _ _ _ h]; rfl, by rw [cell_of_row _ _ _ _ _ _ h]; rfl, fun k => by simp [World.frozen?, h]⟩
theorem HC.only {S : List Nat} {w w' : World} {b : Nat} {t : TypeId} {x y : Nat} {k s : Bool} (h : HC w b t x y k s) (ho : Only S w w') (hn : b ∉ S) : HC w' b t x y k s := ho.heap h hn
theorem HC.set0 {w : World} {b : Nat} {t : TypeId} {x y : Nat} {k s : Bool} (h : HC w b t x y k s) (x' : Nat) : HC (w.setCell ⟨b, 0, none⟩ (.int .u64 (x' : Int))) b t x' y k s := (Go.Lm.heap_setCell_same (k := 0) h _).trans rfl
theorem HC.set1 {w : World} {b : Nat} {t : TypeId} {x y : Nat} {k s : Bool} (h : HC w b t x y k s) (y' : Nat) : HC (w.setCell ⟨b, 1, none⟩ (.int .u64 (y' : Int))) b t x y' k s := (Go.Lm.heap_setCell_same (k := 1) h _).trans rfl
theorem HC.set2 {w : World} {b : Nat} {t : TypeId} {x y : Nat} {k s : Bool} (h : HC w b t x y k s) (k' : Bool) : HC (w.setCell ⟨b, 2, none⟩ (.bool k')) b t x y k' s := (Go.Lm.heap_setCell_same (k := 2) h _).trans rfl
theorem HC.lt {w : World} {b : Nat} {t : TypeId} {x y : Nat} {k s : Bool} (h : HC w b t x y k s) : b < w.heap.size := lt_of_block h

theorem and_d : ∀ d : Fin 256, bits .and .i64 (d.val : Int) 8 = (if d.val / 8 % 2 = 1 then 8 else 0) ∧ bits .and .i64 (d.val : Int) 4 = (if d.val / 4 % 2 = 1 then 4 else 0) ∧ bits .and .i64 (d.val : Int) 32 = (if d.val / 32 % 2 = 1 then 32 else 0) ∧ bits .and .i64 (d.val : Int) 3 = ((d.val % 4 : Nat) : Int) := by decide +kernel
theorem and_dN (d : Nat) (h : d < 256) : bits .and .i64 (d : Int) 8 = (if d / 8 % 2 = 1 then 8 else 0) ∧ bits .and .i64 (d : Int) 4 = (if d / 4 % 2 = 1 then 4 else 0) ∧ bits .and .i64 (d : Int) 32 = (if d / 32 % 2 = 1 then 32 else 0) ∧ bits .and .i64 (d : Int) 3 = ((d % 4 : Nat) : Int) := and_d ⟨d, h⟩
theorem rnum_nil : Cur.rnum [] 0 1 = ([], 10, 0) := by decide
theorem rnum_cons (c : UInt8) (l : List UInt8) : Cur.rnum (c :: l) 0 1 = (l, 0, c.toNat) := by
  have h : ¬ ((((c :: l).length : Nat) : Int) < 1) := by simp only [List.length_cons]; omega
  simp only [Cur.rnum, Cur.rtake]
  rw [if_neg (by simp), if_neg (by decide), if_neg h]
  simp [Cur.le]

theorem RD_lt {w : World} {B C r : Nat} {e : Int} {l : List UInt8} (h : RD w B C r e l) : r < w.heap.size := by
  obtain ⟨_, _, v, h, _⟩ := h
  exact lt_of_block h
theorem read_nil (w : World) (v : Value) (hv : BS w v []) : Calls Try.prog 9 #[v] w fun e w' => e = .returned (.tuple #[hdV ⟨0, 0, false, false⟩, .int .i64 0, .int .i64 10]) ∧ Only [] w w' := by
  have HV := Lib.hid hv
  obtain ⟨a, cap, rfl, -⟩ := hv
  have hR := rnum_nil
  have HRN := Lib.hid hR; clear hR
  go_enter Try.func9, Try.ntmps9
  go_wp2_with fail
  refine (newreader_c _ _ [] (HV.out.only ((Only.refl [] w).alloc _) (by simp)) (by decide)).mono ?_
  rintro e w1 ⟨r, rfl, hr, ho1⟩
  have hB : w.heap.size < r := by have := hr.1; simp at this; omega
  have HO1 : Hid (Only [] w w1) := ((Only.refl [] w).alloc _).then ho1
  have hres : HC w1 w.heap.size 26 0 0 false false := ho1.heap (heap_alloc_new w _) (by simp)
  have HR := Lib.hid hr; have HRES := Lib.hid hres
  clear ho1 hr hres
  generalize (World.alloc w _).heap.size = B at HR
  go_wp2_with fail
  refine (number_c w1 B _ r 0 1 _ HR.out).mono ?_
  rintro e w2 ⟨rfl, hr2, ho2⟩
  rw [HRN.out] at hr2 ⊢
  have HR2 := Lib.hid hr2
  have HO2 := Lib.hid (only_own HO1.out ho2 (by omega))
  have hres2 := HRES.out.only ho2 (by simp; omega)
  clear hr2 ho2 HRES HO1 HR
  obtain ⟨c0, c1, c2, c3, hf⟩ := hres2.cells
  go_wp2_with (go_at_call 19; refine (err_c w2 B _ r 10 _ HR2.out).mono ?_; rintro e w' ⟨rfl, rfl⟩)
  (try simp only [Exit.inBlock, Exit.then])
  refine bodyPost_ret (v := .tuple #[.agg #[.int .u64 0, .int .u64 0, .bool false, .bool false], .int .i64 0, .int .i64 10]) (by rw [results_cell_tmp2 rfl]; go_simp) rfl ⟨rfl, ?_⟩
  repeat (first | exact HO2.out | refine Only.setCell ?_ (.inr (by simp)) _)

theorem read_res (w : World) (v : Value) (c : UInt8) (l : List UInt8) (hv : BS w v (c :: l)) (hc : c.toNat / 8 % 2 = 1) (hl : l.length ≤ 1000000) : Calls Try.prog 9 #[v] w fun e w' => e = .returned (.tuple #[hdV ⟨0, 0, false, false⟩, .int .i64 0, .int .i64 11]) ∧ Only [] w w' := by
  have HV := Lib.hid hv
  obtain ⟨a, cap, rfl, -⟩ := hv
  have hR := rnum_cons c l
  have HRN := Lib.hid hR; clear hR
  have h8 := (and_dN c.toNat c.toNat_lt).1
  simp only [hc, if_true] at h8
  have hcu := c.toNat_lt
  go_enter Try.func9, Try.ntmps9
  go_wp2_with fail
  refine (newreader_c _ _ _ (HV.out.only ((Only.refl [] w).alloc _) (by simp)) (by simp; omega)).mono ?_
  rintro e w1 ⟨r, rfl, hr, ho1⟩
  have hB : w.heap.size < r := by have := hr.1; simp at this; omega
  have HO1 : Hid (Only [] w w1) := ((Only.refl [] w).alloc _).then ho1
  have hres : HC w1 w.heap.size 26 0 0 false false := ho1.heap (heap_alloc_new w _) (by simp)
  have HR := Lib.hid hr; have HRES := Lib.hid hres
  clear ho1 hr hres
  generalize (World.alloc w _).heap.size = B at HR
  go_wp2_with fail
  refine (number_c w1 B _ r 0 1 _ HR.out).mono ?_
  rintro e w2 ⟨rfl, hr2, ho2⟩
  rw [HRN.out] at hr2 ⊢
  have HR2 := Lib.hid hr2
  have HO2 := Lib.hid (only_own HO1.out ho2 (by omega))
  have hres2 := HRES.out.only ho2 (by simp; omega)
  clear hr2 ho2 HRES HO1 HR
  obtain ⟨c0, c1, c2, c3, hf⟩ := hres2.cells
  go_wp2_with (go_at_call 19; refine (err_c w2 B _ r 0 _ HR2.out).mono ?_; rintro e w' ⟨rfl, rfl⟩)
  (try simp only [Exit.inBlock, Exit.then])
  refine bodyPost_ret (v := .tuple #[.agg #[.int .u64 0, .int .u64 0, .bool false, .bool false], .int .i64 0, .int .i64 11]) (by rw [results_cell_tmp2 rfl]; go_simp) rfl ⟨rfl, ?_⟩
  repeat (first | exact HO2.out | refine Only.setCell ?_ (.inr (by simp)) _)

set_option maxRecDepth 100000 in
set_option maxHeartbeats 4000000 in
theorem read_body (w : World) (v : Value) (c : UInt8) (l : List UInt8) (hv : BS w v (c :: l)) (hc : c.toNat / 8 % 2 ≠ 1) (hl : l.length ≤ 1000000) : Calls Try.prog 9 #[v] w fun e w' => e = .returned (.tuple #[hdV (Frm.body c.toNat l).1, .int .i64 (Frm.body c.toNat l).2.1, .int .i64 (Frm.body c.toNat l).2.2]) ∧ Only [] w w' := by
  have HV := Lib.hid hv
  obtain ⟨a, cap, rfl, hcap1, hcap2, -⟩ := hv
  unfold maxLen at hcap2
  have hR := rnum_cons c l
  have HRN := Lib.hid hR; clear hR
  obtain ⟨h8, h4, h32, h3⟩ := and_dN c.toNat c.toNat_lt
  simp only [hc, if_false] at h8
  have hcu := c.toNat_lt
  obtain ⟨d, hd⟩ : ∃ d, c.toNat = d := ⟨_, rfl⟩
  rw [hd] at h8 h4 h32 h3 hcu HRN ⊢
  obtain ⟨⟨hdv, mv, ev⟩, hbd⟩ : ∃ t, Frm.body d l = t := ⟨_, rfl⟩
  rw [hbd]
  have HBD := Lib.hid hbd; clear hbd
  obtain ⟨S4, hS4⟩ : ∃ S : Int, (if d / 4 % 2 = 1 then (4 : Int) else 0) = S := ⟨_, rfl⟩
  obtain ⟨sb, hsb⟩ : ∃ sb, (d / 4 % 2 == 1) = sb := ⟨_, rfl⟩
  have h4b : (S4 != 0) = sb := by rw [← hS4, ← hsb]; by_cases h : d / 4 % 2 = 1 <;> simp [h]
  rw [hS4] at h4
  obtain ⟨S32, hS32⟩ : ∃ S : Int, (if d / 32 % 2 = 1 then (32 : Int) else 0) = S := ⟨_, rfl⟩
  obtain ⟨ob, hob⟩ : ∃ ob, Frm.one d = ob := ⟨_, rfl⟩
  have h32b : (S32 != 0) = ob := by rw [← hS32, ← hob]; unfold Frm.one; by_cases h : d / 32 % 2 = 1 <;> simp [h]
  rw [hS32] at h32
  have hix : ∀ w, (Instr.index 57 (.agg #[.int .i64 0, .int .i64 1, .int .i64 2, .int .i64 4]) (.int .i64 ((d % 4 : Nat) : Int))).run Try.prog w = .ok (.int .i64 (Frm.dn d : Nat)) w := by
    have : d % 4 = 0 ∨ d % 4 = 1 ∨ d % 4 = 2 ∨ d % 4 = 3 := by omega
    intro w
    unfold Frm.dn
    rcases this with h | h | h | h <;> rw [h] <;> kernel_rfl
  have hiz : ∀ w, (Instr.index 57 (.agg #[.int .i64 0, .int .i64 2, .int .i64 4, .int .i64 8]) (.int .i64 ((d / 64 : Nat) : Int))).run Try.prog w = .ok (.int .i64 (Frm.zn d : Nat)) w := by
    have : d / 64 = 0 ∨ d / 64 = 1 ∨ d / 64 = 2 ∨ d / 64 = 3 := by omega
    intro w
    unfold Frm.zn
    rcases this with h | h | h | h <;> rw [h] <;> kernel_rfl
  obtain ⟨A, hA⟩ : ∃ A, d % 4 = A := ⟨_, rfl⟩
  obtain ⟨Q, hQ⟩ : ∃ Q, d / 64 = Q := ⟨_, rfl⟩
  obtain ⟨D, hD⟩ : ∃ D, Frm.dn d = D := ⟨_, rfl⟩
  obtain ⟨Z, hZ⟩ : ∃ Z, Frm.zn d = Z := ⟨_, rfl⟩
  have hq64 : (d : Int) / 64 = (Q : Int) := by omega
  have hDc := Frm.dn_cases d
  have hZc := Frm.zn_cases d
  rw [hA, hD] at hix
  rw [hA] at h3
  rw [hQ, hZ] at hiz
  rw [hD] at hDc
  rw [hZ] at hZc
  have hDle : D ≤ 4 := by omega
  have hZle : Z ≤ 8 := by omega
  have HOB := Lib.hid hob; have HSB := Lib.hid hsb; have HD := Lib.hid hD; have HZ := Lib.hid hZ; have HZC := Lib.hid hZc; have HDC := Lib.hid hDc; have HDD := Lib.hid hd
  have H3 := Lib.hid h3; have H64 := Lib.hid hq64; have HIX := Lib.hid hix; have HIZ := Lib.hid hiz
  clear hob hsb hD hZ hA hQ hS4 hS32 hd hc hZc hDc h3 hq64 hix hiz
  go_enter Try.func9, Try.ntmps9
  go_wp2_with fail
  refine (newreader_c _ _ _ (HV.out.only ((Only.refl [] w).alloc _) (by simp)) (by simp; omega)).mono ?_
  rintro e w1 ⟨r, rfl, hr, ho1⟩
  have hB : w.heap.size < r := by have := hr.1; simp at this; omega
  have HO1 : Hid (Only [] w w1) := ((Only.refl [] w).alloc _).then ho1
  have hres : HC w1 w.heap.size 26 0 0 false false := ho1.heap (heap_alloc_new w _) (by simp)
  have HR := Lib.hid hr; have HRES := Lib.hid hres
  clear ho1 hr hres
  generalize (World.alloc w _).heap.size = B at HR
  go_wp2_with fail
  refine (number_c w1 B _ r 0 1 _ HR.out).mono ?_
  rintro e w2 ⟨rfl, hr2, ho2⟩
  rw [HRN.out] at hr2 ⊢
  obtain ⟨C, hC⟩ : ∃ C, w1.heap.size = C := ⟨_, rfl⟩
  rw [hC] at hr2
  have hC2 : C ≤ w2.heap.size := by have := ho2.size; omega
  have HR2 := Lib.hid hr2
  have HO2 := Lib.hid (only_own HO1.out ho2 (by omega))
  have HRES2 := Lib.hid (HRES.out.only ho2 (by simp; omega))
  clear hr2 ho2 HRES HO1 HR hC
  go_wp2_with fail
  refine (err_c w2 B C r 0 _ HR2.out).mono ?_
  rintro e w' ⟨rfl, rfl⟩
  go_upto_if 37 with fail
  have HH : Hid (HC (w2.alloc (.cells (hdC 0 0 false sb) 26 (0, 0))) w2.heap.size 26 0 0 false sb) := heap_alloc_new w2 _
  have hAl : Only [] w2 (w2.alloc (.cells (hdC 0 0 false sb) 26 (0, 0))) := (Only.refl [] w2).alloc _
  have HR3 := Lib.hid (HR2.out.only hAl hC2)
  have HRES3 := Lib.hid (HRES2.out.only hAl (by simp))
  have HO3 := Lib.hid (HO2.out.then hAl)
  have hHr : r < w2.heap.size := RD_lt HR2.out
  have hHw : w.heap.size < w2.heap.size := HRES2.out.lt
  unfold hdC at HH HR3 HRES3 HO3
  clear hAl
  change Code.wp _ _ _ _ (w2.alloc (.cells #[.int .u64 ((0 : Nat) : Int), .int .u64 ((0 : Nat) : Int), .bool false, .bool sb] 26 (0, 0)))
  generalize (World.alloc w2 _) = w3 at *
  generalize w2.heap.size = N at *
  have hCw3 : C ≤ w3.heap.size := by have := HH.out.lt; omega
  clear HR2 HRES2 HO2
  go_cut [] (fun wx => RD wx B C r (Frm.s2 d l).2.1 (Frm.s2 d l).1 ∧ HC wx N 26 (Frm.win2 d l) 0 false sb ∧ HC wx w.heap.size 26 0 0 false false ∧ Only [] w wx)
  case first =>
    cases ob with
    | true =>
      have e1 : Frm.s2 d l = (l, 0, 0) := by unfold Frm.s2; rw [HOB.out]; rfl
      have e2 : Frm.win2 d l = 0 := by unfold Frm.win2; rw [HOB.out]; rfl
      have E1 := Lib.hid e1; have E2 := Lib.hid e2
      clear e1 e2
      go_wp2_with fail
      go_meet
      rw [E1.out, E2.out]
      exact ⟨HR3.out, HH.out, HRES3.out, HO3.out⟩
    | false =>
      have e1 : Frm.s2 d l = Cur.rnum l 0 1 := by unfold Frm.s2; rw [HOB.out]; rfl
      have e2 : Frm.win2 d l = Frm.window (Frm.s2 d l).2.2 := by unfold Frm.win2; rw [HOB.out]; rfl
      have e3 : (Cur.rnum l 0 1).2.2 < 256 := Frm.rnum_lt l 0 1
      rw [e1] at e2
      have E1 := Lib.hid e1; have E2 := Lib.hid e2; have E3 := Lib.hid e3
      clear e1 e2 e3
      go_wp2_with fail
      refine (number_c w3 B C r 0 1 l HR3.out).mono ?_
      rintro e w4 ⟨rfl, hr4, ho4⟩
      have HR4 := Lib.hid hr4
      have HO4 := Lib.hid (only_own HO3.out ho4 (by omega))
      have HH4 := Lib.hid (HH.out.only ho4 (by simp; omega))
      have HRES4 := Lib.hid (HRES3.out.only ho4 (by simp; omega))
      have hC4 : C ≤ w4.heap.size := by have := ho4.size; omega
      clear hr4 ho4
      go_wp2_with fail
      refine (window_c w4 _ E3.out).mono ?_
      rintro e w' ⟨rfl, rfl⟩
      rw [← E2.out]
      obtain ⟨k0, k1, k2, k3, kf⟩ := HH4.out.cells
      have hs := HH4.out.set0 (Frm.win2 d l)
      have hos : Only [N] w4 (w4.setCell ⟨N, 0, none⟩ (.int .u64 (Frm.win2 d l : Nat))) := (Only.refl [N] w4).setCell (.inl (by simp)) _
      have hrr := HR4.out.kept (fun k h1 h2 => hos.block k (by omega) (by simp; omega))
      have hre := HRES4.out.only hos (by simp; omega)
      have hoo := only_own HO4.out hos (by omega)
      have HS := Lib.hid hs; have HRR := Lib.hid hrr; have HRE := Lib.hid hre; have HOO := Lib.hid hoo
      clear hs hos hrr hre hoo
      go_wp2_with fail
      go_meet
      rw [E1.out]
      exact ⟨HRR.out, HS.out, HRE.out, HOO.out⟩
  case rest =>
    obtain ⟨hr4, hh4, hre4, ho4⟩ := hcut
    have HR4 := Lib.hid hr4; have HH4 := Lib.hid hh4; have HRES4 := Lib.hid hre4; have HO4 := Lib.hid ho4
    have hN4 := hh4.lt
    clear hr4 hh4 hre4 ho4 HR3 HH HRES3 HO3 HRN
    have h3 := H3.out; have h64 := H64.out; have hix := HIX.out
    go_upto_if 47 with fail
    clear h3 h64 hix
    obtain ⟨WN, hWN⟩ : ∃ WN, Frm.win2 d l = WN := ⟨_, rfl⟩
    rw [hWN] at HH4
    have HWN := Lib.hid hWN; clear hWN
    obtain ⟨w4, hw4⟩ : ∃ w4, w4 = wc := ⟨_, rfl⟩
    subst hw4
    have hs3 : Frm.s3 d l = Frm.step (0 < D) (Frm.s2 d l).1 (Frm.s2 d l).2.1 D := by unfold Frm.s3; rw [HD.out]
    obtain ⟨⟨L2, E2, X2⟩, hs2⟩ : ∃ t, Frm.s2 d l = t := ⟨_, rfl⟩
    rw [hs2] at hs3 HR4
    simp only at hs3 HR4
    obtain ⟨⟨L3, E3, X3⟩, hs3'⟩ : ∃ t, Frm.s3 d l = t := ⟨_, rfl⟩
    rw [hs3'] at hs3
    have HS3 := Lib.hid hs3; have HS3' := Lib.hid hs3'; have HS2 := Lib.hid hs2
    clear hs3 hs2 hs3'
    go_cut [9] (fun s9 wx => s9 = .int .u64 (X3 : Int) ∧ RD wx B C r E3 L3 ∧ HC wx N 26 WN 0 false sb ∧ HC wx w.heap.size 26 0 0 false false ∧ Only [] w wx)
    case first =>
      rcases Nat.eq_zero_or_pos D with hD0 | hDp
      · subst hD0
        have e1 : (L3, E3, X3) = (L2, E2, 0) := HS3.out
        simp only [Prod.mk.injEq] at e1
        obtain ⟨rfl, rfl, rfl⟩ := e1
        go_wp2_with fail
        go_meet
        exact ⟨rfl, HR4.out, HH4.out, HRES4.out, HO4.out⟩
      · have e1 : (L3, E3, X3) = Cur.rnum L2 E2 D := by have := HS3.out; unfold Frm.step at this; rw [if_pos (by simpa using hDp)] at this; exact this
        have E1 := Lib.hid e1; clear e1
        have hDI : (0 : Int) < (D : Int) := by omega
        go_wp2_with fail
        refine (number_c w4 B C r E2 D L2 HR4.out).mono ?_
        rintro e w5 ⟨rfl, hr5, ho5⟩
        rw [← E1.out] at hr5 ⊢
        have HR5 := Lib.hid hr5
        have HO5 := Lib.hid (only_own HO4.out ho5 (by omega))
        have HH5 := Lib.hid (HH4.out.only ho5 (by simp; omega))
        have HRES5 := Lib.hid (HRES4.out.only ho5 (by simp; omega))
        clear hr5 ho5
        go_wp2_with fail
        go_meet
        exact ⟨rfl, HR5.out, HH5.out, HRES5.out, HO5.out⟩
    case rest =>
      obtain ⟨rfl, hr5, hh5, hre5, ho5⟩ := hcut
      have HR5 := Lib.hid hr5; have HH5 := Lib.hid hh5; have HRES5 := Lib.hid hre5; have HO5 := Lib.hid ho5
      clear hr5 hh5 hre5 ho5 HR4 HH4 HRES4 HO4
      have h64 := H64.out; have hiz := HIZ.out
      go_upto_region 16 with fail
      clear h64 hiz
      obtain ⟨w5, hw5⟩ : ∃ w5, w5 = wc := ⟨_, rfl⟩
      subst hw5
      have hnn : Frm.nn d = if ob && (Z == 0) then 1 else Z := by unfold Frm.nn; rw [HOB.out, HZ.out]
      have hnc := Frm.nn_cases d
      obtain ⟨n, hn⟩ : ∃ n, Frm.nn d = n := ⟨_, rfl⟩
      rw [hn] at hnn hnc
      have HNN := Lib.hid hnn; have HN := Lib.hid hn; have HNC := Lib.hid hnc
      have hn8 : n ≤ 8 := by omega
      clear hnn hn hnc
      obtain ⟨tb, htb⟩ : ∃ tb, (ob && (Z == 0)) = tb := ⟨_, rfl⟩
      have HTB := Lib.hid htb; clear htb
      go_cut [59] (fun s59 wx => s59 = .bool tb ∧ w5 = wx)
      case first =>
        cases ob with
        | false =>
          have e : false = tb := by rw [← HTB.out]; rfl
          subst e
          go_wp2_with fail
          go_meet
          exact ⟨rfl, rfl⟩
        | true =>
          have e : (Z == 0) = tb := by rw [← HTB.out]; rfl
          have e2 : ((Z : Int) == 0) = tb := by rw [← e, Bool.eq_iff_iff]; simp
          clear e
          go_wp2_with fail
          go_meet
          exact ⟨rfl, rfl⟩
      case rest =>
      obtain ⟨rfl, rfl⟩ := hcut
      go_upto_if 59 with fail
      go_cut [11] (fun s11 wx => s11 = .int .i64 (n : Int) ∧ w5 = wx)
      case first =>
        cases tb with
        | false =>
          have hn : n = Z := by rw [HNN.out, HTB.out]; rfl
          subst hn
          go_wp2_with fail
          go_meet
          exact ⟨rfl, rfl⟩
        | true =>
          have hn : n = 1 := by rw [HNN.out, HTB.out]; rfl
          subst hn
          go_wp2_with fail
          go_meet
          exact ⟨rfl, rfl⟩
      case rest =>
        obtain ⟨rfl, rfl⟩ := hcut
        go_upto_if 61 with fail
        have hs4 : Frm.s4 d l = Frm.step (0 < n) (Frm.s3 d l).1 (Frm.s3 d l).2.1 n := by unfold Frm.s4; rw [HN.out]
        rw [HS3'.out] at hs4
        obtain ⟨⟨L4, E4, X4⟩, hs4'⟩ : ∃ t, Frm.s4 d l = t := ⟨_, rfl⟩
        rw [hs4'] at hs4
        simp only at hs4
        have hx4 : X4 < 18446744073709551616 := by
          have h := Frm.step_lt (0 < n) L3 E3 n
          rw [← hs4] at h
          have h2 : 256 ^ n ≤ 256 ^ 8 := Nat.pow_le_pow_right (by decide) hn8
          exact Nat.lt_of_lt_of_le h h2
        have HS4 := Lib.hid hs4; have HS4' := Lib.hid hs4'; have HX4 := Lib.hid hx4
        clear hs4 hs4' hx4
        go_cut [] (fun wx => RD wx B C r E4 L4 ∧ HC wx N 26 WN X4 (0 < n) sb ∧ HC wx w.heap.size 26 0 0 false false ∧ Only [] w wx)
        case first =>
          rcases Nat.eq_zero_or_pos n with hn0 | hnp
          · subst hn0
            have e1 : (L4, E4, X4) = (L3, E3, 0) := HS4.out
            simp only [Prod.mk.injEq] at e1
            obtain ⟨rfl, rfl, rfl⟩ := e1
            go_wp2_with fail
            go_meet
            exact ⟨HR5.out, HH5.out, HRES5.out, HO5.out⟩
          · have e1 : (L4, E4, X4) = Cur.rnum L3 E3 n := by have := HS4.out; unfold Frm.step at this; rw [if_pos (by simpa using hnp)] at this; exact this
            have E1 := Lib.hid e1; clear e1
            have hnI : (0 : Int) < (n : Int) := by omega
            have hdt : (decide (0 < n)) = true := by simpa using hnp
            have HDT := Lib.hid hdt; clear hdt
            go_wp2_with fail
            refine (number_c w5 B C r E3 n L3 HR5.out).mono ?_
            rintro e w6 ⟨rfl, hr6, ho6⟩
            rw [← E1.out] at hr6 ⊢
            have HR6 := Lib.hid hr6
            have HO6 := Lib.hid (only_own HO5.out ho6 (by omega))
            have HH6 := Lib.hid (HH5.out.only ho6 (by simp; omega))
            have HRES6 := Lib.hid (HRES5.out.only ho6 (by simp; omega))
            have hC6 : C ≤ w6.heap.size := by have := HH6.out.lt; omega
            clear hr6 ho6
            obtain ⟨k0, k1, k2, k3, kf⟩ := HH6.out.cells
            have hs := (HH6.out.set1 X4).set2 true
            have hos : Only [N] w6 ((w6.setCell ⟨N, 1, none⟩ (.int .u64 (X4 : Int))).setCell ⟨N, 2, none⟩ (.bool true)) := ((Only.refl [N] w6).setCell (.inl (by simp)) _).setCell (.inl (by simp)) _
            have hrr := HR6.out.kept (fun k h1 h2 => hos.block k (by omega) (by simp; omega))
            have hre := HRES6.out.only hos (by simp; omega)
            have hoo := only_own HO6.out hos (by omega)
            have HS := Lib.hid hs; have HRR := Lib.hid hrr; have HRE := Lib.hid hre; have HOO := Lib.hid hoo
            clear hs hos hrr hre hoo
            go_wp2_with fail
            go_meet
            rw [HDT.out]
            exact ⟨HRR.out, HS.out, HRE.out, HOO.out⟩
        case rest =>
          obtain ⟨hr6, hh6, hre6, ho6⟩ := hcut
          have HR6 := Lib.hid hr6; have HH6 := Lib.hid hh6; have HRES6 := Lib.hid hre6; have HO6 := Lib.hid ho6
          clear hr6 hh6 hre6 ho6 HR5 HH5 HRES5 HO5
          obtain ⟨w6, hw6⟩ : ∃ w6, w6 = wc := ⟨_, rfl⟩
          subst hw6
          obtain ⟨kb, hkb⟩ : ∃ kb, decide (0 < n) = kb := ⟨_, rfl⟩
          rw [hkb] at HH6
          have HKB := Lib.hid hkb; clear hkb
          have hsz : Frm.size d l = if n = 2 then X4 + 256 else X4 := by unfold Frm.size; rw [HN.out, HS4'.out]
          have hx16 : n = 2 → X4 < 65536 := by
            intro h2
            have h := Frm.step_lt (0 < n) L3 E3 n
            rw [← HS4.out, h2] at h
            exact h
          obtain ⟨S, hS⟩ : ∃ S, Frm.size d l = S := ⟨_, rfl⟩
          rw [hS] at hsz
          have HSZ := Lib.hid hsz; have HSS := Lib.hid hS; have HX16 := Lib.hid hx16
          clear hsz hS hx16
          go_upto_if 68 with fail
          go_cut [] (fun wx => RD wx B C r E4 L4 ∧ HC wx N 26 WN S kb sb ∧ HC wx w.heap.size 26 0 0 false false ∧ Only [] w wx)
          case first =>
            by_cases hn2 : n = 2
            · have hS : S = X4 + 256 := by rw [HSZ.out, if_pos hn2]
              have hx := HX16.out hn2
              have hC6 : C ≤ w6.heap.size := by have := HH6.out.lt; omega
              obtain ⟨k0, k1, k2, k3, kf⟩ := HH6.out.cells
              have hs := HH6.out.set1 (X4 + 256)
              have hos : Only [N] w6 (w6.setCell ⟨N, 1, none⟩ (.int .u64 ((X4 + 256 : Nat) : Int))) := (Only.refl [N] w6).setCell (.inl (by simp)) _
              have hrr := HR6.out.kept (fun k h1 h2 => hos.block k (by omega) (by simp; omega))
              have hre := HRES6.out.only hos (by simp; omega)
              have hoo := only_own HO6.out hos (by omega)
              rw [← hS] at hs hrr hre hoo
              have hcast : ((X4 : Int) + 256) = (S : Int) := by rw [hS]; simp
              have hw2 : ((X4 : Int) + 256) % 18446744073709551616 = (S : Int) := by omega
              have HS := Lib.hid hs; have HRR := Lib.hid hrr; have HRE := Lib.hid hre; have HOO := Lib.hid hoo
              have hnI : ((n : Int) == 2) = true := by rw [hn2]; rfl
              clear hs hos hrr hre hoo hS hn2
              go_wp2_with fail
              go_meet
              exact ⟨HRR.out, HS.out, HRE.out, HOO.out⟩
            · have hS : S = X4 := by rw [HSZ.out, if_neg hn2]
              subst hS
              have hnI : ((n : Int) == 2) = false := by rw [beq_eq_false_iff_ne]; omega
              go_wp2_with fail
              go_meet
              exact ⟨HR6.out, HH6.out, HRES6.out, HO6.out⟩
          case rest =>
            obtain ⟨hr7, hh7, hre7, ho7⟩ := hcut
            have HR7 := Lib.hid hr7; have HH7 := Lib.hid hh7; have HRES7 := Lib.hid hre7; have HO7 := Lib.hid ho7
            clear hr7 hh7 hre7 ho7 HR6 HH6 HRES6 HO6
            obtain ⟨w7, hw7⟩ : ∃ w7, w7 = wc := ⟨_, rfl⟩
            subst hw7
            go_upto_if 73 with fail
            go_cut [] (fun wx => RD wx B C r E4 L4 ∧ HC wx N 26 (if ob then S else WN) S kb sb ∧ HC wx w.heap.size 26 0 0 false false ∧ Only [] w wx)
            case first =>
              cases ob with
              | true =>
                have hC7 : C ≤ w7.heap.size := by have := HH7.out.lt; omega
                obtain ⟨k0, k1, k2, k3, kf⟩ := HH7.out.cells
                have hs := HH7.out.set0 S
                have hos : Only [N] w7 (w7.setCell ⟨N, 0, none⟩ (.int .u64 (S : Int))) := (Only.refl [N] w7).setCell (.inl (by simp)) _
                have hrr := HR7.out.kept (fun k h1 h2 => hos.block k (by omega) (by simp; omega))
                have hre := HRES7.out.only hos (by simp; omega)
                have hoo := only_own HO7.out hos (by omega)
                have HS := Lib.hid hs; have HRR := Lib.hid hrr; have HRE := Lib.hid hre; have HOO := Lib.hid hoo
                clear hs hos hrr hre hoo
                go_wp2_with fail
                go_meet
                exact ⟨HRR.out, HS.out, HRE.out, HOO.out⟩
              | false =>
                go_wp2_with fail
                go_meet
                exact ⟨HR7.out, HH7.out, HRES7.out, HO7.out⟩
            case rest =>
              obtain ⟨hr8, hh8, hre8, ho8⟩ := hcut
              have HR8 := Lib.hid hr8; have HRES8 := Lib.hid hre8; have HO8 := Lib.hid ho8
              obtain ⟨w8, hw8⟩ : ∃ w8, w8 = wc := ⟨_, rfl⟩
              subst hw8
              obtain ⟨W, hW⟩ : ∃ W, (if ob then S else WN) = W := ⟨_, rfl⟩
              rw [hW] at hh8
              have HH8 := Lib.hid hh8
              clear hr8 hh8 hre8 ho8 HR7 HH7 HRES7 HO7
              have hbody : (hdv, mv, ev) = if E4 ≠ 0 then (⟨0, 0, false, false⟩, 0, E4) else if X3 ≠ 0 then (⟨0, 0, false, false⟩, 0, 14) else (⟨W, S, kb, sb⟩, (l.length : Int) + 1 - L4.length, 0) := by
                rw [← HBD.out]
                unfold Frm.body Frm.win
                rw [HS4'.out, HS3'.out, HOB.out, HSS.out, HWN.out, HN.out, HSB.out, hW]
                simp only [HKB.out]
              clear hW
              by_cases hE : E4 = 0
              · subst hE
                by_cases hX : X3 = 0
                · subst hX
                  rw [if_neg (by simp), if_neg (by simp)] at hbody
                  simp only [Prod.mk.injEq] at hbody
                  obtain ⟨hb1, hb2, hb3⟩ := hbody
                  have HB1 := Lib.hid hb1; have HB2 := Lib.hid hb2; have HB3 := Lib.hid hb3
                  clear hb1 hb2 hb3
                  obtain ⟨k0, k1, k2, k3, kf⟩ := HH8.out.cells
                  go_wp2_with (go_at_call 19; refine (err_c w8 B C r 0 L4 HR8.out).mono ?_; rintro e w' ⟨rfl, rfl⟩)
                  have hlen4 : L4.length ≤ l.length := by
                    have h1 := Frm.step_left (0 < n) L3 E3 n
                    have h2 := Frm.step_left (0 < D) L2 E2 D
                    rw [← HS4.out] at h1
                    rw [← HS3.out] at h2
                    have h3 := Frm.step_left (!Frm.one d) l 0 1
                    have h4 : (Frm.s2 d l).1.length ≤ l.length := h3
                    rw [HS2.out] at h4
                    simp only at h1 h2 h4
                    omega
                  have hwL : IntKind.i64.wrap ((l.length : Int) + 1 - (L4.length : Int)) = (l.length : Int) + 1 - (L4.length : Int) := by rw [IntKind.wrap_i64]; omega
                  have hrd : RD w8.drew B C r 0 L4 := HR8.out.kept fun _ _ _ => rfl
                  have HRD := Lib.hid hrd; clear hrd
                  obtain ⟨c0, c1, c2, c3, hf⟩ := HRES8.out.cells
                  go_region_with (go_at_call 21; refine (left_c w8.drew B C r 0 L4 HRD.out).mono ?_; rintro e w' ⟨rfl, rfl⟩)
                  all_goals
                    iterate 24 (try (first | go_step | go_simp))
                    (try simp only [Exit.inBlock, Exit.then])
                    refine bodyPost_ret (v := .tuple #[.agg #[.int .u64 (W : Int), .int .u64 (S : Int), .bool kb, .bool sb], .int .i64 ((l.length : Int) + 1 - L4.length), .int .i64 0]) (by rw [results_cell_tmp2 rfl]; go_simp) rfl ⟨by rw [HB1.out, HB2.out, HB3.out]; rfl, ?_⟩
                    repeat (first | exact HO8.out | exact Only.drew HO8.out | refine Only.setCell ?_ (.inr (by simp)) _ | refine Only.drew ?_)
                · have hXI : ((X3 : Int) != 0) = true := by rw [bne_iff_ne]; omega
                  rw [if_neg (by simp), if_pos hX] at hbody
                  simp only [Prod.mk.injEq] at hbody
                  obtain ⟨hb1, hb2, hb3⟩ := hbody
                  have HB1 := Lib.hid hb1; have HB2 := Lib.hid hb2; have HB3 := Lib.hid hb3
                  clear hb1 hb2 hb3
                  obtain ⟨c0, c1, c2, c3, hf⟩ := HRES8.out.cells
                  clear hX
                  go_wp2_with fail
                  refine (err_c w8 B C r 0 L4 HR8.out).mono ?_
                  rintro e w' ⟨rfl, rfl⟩
                  go_upto_region 27 with fail
                  iterate 24 (try (first | go_step | go_simp))
                  (try simp only [Exit.inBlock, Exit.then])
                  refine bodyPost_ret (v := .tuple #[.agg #[.int .u64 0, .int .u64 0, .bool false, .bool false], .int .i64 0, .int .i64 14]) (by rw [results_cell_tmp2 rfl]; go_simp) rfl ⟨by rw [HB1.out, HB2.out, HB3.out]; rfl, ?_⟩
                  repeat (first | exact HO8.out | refine Only.setCell ?_ (.inr (by simp)) _)
              · have hEI : (E4 != 0) = true := by rw [bne_iff_ne]; exact hE
                rw [if_pos hE] at hbody
                simp only [Prod.mk.injEq] at hbody
                obtain ⟨hb1, hb2, hb3⟩ := hbody
                have HB1 := Lib.hid hb1; have HB2 := Lib.hid hb2; have HB3 := Lib.hid hb3
                clear hb1 hb2 hb3
                obtain ⟨c0, c1, c2, c3, hf⟩ := HRES8.out.cells
                clear hE
                go_wp2_with fail
                refine (err_c w8 B C r E4 L4 HR8.out).mono ?_
                rintro e w' ⟨rfl, rfl⟩
                go_wp2_with fail
                refine (err_c w8 B C r E4 L4 HR8.out).mono ?_
                rintro e w' ⟨rfl, rfl⟩
                iterate 24 (try (first | go_step | go_simp))
                (try simp only [Exit.inBlock, Exit.then])
                refine bodyPost_ret (v := .tuple #[.agg #[.int .u64 0, .int .u64 0, .bool false, .bool false], .int .i64 0, .int .i64 E4]) (by rw [results_cell_tmp2 rfl]; go_simp) rfl ⟨by rw [HB1.out, HB2.out, HB3.out]; rfl, ?_⟩
                repeat (first | exact HO8.out | refine Only.setCell ?_ (.inr (by simp)) _)

theorem read_c (w : World) (v : Value) (l : List UInt8) (hv : BS w v l) (hl : l.length ≤ 1000000) : Calls Try.prog 9 #[v] w fun e w' => e = .returned (.tuple #[hdV (Frm.head l).1, .int .i64 (Frm.head l).2.1, .int .i64 (Frm.head l).2.2]) ∧ Only [] w w' := by
  cases l with
  | nil => exact read_nil w v hv
  | cons c l =>
    simp only [List.length_cons] at hl
    by_cases hc : c.toNat / 8 % 2 = 1
    · have e : Frm.head (c :: l) = (⟨0, 0, false, false⟩, 0, 11) := if_pos hc
      rw [e]
      exact read_res w v c l hv hc (by omega)
    · have e : Frm.head (c :: l) = Frm.body c.toNat l := if_neg hc
      rw [e]
      exact read_body w v c l hv hc (by omega)
end Go.Proofs.Ytkblnlddamojoaa.frm
