/-
  THE WALK of package huff: Decode4.
-/
import Derived.Test.YtfckokdgmbbheaaHufFourD
import Derived.Test.YtfckokdgmbbheaaGenH
import Derived.Test.YtfckokdgmbbheaaCurRef
import Derived.Deep.DeepCutAuto
set_option linter.unusedVariables false
set_option linter.unusedSimpArgs false
set_option maxRecDepth 20000
namespace Go.Proofs.Ytfckokdgmbbheaa.huf
open Go Go.RowKit Go.Lm Go.Proofs.Ytfckokdgmbbheaa Go.Proofs.Ytfckokdgmbbheaa.bit

/-- What the loop's blocks hold. -/
def SDec (Tb Lb Eb lg F NN : Nat) (LC EC : Array Value) (x : World) : Prop :=
  x.heap[Tb]? = some (.cells #[.int .i64 (lg : Nat), .slice (some ⟨F, 0, none⟩) NN NN] 41 (0, 0)) ∧ x.heap[Lb]? = some (.cells LC 45 (0, 0)) ∧ x.heap[Eb]? = some (.cells EC 45 (0, 0))
/-- The state behind j numbers, and the last one. -/
def st (b : List UInt8) : Nat → List UInt8 × Int × Nat
  | 0 => (b, 0, 0)
  | j + 1 => Cur.rnum (st b j).1 (st b j).2.1 2
theorem st_bound (b : List UInt8) : ∀ j, (st b j).2.2 < 65536
  | 0 => by show (0 : Nat) < 65536; decide
  | j + 1 => (rnum_cases (st b j).1 (st b j).2.1).2
theorem st_len (b : List UInt8) : ∀ j, (st b j).1.length ≤ b.length
  | 0 => Nat.le_refl _
  | j + 1 => Nat.le_trans (rnum_cases (st b j).1 (st b j).2.1).1 (st_len b j)
theorem nums_st (b : List UInt8) : nums b = ((st b 3).1, (st b 3).2.1, (st b 1).2.2, (st b 2).2.2, (st b 3).2.2) := rfl
def arr (b : List UInt8) (j : Nat) : Array Value := #[.int .i64 (if 0 < j then ((st b 1).2.2 : Int) else 0), .int .i64 (if 1 < j then ((st b 2).2.2 : Int) else 0), .int .i64 (if 2 < j then ((st b 3).2.2 : Int) else 0), .int .i64 0]

set_option maxRecDepth 100000 in
set_option maxHeartbeats 8000000 in
theorem hdecode4_c (w : World) (v u : Value) (l b : List UInt8) (hv : BS w v l) (hl : l.length ≤ 1000) (hu : BS w u b) (hb : b.length ≤ 100000) (n : Int) (hn : NOk n) : Calls Try.prog 14 #[v, u, .int .i64 n] w fun e w' =>
    ∃ v', e = .returned (.tuple #[v', .int .i64 (hdec4 l b n).2]) ∧ OV w' w.heap.size 5 v' ((hdec4 l b n).1.map u8v) ∧ Only [] w w' := by
  by_cases h0 : Huf.dep (Huf.ns l) = 0
  · have hS : hdec4 l b n = ([], 1) := by unfold hdec4; rw [if_pos h0]
    rw [hS]
    have HT := Lib.hid (tabled_no w v l hv hl h0)
    obtain ⟨a, cap, rfl, -, -, -, -⟩ := hv
    obtain ⟨a2, cap2, rfl, -, -, -, -⟩ := hu
    clear h0 hS
    go_enter Try.func14, Try.ntmps14
    go_wp2_with fail
    refine HT.out.mono ?_
    rintro e w1 ⟨rfl, ho⟩
    have HO := Lib.hid ho
    clear ho
    go_wp2_with fail
    go_ret2
    exact ⟨_, rfl, OV.nil _ _ _, HO.out.alloc _⟩
  obtain ⟨d, hd⟩ : ∃ d, Huf.dep (Huf.ns l) = d := ⟨_, rfl⟩
  have hg := Huf.dep_some hd (by omega)
  have HT := Lib.hid (tabled_yes w v l hv hl d hd (by omega))
  obtain ⟨L, hL⟩ : ∃ L, Huf.ns l = L := ⟨_, rfl⟩
  obtain ⟨S, hS⟩ : ∃ S, hdec4 l b n = S := ⟨_, rfl⟩
  rw [hS]
  unfold hdec4 at hS
  rw [if_neg h0] at hS
  rw [hL] at hd
  simp only [hL, hd] at hS hg HT
  obtain ⟨lg, hlg⟩ : ∃ lg, Huf.lgt L d = lg := ⟨_, rfl⟩
  obtain ⟨NN, hNN⟩ : ∃ NN, 2 ^ lg = NN := ⟨_, rfl⟩
  simp only [hlg, hNN] at HT
  have HS := Lib.hid hS; have HU := Lib.hid hu; have HG := Lib.hid hg; have HLG := Lib.hid hlg; have HNN := Lib.hid hNN
  obtain ⟨a, cap, rfl, -, -, -, -⟩ := hv
  obtain ⟨a2, cap2, rfl, -, -, -, -⟩ := hu
  clear h0 hd hL hS hg hlg hNN
  obtain ⟨H, hH⟩ : ∃ H, w.heap.size = H := ⟨_, rfl⟩
  rw [hH] at HT ⊢
  have HH := Lib.hid hH
  clear hH
  go_enter Try.func14, Try.ntmps14
  go_wp2_with fail
  refine HT.out.mono ?_
  rintro e w1 ⟨F, rfl, hpb, hF, ho⟩
  have HPB := Lib.hid hpb; have HO := Lib.hid ho
  clear hpb ho HT
  by_cases h1 : n < 0
  · have hS := HS.out
    rw [if_pos (.inl h1)] at hS
    subst hS
    go_wp2_with fail
    go_ret2
    exact ⟨_, rfl, OV.nil _ _ _, HO.out.alloc _⟩
  by_cases h2 : 131072 < n
  · have hS := HS.out
    rw [if_pos (.inr h2)] at hS
    subst hS
    go_wp2_with fail
    go_ret2
    exact ⟨_, rfl, OV.nil _ _ _, HO.out.alloc _⟩
  obtain ⟨n, rfl⟩ := Int.eq_ofNat_of_zero_le (show 0 ≤ n by omega)
  have hS := HS.out
  rw [if_neg (by omega), Int.toNat_natCast] at hS
  have hn2 : n ≤ 1000 := by unfold NOk at hn; omega
  have HS2 := Lib.hid hS
  have hpc := fun w => parts_c w n (by omega)
  have hpn : pnA n = #[.int .i64 (qk n : Nat), .int .i64 (qk n : Nat), .int .i64 (qk n : Nat), .int .i64 ((n : Int) - 3 * (qk n : Int))] := rfl
  have hpg := pnA_get n
  have hcn := fun i (h : 3 * qk n ≤ n) (hi : i < 4) => cut_next h hi
  simp only [hpn] at hpg hpc
  obtain ⟨k, hk⟩ : ∃ k, qk n = k := ⟨_, rfl⟩
  simp only [hk] at hpc hpg hcn
  have hkn : k ≤ 1000 := by unfold qk at hk; omega
  rw [hk] at HS2
  have HK := Lib.hid hk
  have HPC := Lib.hid hpc; have HPG := Lib.hid hpg; have HCN := Lib.hid hcn
  have hFT := HPB.out.lt
  have HFT := Lib.hid hFT
  have hot : Only [] w1 (w1.alloc (.cells #[.int .i64 (lg : Nat), .slice (some ⟨F, 0, none⟩) NN NN] 41)) := (Only.refl [] w1).alloc _
  have hpt := P2.new w1 41 (.int .i64 (lg : Nat)) (.slice (some ⟨F, 0, none⟩) NN NN)
  have hpbt := HPB.out.only hot (by simp)
  have HOt := Lib.hid (HO.out.then hot); have HPT := Lib.hid hpt; have HPBT := Lib.hid hpbt
  clear hFT HS hS hn h1 h2 hpc hpn hpg hcn hk hot hpt hpbt HO HPB
  --@1
  go_wp2_with fail
  refine (HPC.out _).mono ?_
  rintro e w2 ⟨rfl, ho2⟩
  have HO2 := Lib.hid (HOt.out.then ho2); have HPT2 := Lib.hid (HPT.out.only ho2 (by simp)); have HPBT2 := Lib.hid (HPBT.out.only ho2 (by simp))
  clear ho2 HOt HPT HPBT
  by_cases hmay : 3 * k ≤ n
  · rw [decide_eq_true hmay]
    have hS := HS2.out
    rw [if_neg (by omega)] at hS
    have HS3 := Lib.hid hS
    clear hS HS2
    have hoe : Only [] w2 (w2.alloc (.cells #[.int .i64 (k : Nat), .int .i64 (k : Nat), .int .i64 (k : Nat), .int .i64 ((n : Int) - 3 * (k : Int))] 45)) := (Only.refl [] w2).alloc _
    have hb3 := heap_alloc_new w2 (.cells #[.int .i64 (k : Nat), .int .i64 (k : Nat), .int .i64 (k : Nat), .int .i64 ((n : Int) - 3 * (k : Int))] 45)
    have hu3 := HU.out.only (HO2.out.then hoe) (by simp)
    have hnr := cur.newreader_c _ _ b hu3 (by omega)
    have HNR := Lib.hid hnr; have HB3 := Lib.hid hb3
    have HO3 := Lib.hid (HO2.out.then hoe); have HPT3 := Lib.hid (HPT2.out.only hoe (by simp)); have HPBT3 := Lib.hid (HPBT2.out.only hoe (by simp))
    have HTE := Lib.hid HPT2.out.lt
    clear hoe hb3 hu3 hnr HO2 HPT2 HPBT2
    --@2
    go_wp2_with fail
    refine HNR.out.mono ?_
    rintro e w4 ⟨r, rfl, hrd, ho4⟩
    --@3
    go_wp2_with fail
    have hol : Only [] w4 (w4.alloc (.cells #[.int .i64 0, .int .i64 0, .int .i64 0, .int .i64 0] 45)) := (Only.refl [] w4).alloc _
    have hlb := heap_alloc_new w4 (.cells #[.int .i64 0, .int .i64 0, .int .i64 0, .int .i64 0] 45)
    have hrd5 := hrd.only hol (Nat.le_refl _)
    have hb5 := hol.heap (ho4.heap HB3.out (by simp)) (by simp)
    have hpt5 := (HPT3.out.only ho4 (by simp)).only hol (by simp)
    have hpb5 := (HPBT3.out.only ho4 (by simp)).only hol (by simp)
    have hon5 := (HO3.out.then ho4).then hol
    obtain ⟨B0, hB0⟩ : ∃ B0, (w2.alloc (.cells #[.int .i64 (k : Nat), .int .i64 (k : Nat), .int .i64 (k : Nat), .int .i64 ((n : Int) - 3 * (k : Int))] 45)).heap.size = B0 := ⟨_, rfl⟩
    have hB02 : w2.heap.size + 1 = B0 := by rw [← hB0, World.size_alloc]
    rw [hB0] at hrd5
    have hrB : B0 ≤ r ∧ r < w4.heap.size := ⟨hrd5.1, hrd5.2.1⟩
    have hord : F < w1.heap.size ∧ H ≤ F ∧ w1.heap.size < w2.heap.size ∧ w2.heap.size < B0 ∧ B0 ≤ r ∧ r < w4.heap.size := ⟨HFT.out, hF, HTE.out, by omega, hrB.1, hrB.2⟩
    have hlbs : w4.heap.size < (w4.alloc (.cells #[.int .i64 0, .int .i64 0, .int .i64 0, .int .i64 0] 45)).heap.size := by rw [World.size_alloc]; omega
    obtain ⟨w5, hw5⟩ : ∃ w5, (w4.alloc (.cells #[.int .i64 0, .int .i64 0, .int .i64 0, .int .i64 0] 45)) = w5 := ⟨_, rfl⟩
    obtain ⟨Lb, hLb⟩ : ∃ Lb, w4.heap.size = Lb := ⟨_, rfl⟩
    obtain ⟨Eb, hEb⟩ : ∃ Eb, w2.heap.size = Eb := ⟨_, rfl⟩
    obtain ⟨Tb, hTb⟩ : ∃ Tb, w1.heap.size = Tb := ⟨_, rfl⟩
    rw [hw5] at hlb hrd5 hb5 hpt5 hpb5 hon5 hlbs ⊢
    rw [hTb] at hord hpt5
    rw [hEb] at hord hb5
    rw [hLb] at hord hlb hrd5 hlbs
    simp only [hTb, hEb, hLb]
    have HORD := Lib.hid hord; have HLB5 := Lib.hid hlb; have HRD5 := Lib.hid hrd5; have HB5 := Lib.hid hb5; have HPT5 := Lib.hid hpt5; have HPB5 := Lib.hid hpb5; have HON5 := Lib.hid hon5; have HLBS := Lib.hid hlbs
    clear hord hlb hrd5 hb5 hpt5 hpb5 hon5 hlbs hw5 hLb hEb hTb hol hrd ho4 hB0 hB02 hrB hF HFT HTE HB3 HPT3 HPBT3 HO3 HNR
    --@4
    go_loopw [14, 42] (fun _ i wr => ∃ j : Nat, j ≤ 3 ∧ i = .int .i64 (j : Int) ∧ wr.heap[Lb]? = some (.cells (arr b j) 45 (0, 0)) ∧ cur.RD wr B0 Lb r (st b j).2.1 (st b j).1 ∧ Only [r, Lb] w5 wr) (fun _ i _ => 3 - (intOf i).toNat)
    case atStart => exact ⟨0, by omega, rfl, HLB5.out, HRD5.out, Only.refl _ _⟩
    case round =>
      obtain ⟨j, hj, rfl, hlb, hrd, how⟩ := hrel
      have hj4 : j = 0 ∨ j = 1 ∨ j = 2 ∨ j = 3 := by omega
      clear HLB5 HRD5
      rcases hj4 with rfl | rfl | rfl | rfl
      --<A
      · --@n0
        have hnum := cur.number_c wr B0 Lb r _ 2 _ hrd
        have hst : Cur.rnum (st b 0).1 (st b 0).2.1 2 = st b 1 := rfl
        rw [hst] at hnum
        have hvb := st_bound b 1
        have HNUM := Lib.hid hnum; have HLB := Lib.hid hlb; have HOW := Lib.hid how
        clear hnum hlb how hrd hst
        obtain ⟨vv, hvv⟩ : ∃ vv, (st b 1).2.2 = vv := ⟨_, rfl⟩
        rw [hvv] at HNUM hvb
        have hwr : IntKind.i64.wrap (vv : Int) = (vv : Int) := by rw [IntKind.wrap_i64]; omega
        rw [show ((0 : Nat) : Int) = 0 from rfl]
        go_wp2_with fail
        refine HNUM.out.mono ?_
        rintro e w6 ⟨rfl, hrd6, ho6⟩
        have hlb6 := ho6.heap HLB.out (by have := HORD.out; simp; omega)
        have c0 : w6.cell? ⟨Lb, 0, none⟩ = some (.int .i64 0) := by rw [cell_of_row _ _ _ _ _ _ hlb6]; simp [arr]
        have fz : ∀ k, w6.frozen? ⟨Lb, k, none⟩ = false := fun k => by simp [World.frozen?, hlb6]
        have hlb7 := Go.Lm.heap_setCell_same (k := 0) hlb6 (.int .i64 (vv : Int))
        have hos : Only [Lb] w6 (w6.setCell ⟨Lb, 0, none⟩ (.int .i64 (vv : Int))) := (Only.refl _ _).setCell (.inl (by simp)) _
        have hrd7 := hrd6.kept (fun k h1 h2 => hos.block k (by have := ho6.size; have := HLBS.out; have := HOW.out.size; omega) (by simp; omega))
        have how7 : Only [r, Lb] w5 (w6.setCell ⟨Lb, 0, none⟩ (.int .i64 (vv : Int))) := (HOW.out.then (ho6.mono (by simp))).then (hos.mono (by simp))
        have HLB7 := Lib.hid hlb7; have HRD7 := Lib.hid hrd7; have HOW7 := Lib.hid how7
        clear hlb6 hlb7 hos hrd7 how7 hrd6 ho6 HNUM HLB HOW
        go_wp2_with fail
        go_roundw
        case rel => exact ⟨1, by omega, rfl, by rw [HLB7.out]; simp [arr, hvv], HRD7.out, HOW7.out⟩
        case measure => simp [intOf]
      · --@n1
        have hnum := cur.number_c wr B0 Lb r _ 2 _ hrd
        have hst : Cur.rnum (st b 1).1 (st b 1).2.1 2 = st b 2 := rfl
        rw [hst] at hnum
        have hvb := st_bound b 2
        have HNUM := Lib.hid hnum; have HLB := Lib.hid hlb; have HOW := Lib.hid how
        clear hnum hlb how hrd hst
        obtain ⟨vv, hvv⟩ : ∃ vv, (st b 2).2.2 = vv := ⟨_, rfl⟩
        rw [hvv] at HNUM hvb
        have hwr : IntKind.i64.wrap (vv : Int) = (vv : Int) := by rw [IntKind.wrap_i64]; omega
        rw [show ((1 : Nat) : Int) = 1 from rfl]
        go_wp2_with fail
        refine HNUM.out.mono ?_
        rintro e w6 ⟨rfl, hrd6, ho6⟩
        have hlb6 := ho6.heap HLB.out (by have := HORD.out; simp; omega)
        have c1 : w6.cell? ⟨Lb, 1, none⟩ = some (.int .i64 0) := by rw [cell_of_row _ _ _ _ _ _ hlb6]; simp [arr]
        have fz : ∀ k, w6.frozen? ⟨Lb, k, none⟩ = false := fun k => by simp [World.frozen?, hlb6]
        have hlb7 := Go.Lm.heap_setCell_same (k := 1) hlb6 (.int .i64 (vv : Int))
        have hos : Only [Lb] w6 (w6.setCell ⟨Lb, 1, none⟩ (.int .i64 (vv : Int))) := (Only.refl _ _).setCell (.inl (by simp)) _
        have hrd7 := hrd6.kept (fun k h1 h2 => hos.block k (by have := ho6.size; have := HLBS.out; have := HOW.out.size; omega) (by simp; omega))
        have how7 : Only [r, Lb] w5 (w6.setCell ⟨Lb, 1, none⟩ (.int .i64 (vv : Int))) := (HOW.out.then (ho6.mono (by simp))).then (hos.mono (by simp))
        have HLB7 := Lib.hid hlb7; have HRD7 := Lib.hid hrd7; have HOW7 := Lib.hid how7
        clear hlb6 hlb7 hos hrd7 how7 hrd6 ho6 HNUM HLB HOW
        go_wp2_with fail
        go_roundw
        case rel => exact ⟨2, by omega, rfl, by rw [HLB7.out]; simp [arr, hvv], HRD7.out, HOW7.out⟩
        case measure => simp [intOf]
      · --@n2
        have hnum := cur.number_c wr B0 Lb r _ 2 _ hrd
        have hst : Cur.rnum (st b 2).1 (st b 2).2.1 2 = st b 3 := rfl
        rw [hst] at hnum
        have hvb := st_bound b 3
        have HNUM := Lib.hid hnum; have HLB := Lib.hid hlb; have HOW := Lib.hid how
        clear hnum hlb how hrd hst
        obtain ⟨vv, hvv⟩ : ∃ vv, (st b 3).2.2 = vv := ⟨_, rfl⟩
        rw [hvv] at HNUM hvb
        have hwr : IntKind.i64.wrap (vv : Int) = (vv : Int) := by rw [IntKind.wrap_i64]; omega
        rw [show ((2 : Nat) : Int) = 2 from rfl]
        go_wp2_with fail
        refine HNUM.out.mono ?_
        rintro e w6 ⟨rfl, hrd6, ho6⟩
        have hlb6 := ho6.heap HLB.out (by have := HORD.out; simp; omega)
        have c2 : w6.cell? ⟨Lb, 2, none⟩ = some (.int .i64 0) := by rw [cell_of_row _ _ _ _ _ _ hlb6]; simp [arr]
        have fz : ∀ k, w6.frozen? ⟨Lb, k, none⟩ = false := fun k => by simp [World.frozen?, hlb6]
        have hlb7 := Go.Lm.heap_setCell_same (k := 2) hlb6 (.int .i64 (vv : Int))
        have hos : Only [Lb] w6 (w6.setCell ⟨Lb, 2, none⟩ (.int .i64 (vv : Int))) := (Only.refl _ _).setCell (.inl (by simp)) _
        have hrd7 := hrd6.kept (fun k h1 h2 => hos.block k (by have := ho6.size; have := HLBS.out; have := HOW.out.size; omega) (by simp; omega))
        have how7 : Only [r, Lb] w5 (w6.setCell ⟨Lb, 2, none⟩ (.int .i64 (vv : Int))) := (HOW.out.then (ho6.mono (by simp))).then (hos.mono (by simp))
        have HLB7 := Lib.hid hlb7; have HRD7 := Lib.hid hrd7; have HOW7 := Lib.hid how7
        clear hlb6 hlb7 hos hrd7 how7 hrd6 ho6 HNUM HLB HOW
        go_wp2_with fail
        go_roundw
        case rel => exact ⟨3, by omega, rfl, by rw [HLB7.out]; simp [arr, hvv], HRD7.out, HOW7.out⟩
        case measure => simp [intOf]
      --A>
      · --@6
        have hS := HS3.out
        simp only [nums_st] at hS
        have ha := st_bound b 1; have hb' := st_bound b 2; have hc := st_bound b 3
        have hRl := st_len b 3
        have harr : arr b 3 = #[.int .i64 ((st b 1).2.2 : Nat), .int .i64 ((st b 2).2.2 : Nat), .int .i64 ((st b 3).2.2 : Nat), .int .i64 0] := by simp [arr]
        rw [harr] at hlb
        clear harr
        obtain ⟨A, hA⟩ : ∃ A, (st b 1).2.2 = A := ⟨_, rfl⟩
        obtain ⟨B, hB⟩ : ∃ B, (st b 2).2.2 = B := ⟨_, rfl⟩
        obtain ⟨C, hC⟩ : ∃ C, (st b 3).2.2 = C := ⟨_, rfl⟩
        obtain ⟨E, hE⟩ : ∃ E, (st b 3).2.1 = E := ⟨_, rfl⟩
        obtain ⟨R, hR⟩ : ∃ R, (st b 3).1 = R := ⟨_, rfl⟩
        simp only [hA, hB, hC, hE, hR] at hS ha hb' hc hRl hlb hrd
        obtain ⟨T, hT⟩ : ∃ T, R.length = T := ⟨_, rfl⟩
        rw [hT] at hS hRl
        have HT := Lib.hid hT
        have HLB6 := Lib.hid hlb; have HRD6 := Lib.hid hrd; have HOW6 := Lib.hid how; have HS4 := Lib.hid hS
        clear hlb hrd how hS HS3 hA hB hC hE hR
        have hl0 := cell_of_row _ _ 0 _ _ _ HLB6.out
        have hl1 := cell_of_row _ _ 1 _ _ _ HLB6.out
        have hl2 := cell_of_row _ _ 2 _ _ _ HLB6.out
        have hl3 := cell_of_row _ _ 3 _ _ _ HLB6.out
        simp only [List.getElem?_toArray, List.getElem?_cons_zero, List.getElem?_cons_succ] at hl0 hl1 hl2 hl3
        have l0 : ∀ x : Later [] wr.drew, x.at'.cell? ⟨Lb, 0, none⟩ = some (.int .i64 (A : Int)) := fun x => Later.cell (w := wr.drew) hl0 (by simp) x
        have l1 : ∀ x : Later [] wr.drew, x.at'.cell? ⟨Lb, 1, none⟩ = some (.int .i64 (B : Int)) := fun x => Later.cell (w := wr.drew) hl1 (by simp) x
        have l2 : ∀ x : Later [] wr.drew, x.at'.cell? ⟨Lb, 2, none⟩ = some (.int .i64 (C : Int)) := fun x => Later.cell (w := wr.drew) hl2 (by simp) x
        have hsz6 : Lb < wr.heap.size := lt_of_block HLB6.out
        have HLEFT : Hid (∀ x : World, Only [] wr.drew x → Calls Try.prog 31 #[.pointer (some ⟨r, 0, none⟩)] x fun e w' => e = .returned (.int .i64 (T : Int)) ∧ Only [] x w') := Lib.hid fun x ho => by
          have h := cur.left_c x B0 Lb r E R (HRD6.out.only (((Only.refl [] wr).drew).then ho) (Nat.le_of_lt hsz6))
          rw [HT.out] at h
          exact h.mono fun _ _ ⟨h1, h2⟩ => ⟨h1, h2 ▸ Only.refl _ _⟩
        have hT5 : T ≤ 100000 := by omega
        have w1' : IntKind.i64.wrap ((T : Int) - (A : Int)) = (T : Int) - (A : Int) := by rw [IntKind.wrap_i64]; omega
        have w2' : IntKind.i64.wrap ((T : Int) - (A : Int) - (B : Int)) = (T : Int) - (A : Int) - (B : Int) := by rw [IntKind.wrap_i64]; omega
        have w3' : IntKind.i64.wrap ((T : Int) - (A : Int) - (B : Int) - (C : Int)) = (T : Int) - (A : Int) - (B : Int) - (C : Int) := by rw [IntKind.wrap_i64]; omega
        go_upto_region 16 with fail
        --@7
        --<B
        refine wp_region_M [] (by kernel_rfl) ?_
        change wpAnyM _ _ _ _ _ _ _ _ (World.drew _)
        refine wpAnyM_take (i := 0) (oi := { dst := some 51, op := .move (.tmp 12), type := 58, pos := "huff.go:113", after := #[], guard := none }) rfl (by kernel_rfl) (by kernel_rfl) (by kernel_rfl) (YieldsOn.pure (by rfl) (by intro x; first | (go_simp; first | done | rfl) | (unfold execOp; simp only [Sem.run_bind]; go_simp; first | done | rfl))) (by exact fun _ _ _ h => h) ?_
        try simp only [Act.put, List.setIfInBounds_toArray, List.set_cons_zero, List.set_cons_succ]
        refine wpAnyM_take (i := 1) (oi := { dst := some 52, op := .call { callee := Callee.value (.func 31), args := #[.tmp 51], argTypes := #[58] }, type := 3, pos := "huff.go:113", after := #[{ on := 0, ground := .data }], guard := none }) rfl (by kernel_rfl) (by kernel_rfl) (by kernel_rfl) (YieldsOn.call (by rfl) (by rfl) (by intro x; go_simp; first | done | rfl | exact ⟨rfl, rfl⟩) (fun x => HLEFT.out x.at' x.only)) (by exact fun _ _ _ h => h) ?_
        try simp only [Act.put, List.setIfInBounds_toArray, List.set_cons_zero, List.set_cons_succ]
        refine wpAnyM_take (i := 2) (oi := { dst := some 53, op := .indexAddr 45 (.tmp 13) (.const (Value.int IntKind.i64 0)), type := 0, pos := "huff.go:113", after := #[], guard := none }) rfl (by kernel_rfl) (by kernel_rfl) (by kernel_rfl) (YieldsOn.pure (by rfl) (by intro x; first | (go_simp; first | done | rfl) | (unfold execOp; simp only [Sem.run_bind]; go_simp; first | done | rfl))) (by exact fun _ _ _ h => h) ?_
        try simp only [Act.put, List.setIfInBounds_toArray, List.set_cons_zero, List.set_cons_succ]
        refine wpAnyM_take (i := 3) (oi := { dst := some 54, op := .load 3 (.tmp 53), type := 3, pos := "huff.go:113", after := #[{ on := 2, ground := .data }], guard := none }) rfl (by kernel_rfl) (by kernel_rfl) (by kernel_rfl) (YieldsOn.value (by rfl) (by rfl) (by intro x; first | (go_simp; first | done | rfl) | (unfold execOp; simp only [Sem.run_bind]; go_simp; first | done | rfl))) (by exact fun _ _ _ h => h) ?_
        try simp only [Act.put, List.setIfInBounds_toArray, List.set_cons_zero, List.set_cons_succ]
        refine wpAnyM_take (i := 4) (oi := { dst := some 55, op := .binOp BinOp.sub 3 (.tmp 52) (.tmp 54) 3, type := 3, pos := "huff.go:113", after := #[{ on := 1, ground := .data }, { on := 3, ground := .data }], guard := none }) rfl (by kernel_rfl) (by kernel_rfl) (by kernel_rfl) (YieldsOn.value (by rfl) (by rfl) (by intro x; first | (go_simp; first | done | rfl) | (unfold execOp; simp only [Sem.run_bind]; go_simp; first | done | rfl))) (by exact fun _ _ _ h => h) ?_
        try simp only [Act.put, List.setIfInBounds_toArray, List.set_cons_zero, List.set_cons_succ]
        refine wpAnyM_take (i := 5) (oi := { dst := some 56, op := .indexAddr 45 (.tmp 13) (.const (Value.int IntKind.i64 1)), type := 0, pos := "huff.go:113", after := #[], guard := none }) rfl (by kernel_rfl) (by kernel_rfl) (by kernel_rfl) (YieldsOn.pure (by rfl) (by intro x; first | (go_simp; first | done | rfl) | (unfold execOp; simp only [Sem.run_bind]; go_simp; first | done | rfl))) (by exact fun _ _ _ h => h) ?_
        try simp only [Act.put, List.setIfInBounds_toArray, List.set_cons_zero, List.set_cons_succ]
        refine wpAnyM_take (i := 6) (oi := { dst := some 57, op := .load 3 (.tmp 56), type := 3, pos := "huff.go:113", after := #[{ on := 5, ground := .data }], guard := none }) rfl (by kernel_rfl) (by kernel_rfl) (by kernel_rfl) (YieldsOn.value (by rfl) (by rfl) (by intro x; first | (go_simp; first | done | rfl) | (unfold execOp; simp only [Sem.run_bind]; go_simp; first | done | rfl))) (by exact fun _ _ _ h => h) ?_
        try simp only [Act.put, List.setIfInBounds_toArray, List.set_cons_zero, List.set_cons_succ]
        refine wpAnyM_take (i := 7) (oi := { dst := some 58, op := .binOp BinOp.sub 3 (.tmp 55) (.tmp 57) 3, type := 3, pos := "huff.go:113", after := #[{ on := 4, ground := .data }, { on := 6, ground := .data }], guard := none }) rfl (by kernel_rfl) (by kernel_rfl) (by kernel_rfl) (YieldsOn.value (by rfl) (by rfl) (by intro x; first | (go_simp; first | done | rfl) | (unfold execOp; simp only [Sem.run_bind]; go_simp; first | done | rfl))) (by exact fun _ _ _ h => h) ?_
        try simp only [Act.put, List.setIfInBounds_toArray, List.set_cons_zero, List.set_cons_succ]
        refine wpAnyM_take (i := 8) (oi := { dst := some 59, op := .indexAddr 45 (.tmp 13) (.const (Value.int IntKind.i64 2)), type := 0, pos := "huff.go:113", after := #[], guard := none }) rfl (by kernel_rfl) (by kernel_rfl) (by kernel_rfl) (YieldsOn.pure (by rfl) (by intro x; first | (go_simp; first | done | rfl) | (unfold execOp; simp only [Sem.run_bind]; go_simp; first | done | rfl))) (by exact fun _ _ _ h => h) ?_
        try simp only [Act.put, List.setIfInBounds_toArray, List.set_cons_zero, List.set_cons_succ]
        refine wpAnyM_take (i := 9) (oi := { dst := some 60, op := .load 3 (.tmp 59), type := 3, pos := "huff.go:113", after := #[{ on := 8, ground := .data }], guard := none }) rfl (by kernel_rfl) (by kernel_rfl) (by kernel_rfl) (YieldsOn.value (by rfl) (by rfl) (by intro x; first | (go_simp; first | done | rfl) | (unfold execOp; simp only [Sem.run_bind]; go_simp; first | done | rfl))) (by exact fun _ _ _ h => h) ?_
        try simp only [Act.put, List.setIfInBounds_toArray, List.set_cons_zero, List.set_cons_succ]
        refine wpAnyM_take (i := 10) (oi := { dst := some 61, op := .binOp BinOp.sub 3 (.tmp 58) (.tmp 60) 3, type := 3, pos := "huff.go:113", after := #[{ on := 7, ground := .data }, { on := 9, ground := .data }], guard := none }) rfl (by kernel_rfl) (by kernel_rfl) (by kernel_rfl) (YieldsOn.value (by rfl) (by rfl) (by intro x; first | (go_simp; first | done | rfl) | (unfold execOp; simp only [Sem.run_bind]; go_simp; first | done | rfl))) (by exact fun _ _ _ h => h) ?_
        try simp only [Act.put, List.setIfInBounds_toArray, List.set_cons_zero, List.set_cons_succ]
        refine wpAnyM_take (i := 11) (oi := { dst := some 62, op := .indexAddr 45 (.tmp 13) (.const (Value.int IntKind.i64 3)), type := 0, pos := "huff.go:113", after := #[{ on := 0, ground := .phase }, { on := 1, ground := .phase }, { on := 2, ground := .phase }, { on := 3, ground := .phase }, { on := 4, ground := .phase }, { on := 5, ground := .phase }, { on := 6, ground := .phase }, { on := 7, ground := .phase }, { on := 8, ground := .phase }, { on := 9, ground := .phase }, { on := 10, ground := .phase }], guard := none }) rfl (by kernel_rfl) (by kernel_rfl) (by kernel_rfl) (YieldsOn.pure (by rfl) (by intro x; first | (go_simp; first | done | rfl) | (unfold execOp; simp only [Sem.run_bind]; go_simp; first | done | rfl))) (by exact fun _ _ _ h => h) ?_
        try simp only [Act.put, List.setIfInBounds_toArray, List.set_cons_zero, List.set_cons_succ]
        refine wpAnyM_last (i := 12) (o := { dst := none, op := .store 3 (.tmp 62) (.tmp 61), type := 0, pos := "huff.go:113", after := #[{ on := 11, ground := .data }, { on := 10, ground := .data }, { on := 1, ground := .chain }, { on := 0, ground := .phase }, { on := 1, ground := .phase }, { on := 2, ground := .phase }, { on := 3, ground := .phase }, { on := 4, ground := .phase }, { on := 5, ground := .phase }, { on := 6, ground := .phase }, { on := 7, ground := .phase }, { on := 8, ground := .phase }, { on := 9, ground := .phase }, { on := 10, ground := .phase }], guard := none }) (by kernel_rfl) rfl (by kernel_rfl) (fun w7 hw7 K hK => ?_)
        --B>
        --@8
        have ho7 : Only [] wr w7 := ((Only.refl [] wr).drew).then hw7
        have hlb7 := ho7.heap HLB6.out (by simp)
        have c3 : w7.cell? ⟨Lb, 3, none⟩ = some (.int .i64 0) := by rw [cell_of_row _ _ _ _ _ _ hlb7]; rfl
        have fz : ∀ k, w7.frozen? ⟨Lb, k, none⟩ = false := fun k => by simp [World.frozen?, hlb7]
        have hlb8 : (w7.setCell ⟨Lb, 3, none⟩ (.int .i64 ((T : Int) - (A : Int) - (B : Int) - (C : Int)))).heap[Lb]? = some (.cells (lnA A B C T) 45 (0, 0)) := (Go.Lm.heap_setCell_same (k := 3) hlb7 _).trans rfl
        have hos : Only [Lb] w7 (w7.setCell ⟨Lb, 3, none⟩ (.int .i64 ((T : Int) - (A : Int) - (B : Int) - (C : Int)))) := (Only.refl _ _).setCell (.inl (by simp)) _
        have hrd8 := (HRD6.out.only ho7 (Nat.le_of_lt hsz6)).kept (w' := (w7.setCell ⟨Lb, 3, none⟩ (.int .i64 ((T : Int) - (A : Int) - (B : Int) - (C : Int))))) (fun k h1 h2 => hos.block k (by have := ho7.size; omega) (by simp; omega))
        have how8 : Only [r, Lb] w5 (w7.setCell ⟨Lb, 3, none⟩ (.int .i64 ((T : Int) - (A : Int) - (B : Int) - (C : Int)))) := (HOW6.out.then (ho7.mono (by simp))).then (hos.mono (by simp))
        have hsz8 := Nat.lt_of_lt_of_le hsz6 (Nat.le_trans ho7.size hos.size)
        go_simp
        refine hK _ _ ?_
        clear hK K
        try simp only [Act.put, List.setIfInBounds_toArray, List.set_cons_zero, List.set_cons_succ]
        refine wpAnyM_done (by kernel_rfl) (fun w8 hw8 => ?_) _
        have HLB8 := Lib.hid (hw8.heap hlb8 (by simp)); have HRD8 := Lib.hid (hrd8.only hw8 (Nat.le_of_lt hsz8)); have HOW8 := Lib.hid (how8.then (hw8.mono (by simp)))
        have HSZ8 := Lib.hid (Nat.lt_of_lt_of_le hsz8 hw8.size)
        clear ho7 hlb7 c3 fz hlb8 hos hrd8 how8 hsz8 hw8 hw7 l0 l1 l2 hl0 hl1 hl2 hl3 hsz6 HLEFT HLB6 HRD6 HOW6 w1' w2' w3'
        have hT8 := HPT5.out.only HOW8.out (by have := HORD.out; simp; omega)
        have hE8 := HOW8.out.heap HB5.out (by have := HORD.out; simp; omega)
        have hP8 := HPB5.out.only HOW8.out (by have := HORD.out; simp; omega)
        have hO8 := HON5.out.trans (S := []) HOW8.out (by simp) (by have := HORD.out; have := HH.out; simp; omega)
        have hl3 : w8.cell? ⟨Lb, 3, none⟩ = some (.int .i64 ((T : Int) - (A : Int) - (B : Int) - (C : Int))) := by rw [cell_of_row _ _ _ _ _ _ HLB8.out]; rfl
        have HERR := Lib.hid (cur.err_c w8 B0 Lb r E R HRD8.out)
        have HO8 := Lib.hid hO8; have HT8 := Lib.hid hT8; have HE8 := Lib.hid hE8; have HP8 := Lib.hid hP8
        clear hT8 hE8 hP8 hO8
        by_cases hE0 : E = 0
        · subst hE0
          by_cases hsum : T < A + B + C
          · have hS := HS4.out
            rw [if_pos (.inr hsum)] at hS
            subst hS
            have hneg : (T : Int) - (A : Int) - (B : Int) - (C : Int) < 0 := by omega
            --@9
            go_wp2_with (first | (go_at_call 32; refine HERR.out.mono ?_; rintro e w' ⟨rfl, rfl⟩))
            go_ret2
            exact ⟨_, rfl, OV.nil _ _ _, HO8.out⟩
          · have hS := HS4.out
            rw [if_neg (by rintro (h | h); exact h rfl; exact hsum h)] at hS
            have HS5 := Lib.hid hS
            have hneg : ¬ ((T : Int) - (A : Int) - (B : Int) - (C : Int) < 0) := by omega
            clear hS HS4
            --@10
            go_wp2_with (first | (go_at_call 32; refine HERR.out.mono ?_; rintro e w' ⟨rfl, rfl⟩))
            --@11
            clear hl3 hneg HERR
            obtain ⟨Z, hZ⟩ : ∃ Z, w8.heap.size = Z := ⟨_, rfl⟩
            have HZ := Lib.hid hZ
            clear hZ
            go_loopw [15, 16, 17, 18, 71] (fun al _ _ _ i wx => ∃ j : Nat, j ≤ 4 ∧ i = .int .i64 (j : Int) ∧ (d4 L d R A B C n j).2 = 0 ∧ OV wx Z 5 al ((d4 L d R A B C n j).1.map u8v) ∧ cur.RD wx B0 Lb r 0 (R.drop (off A B C T j)) ∧ Only [r] w8 wx) (fun _ _ _ _ i _ => 4 - (intOf i).toNat)
            case atStart => exact ⟨0, by omega, rfl, rfl, OV.nil _ _ _, HRD8.out, Only.refl _ _⟩
            case round =>
              obtain ⟨j, hj, rfl, hd0, hov, hrd, how⟩ := hrel
              by_cases hj4 : j < 4
              · obtain ⟨hf1, hf2, hf3⟩ := off_next (a := A) (b := B) (c := C) (T := T) (by omega) hj4
                obtain ⟨hc1, hc2, hc3⟩ := HCN.out j hmay hj4
                have hLg := lnA_get A B C T j hj4
                have hEg := HPG.out j hj4
                obtain ⟨lj, hlj⟩ : ∃ lj, off A B C T (j + 1) - off A B C T j = lj := ⟨_, rfl⟩
                obtain ⟨mj, hmj⟩ : ∃ mj, cut n (j + 1) - cut n j = mj := ⟨_, rfl⟩
                rw [hlj] at hf3
                rw [hmj] at hc3
                rw [← hf3] at hLg
                rw [← hc3] at hEg
                have hrl : (R.drop (off A B C T j)).length = T - off A B C T j := by rw [List.length_drop, HT.out]
                have hpe : (R.drop (off A B C T j)).take lj = pc4 R A B C j := by unfold pc4; rw [HT.out, hlj]
                have hpl : (pc4 R A B C j).length ≤ 100000 := by rw [← hpe, List.length_take]; omega
                have hrb : Cur.rbytes (R.drop (off A B C T j)) 0 (lj : Int) = (R.drop (off A B C T (j + 1)), 0, pc4 R A B C j) := by
                  simp only [Cur.rbytes, Cur.rtake]
                  rw [if_neg (by simp), if_neg (by simp), if_neg (by omega), Int.toNat_natCast, hpe, List.drop_drop]
                  congr 2; omega
                have hmj2 : mj ≤ 1000 := by omega
                obtain ⟨X, hX⟩ : ∃ X, sdec L d (pc4 R A B C j) mj = X := ⟨_, rfl⟩
                have hnext := fun h => d4_next (L := L) (d := d) (R := R) (a := A) (b := B) (c := C) (n := n) (i := j) hd0 h
                have hstop := fun h => d4_stop (L := L) (d := d) (R := R) (a := A) (b := B) (c := C) (n := n) (i := j) hd0 h (3 - j)
                rw [show j + 1 + (3 - j) = 4 by omega] at hstop
                simp only [hmj, hX] at hnext hstop
                obtain ⟨LC, hLC⟩ : ∃ LC, lnA A B C T = LC := ⟨_, rfl⟩
                obtain ⟨EC, hEC⟩ : ∃ EC : Array Value, #[.int .i64 (k : Nat), .int .i64 (k : Nat), .int .i64 (k : Nat), .int .i64 ((n : Int) - 3 * (k : Int))] = EC := ⟨_, rfl⟩
                rw [hLC] at hLg
                rw [hEC] at hEg
                have hSd : SDec Tb Lb Eb lg F NN LC EC wr := ⟨HT8.out.only how (by have := HORD.out; simp; omega), by rw [← hLC]; exact how.heap HLB8.out (by have := HORD.out; simp; omega), by rw [← hEC]; exact how.heap HE8.out (by have := HORD.out; simp; omega)⟩
                have hSd : SDec Tb Lb Eb lg F NN LC EC wr.drew := hSd
                have HLF : Hid (∀ x, SDec Tb Lb Eb lg F NN LC EC x → x.cell? ⟨Lb, j, none⟩ = some (.int .i64 (lj : Int))) := Lib.hid fun x h => by rw [cell_of_row _ _ _ _ _ _ h.2.1]; exact hLg
                have HEF : Hid (∀ x, SDec Tb Lb Eb lg F NN LC EC x → x.cell? ⟨Eb, j, none⟩ = some (.int .i64 (mj : Int))) := Lib.hid fun x h => by rw [cell_of_row _ _ _ _ _ _ h.2.2]; exact hEg
                have hszx : Z ≤ wr.heap.size := by have := how.size; have := HZ.out; omega
                have hLbZ : Lb < Z := by have := HSZ8.out; have := HZ.out; omega
                have hby := cur.bytes_c wr.drew B0 Lb r 0 (lj : Int) _ (hrd.only (Only.refl [] wr).drew (by omega))
                simp only [hrb] at hby
                have HBY := Lib.hid hby; have HSd := Lib.hid hSd; have HX := Lib.hid hX; have HPCL := Lib.hid hpl; have HMJ := Lib.hid hmj2; have HNEXT := Lib.hid hnext; have HSTOP := Lib.hid hstop
                have HPBd := Lib.hid ((HP8.out.only how (by have := HORD.out; simp; omega)).only (Only.refl [] wr).drew (by simp))
                have HOVx := Lib.hid hov; have HOWx := Lib.hid how; have HD0 := Lib.hid hd0
                have hj4I : (j : Int) < 4 := by omega
                have HLbZ := Lib.hid hLbZ; have HSZX := Lib.hid hszx
                have hdl := d4_len L d R A B C n (by rw [HK.out]; exact hmay) j (by omega)
                have HDL := Lib.hid (show (d4 L d R A B C n j).1.length ≤ 1000 by omega)
                clear hby hSd hX hpl hmj2 hnext hstop hov how hrd hd0 hLC hEC hLg hEg hrb hpe hrl hf1 hf2 hf3 hc1 hc2 hc3 hlj hmj hLbZ hszx hdl
                go_upto_region 23 with fail
                --@12
                refine wp_region_H (SDec Tb Lb Eb lg F NN LC EC) (by kernel_rfl) ?_
                change wpAnyH _ _ _ _ _ _ _ _ (World.drew _)
                --<C
                refine wpAnyHh_take (i := 0) (oi := { dst := some 75, op := .load 41 (.tmp 8), type := 41, pos := "huff.go:119", after := #[], guard := none }) rfl (by kernel_rfl) (by kernel_rfl) (by kernel_rfl) (⟨YieldsIf.row (by rfl) 41 (.tmp 8) rfl Tb (by rfl) _ _ _ _ (fun w h => h.1) Try.underlying41 rfl (by kernel_rfl), HSd.out⟩) (by exact fun _ _ _ h => h) ?_
                try simp only [Act.put, List.setIfInBounds_toArray, List.set_cons_zero, List.set_cons_succ]
                refine wpAnyHh_take (i := 1) (oi := { dst := some 76, op := .move (.tmp 12), type := 58, pos := "huff.go:119", after := #[], guard := none }) rfl (by kernel_rfl) (by kernel_rfl) (by kernel_rfl) (⟨YieldsIf.val (by rfl) (by intro x hS; have l1 := HLF.out x hS; have l2 := HEF.out x hS; first | (go_simp; first | done | rfl) | (unfold execOp; simp only [Sem.run_bind]; go_simp; first | done | rfl)), HSd.out⟩) (by exact fun _ _ _ h => h) ?_
                try simp only [Act.put, List.setIfInBounds_toArray, List.set_cons_zero, List.set_cons_succ]
                refine wpAnyHh_take (i := 2) (oi := { dst := some 77, op := .move (.tmp 16), type := 3, pos := "huff.go:119", after := #[], guard := none }) rfl (by kernel_rfl) (by kernel_rfl) (by kernel_rfl) (⟨YieldsIf.val (by rfl) (by intro x hS; have l1 := HLF.out x hS; have l2 := HEF.out x hS; first | (go_simp; first | done | rfl) | (unfold execOp; simp only [Sem.run_bind]; go_simp; first | done | rfl)), HSd.out⟩) (by exact fun _ _ _ h => h) ?_
                try simp only [Act.put, List.setIfInBounds_toArray, List.set_cons_zero, List.set_cons_succ]
                refine wpAnyHh_take (i := 3) (oi := { dst := some 78, op := .indexAddr 45 (.tmp 13) (.tmp 77), type := 0, pos := "huff.go:119", after := #[{ on := 2, ground := .data }], guard := none }) rfl (by kernel_rfl) (by kernel_rfl) (by kernel_rfl) (⟨YieldsIf.val (by rfl) (by intro x hS; have l1 := HLF.out x hS; have l2 := HEF.out x hS; first | (go_simp; first | done | rfl) | (unfold execOp; simp only [Sem.run_bind]; go_simp; first | done | rfl)), HSd.out⟩) (by exact fun _ _ _ h => h) ?_
                try simp only [Act.put, List.setIfInBounds_toArray, List.set_cons_zero, List.set_cons_succ]
                refine wpAnyHh_take (i := 4) (oi := { dst := some 79, op := .load 3 (.tmp 78), type := 3, pos := "huff.go:119", after := #[{ on := 3, ground := .data }], guard := none }) rfl (by kernel_rfl) (by kernel_rfl) (by kernel_rfl) (⟨YieldsIf.val (by rfl) (by intro x hS; have l1 := HLF.out x hS; have l2 := HEF.out x hS; first | (go_simp; first | done | rfl) | (unfold execOp; simp only [Sem.run_bind]; go_simp; first | done | rfl)), HSd.out⟩) (by exact fun _ _ _ h => h) ?_
                try simp only [Act.put, List.setIfInBounds_toArray, List.set_cons_zero, List.set_cons_succ]
                refine wpAnyHh_take (i := 6) (oi := { dst := some 81, op := .move (.tmp 16), type := 3, pos := "huff.go:119", after := #[], guard := none }) rfl (by kernel_rfl) (by kernel_rfl) (by kernel_rfl) (⟨YieldsIf.val (by rfl) (by intro x hS; have l1 := HLF.out x hS; have l2 := HEF.out x hS; first | (go_simp; first | done | rfl) | (unfold execOp; simp only [Sem.run_bind]; go_simp; first | done | rfl)), HSd.out⟩) (by exact fun _ _ _ h => h) ?_
                try simp only [Act.put, List.setIfInBounds_toArray, List.set_cons_zero, List.set_cons_succ]
                refine wpAnyHh_take (i := 7) (oi := { dst := some 82, op := .indexAddr 45 (.tmp 10) (.tmp 81), type := 0, pos := "huff.go:119", after := #[{ on := 6, ground := .data }], guard := none }) rfl (by kernel_rfl) (by kernel_rfl) (by kernel_rfl) (⟨YieldsIf.val (by rfl) (by intro x hS; have l1 := HLF.out x hS; have l2 := HEF.out x hS; first | (go_simp; first | done | rfl) | (unfold execOp; simp only [Sem.run_bind]; go_simp; first | done | rfl)), HSd.out⟩) (by exact fun _ _ _ h => h) ?_
                try simp only [Act.put, List.setIfInBounds_toArray, List.set_cons_zero, List.set_cons_succ]
                refine wpAnyHh_take (i := 8) (oi := { dst := some 83, op := .load 3 (.tmp 82), type := 3, pos := "huff.go:119", after := #[{ on := 7, ground := .data }], guard := none }) rfl (by kernel_rfl) (by kernel_rfl) (by kernel_rfl) (⟨YieldsIf.val (by rfl) (by intro x hS; have l1 := HLF.out x hS; have l2 := HEF.out x hS; first | (go_simp; first | done | rfl) | (unfold execOp; simp only [Sem.run_bind]; go_simp; first | done | rfl)), HSd.out⟩) (by exact fun _ _ _ h => h) ?_
                try simp only [Act.put, List.setIfInBounds_toArray, List.set_cons_zero, List.set_cons_succ]
                --@h1
                refine wpAnyHh_one (i := 5) (o := { dst := some 80, op := .call { callee := Callee.value (.func 33), args := #[.tmp 76, .tmp 79], argTypes := #[58, 3] }, type := 22, pos := "huff.go:119", after := #[{ on := 1, ground := .data }, { on := 4, ground := .data }], guard := none }) (by kernel_rfl) rfl (fun K hK => ?_)
                rw [if_pos (by rfl)]
                unfold Oper.wp execOp
                go_simp
                --@h2
                refine HBY.out.mono ?_
                rintro e w9 ⟨pv, rfl, hrd9, hbo9, ho9⟩
                have HSy := Lib.hid (show SDec Tb Lb Eb lg F NN LC EC w9 from ⟨ho9.heap HSd.out.1 (by have := HORD.out; simp; omega), ho9.heap HSd.out.2.1 (by have := HORD.out; simp; omega), ho9.heap HSd.out.2.2 (by have := HORD.out; simp; omega)⟩)
                have HRD9 := Lib.hid hrd9; have HO9 := Lib.hid ho9
                have hpv := hbo9.1
                obtain ⟨pa, pcp, hpe, -, -⟩ := id hpv
                have hdc := decode_c w9 L d HG.out lg F NN HLG.out HNN.out (HPBd.out.only ho9 (by have := HORD.out; simp; omega)) _ _ hpv (by have := HPCL.out; omega) mj (by have := HMJ.out; omega)
                rw [HX.out] at hdc
                rw [hpe] at hdc ⊢
                have HDC := Lib.hid hdc
                clear hrd9 hbo9 ho9 hpv hpe hdc
                refine hK _ _ HSy.out ?_
                clear hK K
                try simp only [Act.put, List.setIfInBounds_toArray, List.set_cons_zero, List.set_cons_succ]
                --@h3
                refine wpAnyHh_one (i := 9) (o := { dst := some 84, op := .call { callee := Callee.value (.func 21), args := #[.tmp 75, .tmp 80, .tmp 83], argTypes := #[41, 22, 3] }, type := 26, pos := "huff.go:119", after := #[{ on := 0, ground := .data }, { on := 5, ground := .data }, { on := 8, ground := .data }, { on := 5, ground := .chain }], guard := none }) (by kernel_rfl) rfl (fun K hK => ?_)
                rw [if_pos (by rfl)]
                unfold Oper.wp execOp
                go_simp
                --@h4
                refine HDC.out.mono ?_
                rintro e w10 ⟨sv', rfl, hov10, ho10⟩
                have HSz := Lib.hid (show SDec Tb Lb Eb lg F NN LC EC w10 from ⟨ho10.heap HSy.out.1 (by simp), ho10.heap HSy.out.2.1 (by simp), ho10.heap HSy.out.2.2 (by simp)⟩)
                have HOV10 := Lib.hid hov10; have HO10 := Lib.hid ho10
                clear hov10 ho10
                refine hK _ _ HSz.out ?_
                clear hK K
                try simp only [Act.put, List.setIfInBounds_toArray, List.set_cons_zero, List.set_cons_succ]
                refine wpAnyHh_take (i := 10) (oi := { dst := some 74, op := .move (.tmp 84), type := 26, pos := "huff.go:119", after := #[{ on := 9, ground := .data }], guard := none }) rfl (by kernel_rfl) (by kernel_rfl) (by kernel_rfl) (⟨YieldsIf.val (by rfl) (by intro x hS; first | (go_simp; first | done | rfl) | (unfold execOp; simp only [Sem.run_bind]; go_simp; first | done | rfl)), HSz.out⟩) (by exact fun _ _ _ h => h) ?_
                try simp only [Act.put, List.setIfInBounds_toArray, List.set_cons_zero, List.set_cons_succ]
                refine wpAnyHh_take (i := 11) (oi := { dst := some 85, op := .extract (.tmp 74) 0, type := 22, pos := "huff.go:119", after := #[{ on := 10, ground := .data }], guard := none }) rfl (by kernel_rfl) (by kernel_rfl) (by kernel_rfl) (⟨YieldsIf.val (by rfl) (by intro x hS; first | (go_simp; first | done | rfl) | (unfold execOp; simp only [Sem.run_bind]; go_simp; first | done | rfl)), HSz.out⟩) (by exact fun _ _ _ h => h) ?_
                try simp only [Act.put, List.setIfInBounds_toArray, List.set_cons_zero, List.set_cons_succ]
                refine wpAnyHh_take (i := 12) (oi := { dst := some 86, op := .extract (.tmp 74) 1, type := 25, pos := "huff.go:119", after := #[{ on := 10, ground := .data }, { on := 13, ground := .gcOnly Departure.lateStores }], guard := none }) rfl (by kernel_rfl) (by kernel_rfl) (by kernel_rfl) (⟨YieldsIf.val (by rfl) (by intro x hS; first | (go_simp; first | done | rfl) | (unfold execOp; simp only [Sem.run_bind]; go_simp; first | done | rfl)), HSz.out⟩) (by exact fun _ _ _ h => h) ?_
                try simp only [Act.put, List.setIfInBounds_toArray, List.set_cons_zero, List.set_cons_succ]
                refine wpAnyHh_take (i := 13) (oi := { dst := some 17, op := .assign (.tmp 85), type := 22, pos := "huff.go:119", after := #[{ on := 11, ground := .data }, { on := 9, ground := .chain }, { on := 0, ground := .phase }, { on := 1, ground := .phase }, { on := 2, ground := .phase }, { on := 3, ground := .phase }, { on := 4, ground := .phase }, { on := 5, ground := .phase }, { on := 6, ground := .phase }, { on := 7, ground := .phase }, { on := 8, ground := .phase }, { on := 9, ground := .phase }, { on := 10, ground := .phase }, { on := 11, ground := .phase }, { on := 12, ground := .textOnly Departure.lateStores }], guard := none }) rfl (by kernel_rfl) (by kernel_rfl) (by kernel_rfl) (⟨YieldsIf.val (by rfl) (by intro x hS; first | (go_simp; first | done | rfl) | (unfold execOp; simp only [Sem.run_bind]; go_simp; first | done | rfl)), HSz.out⟩) (by exact fun _ _ _ h => h) ?_
                try simp only [Act.put, List.setIfInBounds_toArray, List.set_cons_zero, List.set_cons_succ]
                refine wpAnyHh_take (i := 14) (oi := { dst := some 18, op := .assign (.tmp 86), type := 25, pos := "huff.go:119", after := #[{ on := 12, ground := .data }, { on := 13, ground := .chain }, { on := 0, ground := .phase }, { on := 1, ground := .phase }, { on := 2, ground := .phase }, { on := 3, ground := .phase }, { on := 4, ground := .phase }, { on := 5, ground := .phase }, { on := 6, ground := .phase }, { on := 7, ground := .phase }, { on := 8, ground := .phase }, { on := 9, ground := .phase }, { on := 10, ground := .phase }, { on := 11, ground := .phase }, { on := 12, ground := .phase }, { on := 13, ground := .phase }], guard := none }) rfl (by kernel_rfl) (by kernel_rfl) (by kernel_rfl) (⟨YieldsIf.val (by rfl) (by intro x hS; first | (go_simp; first | done | rfl) | (unfold execOp; simp only [Sem.run_bind]; go_simp; first | done | rfl)), HSz.out⟩) (by exact fun _ _ _ h => h) ?_
                try simp only [Act.put, List.setIfInBounds_toArray, List.set_cons_zero, List.set_cons_succ]
                refine wpAnyH_end (by kernel_rfl) ?_ _
                --C>
                --@15
                have how10 : Only [r] w8 w10 := ((HOWx.out.drew).then HO9.out).then (HO10.out.mono (by simp))
                have hrd10 := HRD9.out.only HO10.out (by have := HSZX.out; have := HLbZ.out; have := HO9.out.size; simp at this; omega)
                have hov10 := ((HOVx.out.only (Only.refl [] wr).drew (by simp)).only HO9.out (fun c hc => by have := (HOVx.out.lt hc).1; have := HLbZ.out; have := HORD.out; simp; omega)).only HO10.out (by simp)
                have hsz10 : Z ≤ w10.heap.size := by have := how10.size; have := HZ.out; omega
                have hsv10 := HOV10.out
                obtain ⟨X1, X2⟩ := X
                have HOWt := Lib.hid how10; have HRDt := Lib.hid hrd10
                by_cases hX2 : X2 = 0
                · subst hX2
                  have hnx := HNEXT.out rfl
                  obtain ⟨sa, sc, hse, hsc1, hsc2⟩ := hsv10.slice
                  simp only [] at hsv10 hse hnx
                  have hxl : X1.length ≤ 1000 := by
                    have h := sdec_len L d (pc4 R A B C j) mj
                    rw [HX.out] at h
                    have := HMJ.out
                    simp only [] at h
                    omega
                  have hvs := hsv10.vs
                  obtain ⟨xl, hxle⟩ : ∃ xl, X1.length = xl := ⟨_, rfl⟩
                  rw [List.length_map, hxle] at hse
                  subst hse
                  obtain ⟨i0, hi, hz0, hz1, hz2⟩ := info_parts bit.info_u8
                  obtain ⟨al', w11, hrun, hov11, hg11⟩ := run_append_vs (P := Try.prog) (ty := 22) Try.underlying22 hi hz0 hz1 hz2 rfl hov10 hvs (bit.u8s_one _) (by simp only [List.length_map, maxLen]; have := HDL.out; omega) (by simp only [List.length_map]; have := HDL.out; omega) hsz10
                  have ho11 : Only u15.ownBlock.toList w10 w11 := Only.of_grown hg11
                  have hmem : ∀ c, c ∈ u15.ownBlock.toList → Z ≤ c := fun c hc => (hov10.lt (by simpa using hc)).1
                  have hrd11 := HRDt.out.kept (w' := w11) (fun k h1 h2 => ho11.block k (by have := HLbZ.out; omega) (fun hm => by have := hmem k hm; have := HLbZ.out; omega))
                  have how11 := HOWt.out.trans (S := [r]) ho11 (by simp) (fun c hc => .inr (by have := hmem c hc; have := HZ.out; omega))
                  rw [← List.map_append] at hov11
                  have HOV11 := Lib.hid hov11; have HRD11 := Lib.hid hrd11; have HOW11 := Lib.hid how11; have HRUN := Lib.hid hrun; have HNX := Lib.hid hnx
                  clear hrun hov11 hg11 ho11 hmem hrd11 how11 hi hz0 hz1 hz2 hvs hsv10 hov10 how10 hrd10 hnx HOV10 HO9 HO10 HRD9 HSy HSz HDC HBY HSd HPBd
                  --@16
                  go_wp2_with (at_builtin; refine wpList_append_run rfl _ _ _ rfl rfl rfl HRUN.out ?_)
                  go_roundw
                  case rel => exact ⟨j + 1, by omega, by go_num, by rw [HNX.out], by rw [HNX.out]; exact HOV11.out, HRD11.out, HOW11.out⟩
                  case measure => simp [intOf]; omega
                · have hst := HSTOP.out hX2
                  have hS := HS5.out
                  rw [hst] at hS
                  subst hS
                  have hXb : ((X2 : Int) != 0) = true := by rw [bne_iff_ne]; exact hX2
                  have HON10 := Lib.hid (HO8.out.trans (S := []) how10 (by simp) (by have := HORD.out; have := HH.out; simp; omega))
                  clear hsv10 hov10 how10 hrd10 hst HOV10 HO9 HO10 HRD9 HSy HSz HDC HBY HSd HPBd HSTOP HNEXT
                  --@17
                  go_wp2_with fail
                  go_ret2
                  exact ⟨_, rfl, OV.nil _ _ _, HON10.out⟩
              · obtain rfl : j = 4 := by omega
                have hS := HS5.out
                obtain ⟨D1, D2⟩ : ∃ D1 D2, d4 L d R A B C n 4 = (D1, D2) := ⟨_, _, rfl⟩
                have hS2 : S = ((d4 L d R A B C n 4).1, 0) := by rw [← hS, ← hd0]
                subst hS2
                have HON10 := Lib.hid (HO8.out.trans (S := []) how (by simp) (by have := HORD.out; have := HH.out; simp; omega))
                have HOVf := Lib.hid (hov.mono (show H ≤ Z by have := HZ.out; have := HO8.out.size; have := HH.out; omega))
                clear hov hrd how hd0 D2 hS
                --@13
                go_wp2_with fail
                go_ret2
                exact ⟨u15, rfl, HOVf.out, HON10.out⟩
        · have hS := HS4.out
          rw [if_pos (.inl hE0)] at hS
          subst hS
          have hEb : ((E : Int) != 0) = true := by rw [bne_iff_ne]; exact hE0
          --@14
          go_wp2_with (first | (go_at_call 32; refine HERR.out.mono ?_; rintro e w' ⟨rfl, rfl⟩))
          go_ret2
          exact ⟨_, rfl, OV.nil _ _ _, HO8.out⟩
  · have hS := HS2.out
    rw [if_pos (by omega)] at hS
    subst hS
    rw [decide_eq_false hmay]
    --@5
    go_wp2_with fail
    go_ret2
    exact ⟨_, rfl, OV.nil _ _ _, HO2.out.alloc _⟩
end Go.Proofs.Ytfckokdgmbbheaa.huf
