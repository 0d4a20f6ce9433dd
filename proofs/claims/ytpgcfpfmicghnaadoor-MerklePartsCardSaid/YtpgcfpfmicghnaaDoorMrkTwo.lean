/-
  THE WALK of merkle.Two.
-/
import Derived.Test.YtpgcfpfmicghnaaDoorMrkOf
import Derived.Test.YtpgcfpfmicghnaaDoorMrkEqual
import Derived.Test.YtpgcfpfmicghnaaDoorMrkEqb
set_option linter.unusedVariables false
set_option linter.unusedSimpArgs false
namespace Go.Proofs.YtpgcfpfmicghnaaDoor.mrk
open Go Go.RowKit Go.Lm Go.ChangeShapes Go.WideShapes Go.Proofs.YtpgcfpfmicghnaaDoor.sha

theorem Only.later {S : List Nat} {a b : World} (h : Only S a b) (x : Later S b) : ∃ y : Later S a, y.at' = x.at' := ⟨⟨x.at', h.then x.only⟩, rfl⟩
/-- Two are to be told. -/
def twoB (xs ys : List (List UInt8)) : Bool := decide (xs.length = ys.length ∧ xs ≠ ys ∧ rootD xs = rootD ys)
def TwoP (xs ys : List (List UInt8)) (w : World) (e : Ending) (w' : World) : Prop := ∃ (x y : Value) (lx ly : List UInt8), e = .returned (.tuple #[x, y, .bool (twoB xs ys)]) ∧ BS w' x lx ∧ BS w' y ly ∧ Only [] w w' ∧
  (twoB xs ys = false → lx = [] ∧ ly = []) ∧ (twoB xs ys = true → lx ≠ ly ∧ Sha.sum lx = Sha.sum ly ∧ lx.length = 65 ∧ ly.length = 65)
theorem root_split (ds : List (List UInt8)) (h : 2 ≤ ds.length) : rootD ds = nodeD (rootD (ds.take (Mrk.top ds.length))) (rootD (ds.drop (Mrk.top ds.length))) := Mrk.root_two _ _ ds h
theorem root_alone (d : List UInt8) : rootD [d] = d := Mrk.root_one _ _ d
theorem D32.take {ds : List (List UInt8)} (h : D32 ds) (k : Nat) : D32 (ds.take k) := fun d hd => h d (List.mem_of_mem_take hd)
theorem D32.drop {ds : List (List UInt8)} (h : D32 ds) (k : Nat) : D32 (ds.drop k) := fun d hd => h d (List.mem_of_mem_drop hd)
theorem DS.d32 {w : World} {v : Value} {ds : List (List UInt8)} (h : DS w v ds) : D32 ds := h.choose_spec.choose_spec.2.2.2.2.1
theorem two_small {xs ys : List (List UInt8)} (hl : xs.length = ys.length) (h1 : ¬ 1 < xs.length) (hne : xs ≠ ys) (hr : rootD xs = rootD ys) : False := by
  match xs, ys with
  | [], [] => exact hne rfl
  | [a], [b] => rw [root_alone, root_alone] at hr; exact hne (by rw [hr])
  | [], _ :: _ => simp at hl
  | [_], [] => simp at hl
  | [_], _ :: _ :: _ => simp at hl
  | _ :: _ :: _, _ => simp at h1

set_option maxRecDepth 100000 in
set_option maxHeartbeats 4000000 in
theorem two_no (w : World) (v u : Value) (xs ys : List (List UInt8)) (hv : DS w v xs) (hu : DS w u ys) (hn : xs.length ≤ 100000) (hm : ys.length ≤ 100000) (hT : Tab w) (hZ : Tz w) (hno : twoB xs ys = false) :
    Calls Tryd.prog 25 #[v, u] w fun e w' => TwoP xs ys w e w' := by
  have HFIN : Hid (∀ w', Only [] w w' → TwoP xs ys w (.returned (.tuple #[.slice none 0 0, .slice none 0 0, .bool false])) w') := Lib.hid (fun w' ho => ⟨_, _, [], [], by rw [hno], BS.nil _, BS.nil _, ho, fun _ => ⟨rfl, rfl⟩, fun h => by rw [hno] at h; cases h⟩)
  have HV := Lib.hid hv; have HU := Lib.hid hu; have HT := Lib.hid hT; have HTZ := Lib.hid hZ; have HN := Lib.hid hn; have HM := Lib.hid hm
  have HNO := Lib.hid hno
  have hdx := root_length xs hv.d32; have hdy := root_length ys hu.d32
  obtain ⟨a, cap, rfl, k1, k2, -⟩ := hv
  obtain ⟨b, cbp, rfl, j1, j2, -⟩ := hu
  unfold maxLen at k2 j2
  obtain ⟨PP, hPP⟩ : ∃ PP, TwoP xs ys w = PP := ⟨_, rfl⟩
  rw [hPP] at HFIN ⊢
  have hneq := fun W => neq_dv (rootD xs) (rootD ys) hdx hdy W
  have hgd := fun p q W => guard_dv .neq (rootD xs) (rootD ys) p q W
  have hrx := fun (W : World) (ho : Only [] w W) => root_c W _ xs (HV.out.only ho (by simp)) hn (hT.only ho (by simp)) (hZ.only ho (by simp))
  have hry := fun (W : World) (ho : Only [] w W) => root_c W _ ys (HU.out.only ho (by simp)) hm (hT.only ho (by simp)) (hZ.only ho (by simp))
  have hbe : (rootD xs == rootD ys) = decide (rootD xs = rootD ys) := by by_cases h : rootD xs = rootD ys <;> simp [h]
  unfold dv at hneq hgd hrx hry
  obtain ⟨X, hX⟩ : ∃ X, ((rootD xs).map u8v).toArray = X := ⟨_, rfl⟩
  obtain ⟨Y, hY⟩ : ∃ Y, ((rootD ys).map u8v).toArray = Y := ⟨_, rfl⟩
  rw [hX] at hneq hgd hrx
  rw [hY] at hneq hgd hry
  have HRX := Lib.hid hrx; have HRY := Lib.hid hry
  obtain ⟨n, hnl⟩ : ∃ n, xs.length = n := ⟨_, rfl⟩
  obtain ⟨m, hml⟩ : ∃ m, ys.length = m := ⟨_, rfl⟩
  rw [hnl] at hn HV HRX k1 ⊢
  rw [hml] at hm HU HRY j1 ⊢
  have HNL := Lib.hid hnl; have HML := Lib.hid hml
  clear hX hY hrx hry hT hZ hPP hno hdx hdy hnl hml
  go_enter Tryd.func25, Tryd.ntmps25
  by_cases hnm : n = m
  · subst hnm
    go_wp2_with fail
    --@1
    refine (sleq_c w _ _ xs ys HV.out HU.out HN.out HM.out).mono ?_
    rintro e w1 ⟨rfl, ho1⟩
    have HO1 := Lib.hid ho1
    clear ho1
    by_cases hxy : xs = ys
    · rw [decide_eq_true hxy]
      go_wp2_with fail
      exact HFIN.out _ HO1.out
    · rw [decide_eq_false hxy]
      go_wp2_with fail
      --@2
      refine (HRX.out w1 HO1.out).mono ?_
      rintro e w2 ⟨rfl, ho2⟩
      have HO2 := Lib.hid (HO1.out.then ho2)
      clear ho2
      go_wp2_with fail
      refine (HRY.out w2 HO2.out).mono ?_
      rintro e w3 ⟨rfl, ho3⟩
      have HO3 := Lib.hid (HO2.out.then ho3)
      clear ho3
      have hrn : rootD xs ≠ rootD ys := fun h => by
        have := HNO.out
        unfold twoB at this
        exact of_decide_eq_false this ⟨by rw [HNL.out, HML.out], hxy, h⟩
      have hb : (rootD xs == rootD ys) = false := by rw [hbe]; exact decide_eq_false hrn
      rw [hb] at hneq
      simp only [Bool.not_false] at hneq
      go_wp2_with fail
      --@3
      exact HFIN.out _ HO3.out
  · have hnI : ¬ ((n : Int) = (m : Int)) := by omega
    go_wp2_with fail
    --@4
    exact HFIN.out _ (Only.refl [] w)

theorem shl_pow (e : Nat) (h : e < 20) (W : World) : (binOp .shl 3 (.int .i64 1) (.int .i64 (e : Nat))).run Tryd.prog W = .ok (.int .i64 ((2 ^ e : Nat) : Int)) W := by
  match e, h with
  | 0, _ | 1, _ | 2, _ | 3, _ | 4, _ | 5, _ | 6, _ | 7, _ | 8, _ | 9, _ | 10, _ | 11, _ | 12, _ | 13, _ | 14, _ | 15, _ | 16, _ | 17, _ | 18, _ | 19, _ => rfl
  | n + 20, h => exact absurd h (by omega)

set_option maxRecDepth 100000 in
set_option maxHeartbeats 8000000 in
theorem two_yes (w : World) (v u : Value) (xs ys : List (List UInt8)) (hv : DS w v xs) (hu : DS w u ys) (hn : xs.length ≤ 100000) (hT : Tab w) (hZ : Tz w) (hyes : twoB xs ys = true) :
    Calls Tryd.prog 25 #[v, u] w fun e w' => TwoP xs ys w e w' := by
  have HFIN : Hid (∀ w' x y lx ly, Only [] w w' → BS w' x lx → BS w' y ly → lx ≠ ly ∧ Sha.sum lx = Sha.sum ly ∧ lx.length = 65 ∧ ly.length = 65 → TwoP xs ys w (.returned (.tuple #[x, y, .bool true])) w') := Lib.hid (fun w' x y lx ly ho h1 h2 h3 => ⟨_, _, lx, ly, by rw [hyes], h1, h2, ho, (fun h => absurd (hyes.symm.trans h) (by simp)), fun _ => h3⟩)
  have hyes' := of_decide_eq_true hyes
  obtain ⟨hlen, hxyn, hrr⟩ := hyes'
  have HV := Lib.hid hv; have HU := Lib.hid hu; have HT := Lib.hid hT; have HTZ := Lib.hid hZ; have HN := Lib.hid hn
  have HXYN := Lib.hid hxyn; have HRR := Lib.hid hrr; have HLEN := Lib.hid hlen
  have hdx := root_length xs hv.d32; have hdy := root_length ys hu.d32
  have HM : Hid (ys.length ≤ 100000) := Lib.hid (by omega)
  obtain ⟨PP, hPP⟩ : ∃ PP, TwoP xs ys w = PP := ⟨_, rfl⟩
  rw [hPP] at HFIN ⊢
  obtain ⟨a, cap, rfl, k1, k2, -⟩ := hv
  obtain ⟨b, cbp, rfl, j1, j2, -⟩ := hu
  unfold maxLen at k2 j2
  have hneq := fun W => neq_dv (rootD xs) (rootD ys) hdx hdy W
  have hgd := fun p q W => guard_dv .neq (rootD xs) (rootD ys) p q W
  have hrx := fun (W : World) (ho : Only [] w W) => root_c W _ xs (HV.out.only ho (by simp)) hn (hT.only ho (by simp)) (hZ.only ho (by simp))
  have hry := fun (W : World) (ho : Only [] w W) => root_c W _ ys (HU.out.only ho (by simp)) HM.out (hT.only ho (by simp)) (hZ.only ho (by simp))
  have hbe : (rootD xs == rootD ys) = true := by rw [hrr]; exact beq_self_eq_true _
  rw [hbe] at hneq
  simp only [Bool.not_true] at hneq
  unfold dv at hneq hgd hrx hry
  obtain ⟨X, hX⟩ : ∃ X, ((rootD xs).map u8v).toArray = X := ⟨_, rfl⟩
  obtain ⟨Y, hY⟩ : ∃ Y, ((rootD ys).map u8v).toArray = Y := ⟨_, rfl⟩
  rw [hX] at hneq hgd hrx
  rw [hY] at hneq hgd hry
  have HRX := Lib.hid hrx; have HRY := Lib.hid hry
  obtain ⟨n, hnl⟩ : ∃ n, xs.length = n := ⟨_, rfl⟩
  have hml : ys.length = n := by omega
  rw [hnl] at hn HV HRX k1 ⊢
  rw [hml] at HU HRY j1 ⊢
  have HNL := Lib.hid hnl; have HML := Lib.hid hml
  clear hX hY hrx hry hT hZ hPP hdx hdy hnl hml hbe hyes hlen hxyn hrr hn
  go_enter Tryd.func25, Tryd.ntmps25
  go_wp2_with fail
  refine (sleq_c w _ _ xs ys HV.out HU.out HN.out HM.out).mono ?_
  rintro e w1 ⟨rfl, ho1⟩
  have HO1 := Lib.hid ho1
  clear ho1
  rw [decide_eq_false HXYN.out]
  go_wp2_with fail
  refine (HRX.out w1 HO1.out).mono ?_
  rintro e w2 ⟨rfl, ho2⟩
  have HO2 := Lib.hid (HO1.out.then ho2)
  clear ho2
  go_wp2_with fail
  refine (HRY.out w2 HO2.out).mono ?_
  rintro e w3 ⟨rfl, ho3⟩
  have HO3 := Lib.hid (HO2.out.then ho3)
  clear ho3 HO1 HO2 HRX HRY
  go_wp2_with fail
  --@5
  clear hneq hgd k1 k2 j1 j2
  go_loopw [0, 1] (fun v u wx => ∃ ps qs : List (List UInt8), DS wx v ps ∧ DS wx u qs ∧ ps.length = qs.length ∧ ps ≠ qs ∧ rootD ps = rootD qs ∧ ps.length ≤ 100000 ∧ Only [] w wx) (fun v _ _ => vlen v)
  case atStart => exact ⟨xs, ys, HV.out.only HO3.out (by simp), HU.out.only HO3.out (by simp), HLEN.out, HXYN.out, HRR.out, HN.out, HO3.out⟩
  case round =>
    clear HV HU HN HM HXYN HRR HLEN HNL HML HO3
    obtain ⟨ps, qs, hv, hu, hlen, hne, hrr, hn, ho⟩ := hrel
    have HV := Lib.hid hv; have HU := Lib.hid hu; have HN := Lib.hid hn; have HNE := Lib.hid hne; have HRR := Lib.hid hrr; have HO := Lib.hid ho
    obtain ⟨a, cap, rfl, k1, k2, -⟩ := hv
    obtain ⟨b, cbp, rfl, j1, j2, -⟩ := hu
    unfold maxLen at k2 j2
    obtain ⟨n, hnl⟩ : ∃ n, ps.length = n := ⟨_, rfl⟩
    have hml : qs.length = n := by omega
    rw [hnl] at hn HV HN k1 ⊢
    rw [hml] at HU j1 ⊢
    have HNL := Lib.hid hnl; have HML := Lib.hid hml
    have HSM : Hid (¬ 1 < n → False) := Lib.hid (fun h => two_small hlen (by rw [hnl]; exact h) hne hrr)
    clear hlen hne hrr ho hnl hml
    by_cases h2 : 1 < n
    · have h2I : (1 : Int) < (n : Int) := by omega
      obtain ⟨e, he1, he2, he3⟩ := Mrk.bitLen_top n (by omega) (by omega)
      have hkt := Mrk.top_lt n (by omega)
      obtain ⟨k, hk⟩ : ∃ k, Mrk.top n = k := ⟨_, rfl⟩
      rw [hk] at he2 hkt
      have hwk : wrap64 ((2 : Int) ^ e) = (k : Int) := by
        have h0 : ((2 : Int) ^ e) = ((2 ^ e : Nat) : Int) := by simp
        rw [h0, he2]
        exact wrap64_of _ (by omega) (by omega)
      have hbl := fun W => Tryd.bits_Len ((n - 1 : Nat) : Int) W (by omega) (by omega)
      rw [Int.toNat_natCast, he1] at hbl
      have hc1 : (n : Int) - 1 = ((n - 1 : Nat) : Int) := by omega
      have hwn : IntKind.u64.wrap ((n - 1 : Nat) : Int) = ((n - 1 : Nat) : Int) := by rw [IntKind.wrap_u64]; omega
      have hc2 : ((e + 1 : Nat) : Int) - 1 = (e : Int) := by omega
      have HBL := Lib.hid hbl; have HK := Lib.hid hk; have HE2 := Lib.hid he2
      clear hbl hk he1 he2
      go_wp2_with fail
      --@6
      refine (HBL.out _).mono ?_
      rintro e1 w4 ⟨rfl, hw4⟩
      rw [hw4]
      clear hw4 w4
      go_upto_region 5 with fail
      --@7
      have hk0 : k ≤ n := by omega
      have hsp := root_split ps (by rw [HNL.out]; omega)
      have hsq := root_split qs (by rw [HML.out]; omega)
      rw [HNL.out, HK.out] at hsp
      rw [HML.out, HK.out] at hsq
      have hrn : nodeD (rootD (ps.take k)) (rootD (ps.drop k)) = nodeD (rootD (qs.take k)) (rootD (qs.drop k)) := by rw [← hsp, ← hsq]; exact HRR.out
      clear hsp hsq
      refine wp_region_M [] (by kernel_rfl) ?_
      change wpAnyM _ _ _ _ _ _ _ _ (World.drew _)
      have HOd : Hid (Only [] w wr.drew) := Lib.hid HO.out.drew
      have HVd := Lib.hid (HV.out.only (Only.refl [] wr).drew (by simp)); have HUd := Lib.hid (HU.out.only (Only.refl [] wr).drew (by simp))
      generalize World.drew wr = wd at *
      clear HO HV HU
      have hd1 : DS wd (subd a cap 0 k) (ps.take k) := by have := HVd.out.sub 0 k (by omega) (by rw [HNL.out]; omega); simpa using this
      have hd2 : DS wd (subd a cap k n) (ps.drop k) := by have := HVd.out.sub k n (by omega) (by rw [HNL.out]; omega); rw [List.take_of_length_le (by rw [HNL.out]; omega)] at this; exact this
      have hd3 : DS wd (subd b cbp 0 k) (qs.take k) := by have := HUd.out.sub 0 k (by omega) (by rw [HML.out]; omega); simpa using this
      have hd4 : DS wd (subd b cbp k n) (qs.drop k) := by have := HUd.out.sub k n (by omega) (by rw [HML.out]; omega); rw [List.take_of_length_le (by rw [HML.out]; omega)] at this; exact this
      have hs1 := fun W : World => run_subd_h a n cap k (by omega) W
      have hs2 := fun W : World => run_subd_l a n cap k (by omega) W
      have hs3 := fun W : World => run_subd_h b n cbp k (by omega) W
      have hs4 := fun W : World => run_subd_l b n cbp k (by omega) W
      have hl1 : vlen (subd a cap 0 k) = k := by simp [subd, vlen]
      have hl2 : vlen (subd a cap k n) = n - k := by simp [subd, vlen]
      obtain ⟨X1, hX1⟩ : ∃ X, subd a cap 0 k = X := ⟨_, rfl⟩
      obtain ⟨X2, hX2⟩ : ∃ X, subd a cap k n = X := ⟨_, rfl⟩
      obtain ⟨Y1, hY1⟩ : ∃ X, subd b cbp 0 k = X := ⟨_, rfl⟩
      obtain ⟨Y2, hY2⟩ : ∃ X, subd b cbp k n = X := ⟨_, rfl⟩
      rw [hX1] at hd1 hs1 hl1; rw [hX2] at hd2 hs2 hl2; rw [hY1] at hd3 hs3; rw [hY2] at hd4 hs4
      have HS1 := Lib.hid hs1; have HS2 := Lib.hid hs2; have HS3 := Lib.hid hs3; have HS4 := Lib.hid hs4
      clear hs1 hs2 hs3 hs4
      have HD1 := Lib.hid hd1; have HD2 := Lib.hid hd2; have HD3 := Lib.hid hd3; have HD4 := Lib.hid hd4
      have HL1 := Lib.hid hl1; have HL2 := Lib.hid hl2
      have hlt1 : (ps.take k).length = k := by rw [List.length_take, HNL.out]; omega
      have hlt2 : (ps.drop k).length = n - k := by rw [List.length_drop, HNL.out]
      have hlt3 : (qs.take k).length = k := by rw [List.length_take, HML.out]; omega
      have hlt4 : (qs.drop k).length = n - k := by rw [List.length_drop, HML.out]
      have HLT : Hid (((ps.take k).length = k ∧ (ps.drop k).length = n - k) ∧ (qs.take k).length = k ∧ (qs.drop k).length = n - k) := Lib.hid ⟨⟨hlt1, hlt2⟩, hlt3, hlt4⟩
      have HPQ : Hid (¬ (ps.take k = qs.take k ∧ ps.drop k = qs.drop k)) := Lib.hid (fun h => HNE.out (by rw [← List.take_append_drop k ps, ← List.take_append_drop k qs, h.1, h.2]))
      have g1 := fun (W : World) (ho : Only [] wd W) => root_c W X1 _ (hd1.only ho (by simp)) (by rw [hlt1]; omega) (HT.out.only (HOd.out.then ho) (by simp)) (HTZ.out.only (HOd.out.then ho) (by simp))
      have g2 := fun (W : World) (ho : Only [] wd W) => root_c W X2 _ (hd2.only ho (by simp)) (by rw [hlt2]; omega) (HT.out.only (HOd.out.then ho) (by simp)) (HTZ.out.only (HOd.out.then ho) (by simp))
      have g3 := fun (W : World) (ho : Only [] wd W) => root_c W Y1 _ (hd3.only ho (by simp)) (by rw [hlt3]; omega) (HT.out.only (HOd.out.then ho) (by simp)) (HTZ.out.only (HOd.out.then ho) (by simp))
      have g4 := fun (W : World) (ho : Only [] wd W) => root_c W Y2 _ (hd4.only ho (by simp)) (by rw [hlt4]; omega) (HT.out.only (HOd.out.then ho) (by simp)) (HTZ.out.only (HOd.out.then ho) (by simp))
      have z1 := root_length _ hd1.d32; have z2 := root_length _ hd2.d32; have z3 := root_length _ hd3.d32; have z4 := root_length _ hd4.d32
      have gp := fun W : World => pair_c W _ _ z1 z2
      have gq := fun W : World => pair_c W _ _ z3 z4
      have HRN := Lib.hid hrn
      have HE : Hid (∀ W : World, Only [] wd W → Calls Tryd.prog 39 #[X1, Y1] W fun e w' => e = .returned (.bool (decide (ps.take k = qs.take k))) ∧ Only [] W w') := Lib.hid (fun W ho => sleq_c W X1 Y1 _ _ (hd1.only ho (by simp)) (hd3.only ho (by simp)) (by rw [hlt1]; omega) (by rw [hlt3]; omega))
      have HRQ : Hid ((rootD (ps.take k) = rootD (ps.take k) ∧ rootD (ps.drop k) = rootD (ps.drop k)) ∧ rootD (qs.take k) = rootD (qs.take k) ∧ rootD (qs.drop k) = rootD (qs.drop k)) := Lib.hid ⟨⟨rfl, rfl⟩, rfl, rfl⟩
      obtain ⟨P1, hP1⟩ : ∃ P, rootD (ps.take k) = P := ⟨_, rfl⟩
      obtain ⟨P2, hP2⟩ : ∃ P, rootD (ps.drop k) = P := ⟨_, rfl⟩
      obtain ⟨Q1, hQ1⟩ : ∃ P, rootD (qs.take k) = P := ⟨_, rfl⟩
      obtain ⟨Q2, hQ2⟩ : ∃ P, rootD (qs.drop k) = P := ⟨_, rfl⟩
      rw [hP1] at z1 g1 gp HRN; rw [hP2] at z2 g2 gp HRN; rw [hQ1] at z3 g3 gq HRN; rw [hQ2] at z4 g4 gq HRN
      have HZ : Hid (((P1.length = 32 ∧ P2.length = 32) ∧ Q1.length = 32 ∧ Q2.length = 32)) := Lib.hid ⟨⟨z1, z2⟩, z3, z4⟩
      have HPE := Lib.hid hP1; have HPF := Lib.hid hP2; have HQE := Lib.hid hQ1; have HQF := Lib.hid hQ2
      unfold dv at g1 g2 g3 g4 gp gq
      obtain ⟨A1, hA1⟩ : ∃ A, (P1.map u8v).toArray = A := ⟨_, rfl⟩
      obtain ⟨A2, hA2⟩ : ∃ A, (P2.map u8v).toArray = A := ⟨_, rfl⟩
      obtain ⟨B1, hB1⟩ : ∃ A, (Q1.map u8v).toArray = A := ⟨_, rfl⟩
      obtain ⟨B2, hB2⟩ : ∃ A, (Q2.map u8v).toArray = A := ⟨_, rfl⟩
      rw [hA1] at g1 gp; rw [hA2] at g2 gp; rw [hB1] at g3 gq; rw [hB2] at g4 gq
      have H1 := Lib.hid g1; have H2 := Lib.hid g2; have H3 := Lib.hid g3; have H4 := Lib.hid g4; have HP1 := Lib.hid gp; have HP2 := Lib.hid gq
      clear g1 g2 g3 g4 gp gq z1 z2 z3 z4 hA1 hA2 hB1 hB2 hP1 hP2 hQ1 hQ2 hd1 hd2 hd3 hd4 hlt1 hlt2 hlt3 hlt4 hl1 hl2 hrn hX1 hX2 hY1 hY2 HRQ HVd HUd HNE
      --@8
      refine wpAnyM_take (i := 0) (oi := { dst := some 37, op := .move (.tmp 0), type := 22, pos := "merkle.go:110", after := #[], guard := none }) rfl (by kernel_rfl) (by kernel_rfl) (by kernel_rfl) (YieldsOn.pure (by rfl) (by intro x; first | (go_simp; first | done | rfl) | (unfold execOp; simp only [Sem.run_bind]; go_simp; first | done | rfl))) (by exact fun _ _ _ h => h) ?_
      try simp only [Act.put, List.setIfInBounds_toArray, List.set_cons_zero, List.set_cons_succ]
      refine wpAnyM_take (i := 1) (oi := { dst := some 38, op := .move (.tmp 7), type := 3, pos := "merkle.go:110", after := #[], guard := none }) rfl (by kernel_rfl) (by kernel_rfl) (by kernel_rfl) (YieldsOn.pure (by rfl) (by intro x; first | (go_simp; first | done | rfl) | (unfold execOp; simp only [Sem.run_bind]; go_simp; first | done | rfl))) (by exact fun _ _ _ h => h) ?_
      try simp only [Act.put, List.setIfInBounds_toArray, List.set_cons_zero, List.set_cons_succ]
      refine wpAnyM_take (i := 2) (oi := { dst := some 39, op := .slice 22 (.tmp 37) none (some (.tmp 38)) none, type := 22, pos := "merkle.go:110", after := #[{ on := 0, ground := .data }, { on := 1, ground := .data }], guard := none }) rfl (by kernel_rfl) (by kernel_rfl) (by kernel_rfl) (YieldsOn.slice (by rfl) (by rfl) rfl Tryd.underlying22 (by rfl) (by rfl) (by rfl) HS1.out) (by exact fun _ _ _ h => h) ?_
      try simp only [Act.put, List.setIfInBounds_toArray, List.set_cons_zero, List.set_cons_succ]
      refine wpAnyM_take (i := 3) (oi := { dst := some 40, op := .call { callee := Callee.value (.func 11), args := #[.tmp 39], argTypes := #[22] }, type := 25, pos := "merkle.go:110", after := #[{ on := 2, ground := .data }], guard := none }) rfl (by kernel_rfl) (by kernel_rfl) (by kernel_rfl) (YieldsOn.call (by rfl) (by rfl) (by intro x; go_simp; first | done | rfl | exact ⟨rfl, rfl⟩) (fun x => H1.out _ x.only)) (by exact fun _ _ _ h => h) ?_
      try simp only [Act.put, List.setIfInBounds_toArray, List.set_cons_zero, List.set_cons_succ]
      refine wpAnyM_take (i := 4) (oi := { dst := some 41, op := .move (.tmp 0), type := 22, pos := "merkle.go:110", after := #[], guard := none }) rfl (by kernel_rfl) (by kernel_rfl) (by kernel_rfl) (YieldsOn.pure (by rfl) (by intro x; first | (go_simp; first | done | rfl) | (unfold execOp; simp only [Sem.run_bind]; go_simp; first | done | rfl))) (by exact fun _ _ _ h => h) ?_
      try simp only [Act.put, List.setIfInBounds_toArray, List.set_cons_zero, List.set_cons_succ]
      refine wpAnyM_take (i := 5) (oi := { dst := some 42, op := .move (.tmp 7), type := 3, pos := "merkle.go:110", after := #[], guard := none }) rfl (by kernel_rfl) (by kernel_rfl) (by kernel_rfl) (YieldsOn.pure (by rfl) (by intro x; first | (go_simp; first | done | rfl) | (unfold execOp; simp only [Sem.run_bind]; go_simp; first | done | rfl))) (by exact fun _ _ _ h => h) ?_
      try simp only [Act.put, List.setIfInBounds_toArray, List.set_cons_zero, List.set_cons_succ]
      refine wpAnyM_take (i := 6) (oi := { dst := some 43, op := .slice 22 (.tmp 41) (some (.tmp 42)) none none, type := 22, pos := "merkle.go:110", after := #[{ on := 4, ground := .data }, { on := 5, ground := .data }], guard := none }) rfl (by kernel_rfl) (by kernel_rfl) (by kernel_rfl) (YieldsOn.slice (by rfl) (by rfl) rfl Tryd.underlying22 (by rfl) (by rfl) (by rfl) HS2.out) (by exact fun _ _ _ h => h) ?_
      try simp only [Act.put, List.setIfInBounds_toArray, List.set_cons_zero, List.set_cons_succ]
      refine wpAnyM_take (i := 7) (oi := { dst := some 44, op := .call { callee := Callee.value (.func 11), args := #[.tmp 43], argTypes := #[22] }, type := 25, pos := "merkle.go:110", after := #[{ on := 6, ground := .data }, { on := 3, ground := .chain }], guard := none }) rfl (by kernel_rfl) (by kernel_rfl) (by kernel_rfl) (YieldsOn.call (by rfl) (by rfl) (by intro x; go_simp; first | done | rfl | exact ⟨rfl, rfl⟩) (fun x => H2.out _ x.only)) (by exact fun _ _ _ h => h) ?_
      try simp only [Act.put, List.setIfInBounds_toArray, List.set_cons_zero, List.set_cons_succ]
      refine wpAnyM_take (i := 9) (oi := { dst := some 46, op := .move (.tmp 1), type := 22, pos := "merkle.go:110", after := #[], guard := none }) rfl (by kernel_rfl) (by kernel_rfl) (by kernel_rfl) (YieldsOn.pure (by rfl) (by intro x; first | (go_simp; first | done | rfl) | (unfold execOp; simp only [Sem.run_bind]; go_simp; first | done | rfl))) (by exact fun _ _ _ h => h) ?_
      try simp only [Act.put, List.setIfInBounds_toArray, List.set_cons_zero, List.set_cons_succ]
      refine wpAnyM_take (i := 10) (oi := { dst := some 47, op := .move (.tmp 7), type := 3, pos := "merkle.go:110", after := #[], guard := none }) rfl (by kernel_rfl) (by kernel_rfl) (by kernel_rfl) (YieldsOn.pure (by rfl) (by intro x; first | (go_simp; first | done | rfl) | (unfold execOp; simp only [Sem.run_bind]; go_simp; first | done | rfl))) (by exact fun _ _ _ h => h) ?_
      try simp only [Act.put, List.setIfInBounds_toArray, List.set_cons_zero, List.set_cons_succ]
      refine wpAnyM_take (i := 11) (oi := { dst := some 48, op := .slice 22 (.tmp 46) none (some (.tmp 47)) none, type := 22, pos := "merkle.go:110", after := #[{ on := 9, ground := .data }, { on := 10, ground := .data }], guard := none }) rfl (by kernel_rfl) (by kernel_rfl) (by kernel_rfl) (YieldsOn.slice (by rfl) (by rfl) rfl Tryd.underlying22 (by rfl) (by rfl) (by rfl) HS3.out) (by exact fun _ _ _ h => h) ?_
      try simp only [Act.put, List.setIfInBounds_toArray, List.set_cons_zero, List.set_cons_succ]
      refine wpAnyM_take (i := 13) (oi := { dst := some 50, op := .move (.tmp 1), type := 22, pos := "merkle.go:110", after := #[], guard := none }) rfl (by kernel_rfl) (by kernel_rfl) (by kernel_rfl) (YieldsOn.pure (by rfl) (by intro x; first | (go_simp; first | done | rfl) | (unfold execOp; simp only [Sem.run_bind]; go_simp; first | done | rfl))) (by exact fun _ _ _ h => h) ?_
      try simp only [Act.put, List.setIfInBounds_toArray, List.set_cons_zero, List.set_cons_succ]
      refine wpAnyM_take (i := 14) (oi := { dst := some 51, op := .move (.tmp 7), type := 3, pos := "merkle.go:110", after := #[], guard := none }) rfl (by kernel_rfl) (by kernel_rfl) (by kernel_rfl) (YieldsOn.pure (by rfl) (by intro x; first | (go_simp; first | done | rfl) | (unfold execOp; simp only [Sem.run_bind]; go_simp; first | done | rfl))) (by exact fun _ _ _ h => h) ?_
      try simp only [Act.put, List.setIfInBounds_toArray, List.set_cons_zero, List.set_cons_succ]
      refine wpAnyM_take (i := 15) (oi := { dst := some 52, op := .slice 22 (.tmp 50) (some (.tmp 51)) none none, type := 22, pos := "merkle.go:110", after := #[{ on := 13, ground := .data }, { on := 14, ground := .data }], guard := none }) rfl (by kernel_rfl) (by kernel_rfl) (by kernel_rfl) (YieldsOn.slice (by rfl) (by rfl) rfl Tryd.underlying22 (by rfl) (by rfl) (by rfl) HS4.out) (by exact fun _ _ _ h => h) ?_
      try simp only [Act.put, List.setIfInBounds_toArray, List.set_cons_zero, List.set_cons_succ]
      refine wpAnyM_one (i := 8) (o := { dst := some 45, op := .call { callee := Callee.value (.func 29), args := #[.tmp 40, .tmp 44], argTypes := #[25, 25] }, type := 23, pos := "merkle.go:110", after := #[{ on := 3, ground := .data }, { on := 7, ground := .data }, { on := 7, ground := .chain }], guard := none }) (by kernel_rfl) rfl (fun x1 hx1 K hK => ?_)
      rw [if_pos (by rfl)]
      unfold Oper.wp execOp
      simp only [Sem.run_bind]
      go_simp
      --@r8
      refine (HP1.out x1).mono ?_
      rintro e x2 ⟨p1, rfl, hov1, ho1⟩
      refine hK _ _ ho1 ?_
      clear hK K
      try simp only [Act.put, List.setIfInBounds_toArray, List.set_cons_zero, List.set_cons_succ]
      have HX2 : Hid (Only [] wd x2) := Lib.hid (hx1.then ho1); have HOV1 := Lib.hid hov1; clear hov1 ho1 hx1
      refine wpAnyM_take (i := 12) (oi := { dst := some 49, op := .call { callee := Callee.value (.func 11), args := #[.tmp 48], argTypes := #[22] }, type := 25, pos := "merkle.go:110", after := #[{ on := 11, ground := .data }, { on := 8, ground := .chain }], guard := none }) rfl (by kernel_rfl) (by kernel_rfl) (by kernel_rfl) (YieldsOn.call (by rfl) (by rfl) (by intro x; go_simp; first | done | rfl | exact ⟨rfl, rfl⟩) (fun x => H3.out _ (HX2.out.then x.only))) (by exact fun _ _ _ h => h) ?_
      try simp only [Act.put, List.setIfInBounds_toArray, List.set_cons_zero, List.set_cons_succ]
      refine wpAnyM_take (i := 16) (oi := { dst := some 53, op := .call { callee := Callee.value (.func 11), args := #[.tmp 52], argTypes := #[22] }, type := 25, pos := "merkle.go:110", after := #[{ on := 15, ground := .data }, { on := 12, ground := .chain }], guard := none }) rfl (by kernel_rfl) (by kernel_rfl) (by kernel_rfl) (YieldsOn.call (by rfl) (by rfl) (by intro x; go_simp; first | done | rfl | exact ⟨rfl, rfl⟩) (fun x => H4.out _ (HX2.out.then x.only))) (by exact fun _ _ _ h => h) ?_
      try simp only [Act.put, List.setIfInBounds_toArray, List.set_cons_zero, List.set_cons_succ]
      refine wpAnyM_one (i := 17) (o := { dst := some 54, op := .call { callee := Callee.value (.func 29), args := #[.tmp 49, .tmp 53], argTypes := #[25, 25] }, type := 23, pos := "merkle.go:110", after := #[{ on := 12, ground := .data }, { on := 16, ground := .data }, { on := 16, ground := .chain }], guard := none }) (by kernel_rfl) rfl (fun x3 hx3 K hK => ?_)
      rw [if_pos (by rfl)]
      unfold Oper.wp execOp
      simp only [Sem.run_bind]
      go_simp
      refine (HP2.out x3).mono ?_
      rintro e x4 ⟨p2, rfl, hov2, ho2⟩
      refine hK _ _ ho2 ?_
      clear hK K
      try simp only [Act.put, List.setIfInBounds_toArray, List.set_cons_zero, List.set_cons_succ]
      have HX4 : Hid (Only [] wd x4) := Lib.hid (HX2.out.then (hx3.then ho2)); have HB2 := Lib.hid (BS.of_vs hov2.vs); have HB1 := Lib.hid ((BS.of_vs HOV1.out.vs).only (hx3.then ho2) (by simp)); clear hov2 ho2 hx3 HOV1 HX2
      refine wpAnyM_take (i := 18) (oi := { dst := some 8, op := .assign (.tmp 45), type := 23, pos := "merkle.go:110", after := #[{ on := 8, ground := .data }, { on := 17, ground := .chain }, { on := 0, ground := .phase }, { on := 1, ground := .phase }, { on := 2, ground := .phase }, { on := 3, ground := .phase }, { on := 4, ground := .phase }, { on := 5, ground := .phase }, { on := 6, ground := .phase }, { on := 7, ground := .phase }, { on := 8, ground := .phase }, { on := 9, ground := .textOnly Departure.lateStores }, { on := 10, ground := .textOnly Departure.lateStores }, { on := 11, ground := .textOnly Departure.lateStoresUnsure }, { on := 12, ground := .textOnly Departure.lateStoresUnsure }, { on := 13, ground := .textOnly Departure.lateStores }, { on := 14, ground := .textOnly Departure.lateStores }, { on := 15, ground := .textOnly Departure.lateStoresUnsure }, { on := 16, ground := .textOnly Departure.lateStoresUnsure }, { on := 17, ground := .textOnly Departure.lateStoresUnsure }], guard := none }) rfl (by kernel_rfl) (by kernel_rfl) (by kernel_rfl) (YieldsOn.pure (by rfl) (by intro x; first | (go_simp; first | done | rfl) | (unfold execOp; simp only [Sem.run_bind]; go_simp; first | done | rfl))) (by exact fun _ _ _ h => h) ?_
      try simp only [Act.put, List.setIfInBounds_toArray, List.set_cons_zero, List.set_cons_succ]
      refine wpAnyM_take (i := 19) (oi := { dst := some 9, op := .assign (.tmp 54), type := 23, pos := "merkle.go:110", after := #[{ on := 17, ground := .data }, { on := 18, ground := .chain }, { on := 0, ground := .phase }, { on := 1, ground := .phase }, { on := 2, ground := .phase }, { on := 3, ground := .phase }, { on := 4, ground := .phase }, { on := 5, ground := .phase }, { on := 6, ground := .phase }, { on := 7, ground := .phase }, { on := 8, ground := .phase }, { on := 9, ground := .phase }, { on := 10, ground := .phase }, { on := 11, ground := .phase }, { on := 12, ground := .phase }, { on := 13, ground := .phase }, { on := 14, ground := .phase }, { on := 15, ground := .phase }, { on := 16, ground := .phase }, { on := 17, ground := .phase }, { on := 18, ground := .phase }], guard := none }) rfl (by kernel_rfl) (by kernel_rfl) (by kernel_rfl) (YieldsOn.pure (by rfl) (by intro x; first | (go_simp; first | done | rfl) | (unfold execOp; simp only [Sem.run_bind]; go_simp; first | done | rfl))) (by exact fun _ _ _ h => h) ?_
      try simp only [Act.put, List.setIfInBounds_toArray, List.set_cons_zero, List.set_cons_succ]
      refine wpAnyM_done (by kernel_rfl) (fun x5 hx5 => ?_) _
      --@9
      have HX5 := Lib.hid (HX4.out.then hx5); have HBA := Lib.hid (HB1.out.only hx5 (by simp)); have HBB := Lib.hid (HB2.out.only hx5 (by simp))
      clear HX4 HB1 HB2 hx5 H1 H2 H3 H4 HP1 HP2
      go_wp2_with fail
      refine (equal_c x5 p1 p2 _ _ HBA.out HBB.out (by simp [HZ.out.1.1, HZ.out.1.2])).mono ?_
      rintro e x6 ⟨rfl, ho6⟩
      have HX6 := Lib.hid (HX5.out.then ho6); have HBC := Lib.hid (HBA.out.only ho6 (by simp)); have HBD := Lib.hid (HBB.out.only ho6 (by simp))
      clear HX5 HBA HBB ho6
      --@10
      by_cases hpq : (1 :: (P1 ++ P2)) = (1 :: (Q1 ++ Q2))
      · have hb : ((1 :: (P1 ++ P2)) == (1 :: (Q1 ++ Q2))) = true := by rw [hpq]; exact beq_self_eq_true _
        rw [hb]
        injection hpq with _ hpq
        obtain ⟨e1, e2⟩ := List.append_inj hpq (by rw [HZ.out.1.1, HZ.out.2.1])
        have HE1 : Hid (rootD (ps.take k) = rootD (qs.take k)) := Lib.hid (by rw [HPE.out, HQE.out, e1])
        have HE2 : Hid (rootD (ps.drop k) = rootD (qs.drop k)) := Lib.hid (by rw [HPF.out, HQF.out, e2])
        clear hb e1 e2 hpq
        go_upto_region 8 with fail
        --@11
        have HE' : Hid (∀ W : World, Only [] x6.drew W → Calls Tryd.prog 39 #[X1, Y1] W fun e w' => e = .returned (.bool (decide (ps.take k = qs.take k))) ∧ Only [] W w') := Lib.hid (fun W ho => HE.out W (HX6.out.drew.then ho))
        refine wp_region_M [] (by kernel_rfl) ?_
        change wpAnyM _ _ _ _ _ _ _ _ (World.drew _)
        refine wpAnyM_take (i := 0) (oi := { dst := some 61, op := .move (.tmp 0), type := 22, pos := "merkle.go:114", after := #[], guard := none }) rfl (by kernel_rfl) (by kernel_rfl) (by kernel_rfl) (YieldsOn.pure (by rfl) (by intro x; first | (go_simp; first | done | rfl) | (unfold execOp; simp only [Sem.run_bind]; go_simp; first | done | rfl))) (by exact fun _ _ _ h => h) ?_
        try simp only [Act.put, List.setIfInBounds_toArray, List.set_cons_zero, List.set_cons_succ]
        refine wpAnyM_take (i := 1) (oi := { dst := some 62, op := .move (.tmp 7), type := 3, pos := "merkle.go:114", after := #[], guard := none }) rfl (by kernel_rfl) (by kernel_rfl) (by kernel_rfl) (YieldsOn.pure (by rfl) (by intro x; first | (go_simp; first | done | rfl) | (unfold execOp; simp only [Sem.run_bind]; go_simp; first | done | rfl))) (by exact fun _ _ _ h => h) ?_
        try simp only [Act.put, List.setIfInBounds_toArray, List.set_cons_zero, List.set_cons_succ]
        refine wpAnyM_take (i := 2) (oi := { dst := some 63, op := .slice 22 (.tmp 61) none (some (.tmp 62)) none, type := 22, pos := "merkle.go:114", after := #[{ on := 0, ground := .data }, { on := 1, ground := .data }], guard := none }) rfl (by kernel_rfl) (by kernel_rfl) (by kernel_rfl) (YieldsOn.slice (by rfl) (by rfl) rfl Tryd.underlying22 (by rfl) (by rfl) (by rfl) HS1.out) (by exact fun _ _ _ h => h) ?_
        try simp only [Act.put, List.setIfInBounds_toArray, List.set_cons_zero, List.set_cons_succ]
        refine wpAnyM_take (i := 3) (oi := { dst := some 64, op := .move (.tmp 1), type := 22, pos := "merkle.go:114", after := #[], guard := none }) rfl (by kernel_rfl) (by kernel_rfl) (by kernel_rfl) (YieldsOn.pure (by rfl) (by intro x; first | (go_simp; first | done | rfl) | (unfold execOp; simp only [Sem.run_bind]; go_simp; first | done | rfl))) (by exact fun _ _ _ h => h) ?_
        try simp only [Act.put, List.setIfInBounds_toArray, List.set_cons_zero, List.set_cons_succ]
        refine wpAnyM_take (i := 4) (oi := { dst := some 65, op := .move (.tmp 7), type := 3, pos := "merkle.go:114", after := #[], guard := none }) rfl (by kernel_rfl) (by kernel_rfl) (by kernel_rfl) (YieldsOn.pure (by rfl) (by intro x; first | (go_simp; first | done | rfl) | (unfold execOp; simp only [Sem.run_bind]; go_simp; first | done | rfl))) (by exact fun _ _ _ h => h) ?_
        try simp only [Act.put, List.setIfInBounds_toArray, List.set_cons_zero, List.set_cons_succ]
        refine wpAnyM_take (i := 5) (oi := { dst := some 66, op := .slice 22 (.tmp 64) none (some (.tmp 65)) none, type := 22, pos := "merkle.go:114", after := #[{ on := 3, ground := .data }, { on := 4, ground := .data }], guard := none }) rfl (by kernel_rfl) (by kernel_rfl) (by kernel_rfl) (YieldsOn.slice (by rfl) (by rfl) rfl Tryd.underlying22 (by rfl) (by rfl) (by rfl) HS3.out) (by exact fun _ _ _ h => h) ?_
        try simp only [Act.put, List.setIfInBounds_toArray, List.set_cons_zero, List.set_cons_succ]
        refine wpAnyM_take (i := 6) (oi := { dst := some 67, op := .call { callee := Callee.value (.func 39), args := #[.tmp 63, .tmp 66], argTypes := #[22, 22] }, type := 4, pos := "merkle.go:114", after := #[{ on := 2, ground := .data }, { on := 5, ground := .data }], guard := none }) rfl (by kernel_rfl) (by kernel_rfl) (by kernel_rfl) (YieldsOn.call (by rfl) (by rfl) (by intro x; go_simp; first | done | rfl | exact ⟨rfl, rfl⟩) (fun x => HE'.out _ x.only)) (by exact fun _ _ _ h => h) ?_
        try simp only [Act.put, List.setIfInBounds_toArray, List.set_cons_zero, List.set_cons_succ]
        refine wpAnyM_done (by kernel_rfl) (fun x7 hx7 => ?_) _
        --@12
        have HX7 := Lib.hid (HX6.out.drew.then hx7)
        clear hx7 HX6 HBC HBD HE HE'
        by_cases ht : ps.take k = qs.take k
        · rw [decide_eq_true ht]
          go_upto_region 9 with fail
          --@13
          refine wp_region_M [] (by kernel_rfl) ?_
          change wpAnyM _ _ _ _ _ _ _ _ (World.drew _)
          refine wpAnyM_take (i := 0) (oi := { dst := some 68, op := .move (.tmp 0), type := 22, pos := "merkle.go:115", after := #[], guard := none }) rfl (by kernel_rfl) (by kernel_rfl) (by kernel_rfl) (YieldsOn.pure (by rfl) (by intro x; first | (go_simp; first | done | rfl) | (unfold execOp; simp only [Sem.run_bind]; go_simp; first | done | rfl))) (by exact fun _ _ _ h => h) ?_
          try simp only [Act.put, List.setIfInBounds_toArray, List.set_cons_zero, List.set_cons_succ]
          refine wpAnyM_take (i := 1) (oi := { dst := some 69, op := .move (.tmp 7), type := 3, pos := "merkle.go:115", after := #[], guard := none }) rfl (by kernel_rfl) (by kernel_rfl) (by kernel_rfl) (YieldsOn.pure (by rfl) (by intro x; first | (go_simp; first | done | rfl) | (unfold execOp; simp only [Sem.run_bind]; go_simp; first | done | rfl))) (by exact fun _ _ _ h => h) ?_
          try simp only [Act.put, List.setIfInBounds_toArray, List.set_cons_zero, List.set_cons_succ]
          refine wpAnyM_take (i := 2) (oi := { dst := some 70, op := .slice 22 (.tmp 68) (some (.tmp 69)) none none, type := 22, pos := "merkle.go:115", after := #[{ on := 0, ground := .data }, { on := 1, ground := .data }], guard := none }) rfl (by kernel_rfl) (by kernel_rfl) (by kernel_rfl) (YieldsOn.slice (by rfl) (by rfl) rfl Tryd.underlying22 (by rfl) (by rfl) (by rfl) HS2.out) (by exact fun _ _ _ h => h) ?_
          try simp only [Act.put, List.setIfInBounds_toArray, List.set_cons_zero, List.set_cons_succ]
          refine wpAnyM_take (i := 3) (oi := { dst := some 71, op := .move (.tmp 1), type := 22, pos := "merkle.go:115", after := #[], guard := none }) rfl (by kernel_rfl) (by kernel_rfl) (by kernel_rfl) (YieldsOn.pure (by rfl) (by intro x; first | (go_simp; first | done | rfl) | (unfold execOp; simp only [Sem.run_bind]; go_simp; first | done | rfl))) (by exact fun _ _ _ h => h) ?_
          try simp only [Act.put, List.setIfInBounds_toArray, List.set_cons_zero, List.set_cons_succ]
          refine wpAnyM_take (i := 4) (oi := { dst := some 72, op := .move (.tmp 7), type := 3, pos := "merkle.go:115", after := #[], guard := none }) rfl (by kernel_rfl) (by kernel_rfl) (by kernel_rfl) (YieldsOn.pure (by rfl) (by intro x; first | (go_simp; first | done | rfl) | (unfold execOp; simp only [Sem.run_bind]; go_simp; first | done | rfl))) (by exact fun _ _ _ h => h) ?_
          try simp only [Act.put, List.setIfInBounds_toArray, List.set_cons_zero, List.set_cons_succ]
          refine wpAnyM_take (i := 5) (oi := { dst := some 73, op := .slice 22 (.tmp 71) (some (.tmp 72)) none none, type := 22, pos := "merkle.go:115", after := #[{ on := 3, ground := .data }, { on := 4, ground := .data }], guard := none }) rfl (by kernel_rfl) (by kernel_rfl) (by kernel_rfl) (YieldsOn.slice (by rfl) (by rfl) rfl Tryd.underlying22 (by rfl) (by rfl) (by rfl) HS4.out) (by exact fun _ _ _ h => h) ?_
          try simp only [Act.put, List.setIfInBounds_toArray, List.set_cons_zero, List.set_cons_succ]
          refine wpAnyM_take (i := 6) (oi := { dst := some 0, op := .assign (.tmp 70), type := 22, pos := "merkle.go:115", after := #[{ on := 2, ground := .data }, { on := 0, ground := .phase }, { on := 1, ground := .phase }, { on := 2, ground := .phase }, { on := 3, ground := .textOnly Departure.lateStores }, { on := 4, ground := .textOnly Departure.lateStores }, { on := 5, ground := .textOnly Departure.lateStoresUnsure }], guard := none }) rfl (by kernel_rfl) (by kernel_rfl) (by kernel_rfl) (YieldsOn.pure (by rfl) (by intro x; first | (go_simp; first | done | rfl) | (unfold execOp; simp only [Sem.run_bind]; go_simp; first | done | rfl))) (by exact fun _ _ _ h => h) ?_
          try simp only [Act.put, List.setIfInBounds_toArray, List.set_cons_zero, List.set_cons_succ]
          refine wpAnyM_take (i := 7) (oi := { dst := some 1, op := .assign (.tmp 73), type := 22, pos := "merkle.go:115", after := #[{ on := 5, ground := .data }, { on := 6, ground := .chain }, { on := 0, ground := .phase }, { on := 1, ground := .phase }, { on := 2, ground := .phase }, { on := 3, ground := .phase }, { on := 4, ground := .phase }, { on := 5, ground := .phase }, { on := 6, ground := .phase }], guard := none }) rfl (by kernel_rfl) (by kernel_rfl) (by kernel_rfl) (YieldsOn.pure (by rfl) (by intro x; first | (go_simp; first | done | rfl) | (unfold execOp; simp only [Sem.run_bind]; go_simp; first | done | rfl))) (by exact fun _ _ _ h => h) ?_
          try simp only [Act.put, List.setIfInBounds_toArray, List.set_cons_zero, List.set_cons_succ]
          refine wpAnyM_done (by kernel_rfl) (fun x8 hx8 => ?_) _
          have HX8 := Lib.hid (HX7.out.drew.then hx8)
          have HR1 := Lib.hid ht
          clear hx8 ht
          go_wp2_with fail
          go_roundw
          case rel => exact ⟨_, _, HD2.out.only HX8.out (by simp), HD4.out.only HX8.out (by simp), by rw [HLT.out.1.2, HLT.out.2.2], fun h => HPQ.out ⟨HR1.out, h⟩, HE2.out, by rw [HLT.out.1.2]; omega, HOd.out.then HX8.out⟩
          case measure => rw [HL2.out]; simp [vlen]; omega
        · rw [decide_eq_false ht]
          go_upto_region 10 with fail
          --@14
          refine wp_region_M [] (by kernel_rfl) ?_
          change wpAnyM _ _ _ _ _ _ _ _ (World.drew _)
          refine wpAnyM_take (i := 0) (oi := { dst := some 74, op := .move (.tmp 0), type := 22, pos := "merkle.go:117", after := #[], guard := none }) rfl (by kernel_rfl) (by kernel_rfl) (by kernel_rfl) (YieldsOn.pure (by rfl) (by intro x; first | (go_simp; first | done | rfl) | (unfold execOp; simp only [Sem.run_bind]; go_simp; first | done | rfl))) (by exact fun _ _ _ h => h) ?_
          try simp only [Act.put, List.setIfInBounds_toArray, List.set_cons_zero, List.set_cons_succ]
          refine wpAnyM_take (i := 1) (oi := { dst := some 75, op := .move (.tmp 7), type := 3, pos := "merkle.go:117", after := #[], guard := none }) rfl (by kernel_rfl) (by kernel_rfl) (by kernel_rfl) (YieldsOn.pure (by rfl) (by intro x; first | (go_simp; first | done | rfl) | (unfold execOp; simp only [Sem.run_bind]; go_simp; first | done | rfl))) (by exact fun _ _ _ h => h) ?_
          try simp only [Act.put, List.setIfInBounds_toArray, List.set_cons_zero, List.set_cons_succ]
          refine wpAnyM_take (i := 2) (oi := { dst := some 76, op := .slice 22 (.tmp 74) none (some (.tmp 75)) none, type := 22, pos := "merkle.go:117", after := #[{ on := 0, ground := .data }, { on := 1, ground := .data }], guard := none }) rfl (by kernel_rfl) (by kernel_rfl) (by kernel_rfl) (YieldsOn.slice (by rfl) (by rfl) rfl Tryd.underlying22 (by rfl) (by rfl) (by rfl) HS1.out) (by exact fun _ _ _ h => h) ?_
          try simp only [Act.put, List.setIfInBounds_toArray, List.set_cons_zero, List.set_cons_succ]
          refine wpAnyM_take (i := 3) (oi := { dst := some 77, op := .move (.tmp 1), type := 22, pos := "merkle.go:117", after := #[], guard := none }) rfl (by kernel_rfl) (by kernel_rfl) (by kernel_rfl) (YieldsOn.pure (by rfl) (by intro x; first | (go_simp; first | done | rfl) | (unfold execOp; simp only [Sem.run_bind]; go_simp; first | done | rfl))) (by exact fun _ _ _ h => h) ?_
          try simp only [Act.put, List.setIfInBounds_toArray, List.set_cons_zero, List.set_cons_succ]
          refine wpAnyM_take (i := 4) (oi := { dst := some 78, op := .move (.tmp 7), type := 3, pos := "merkle.go:117", after := #[], guard := none }) rfl (by kernel_rfl) (by kernel_rfl) (by kernel_rfl) (YieldsOn.pure (by rfl) (by intro x; first | (go_simp; first | done | rfl) | (unfold execOp; simp only [Sem.run_bind]; go_simp; first | done | rfl))) (by exact fun _ _ _ h => h) ?_
          try simp only [Act.put, List.setIfInBounds_toArray, List.set_cons_zero, List.set_cons_succ]
          refine wpAnyM_take (i := 5) (oi := { dst := some 79, op := .slice 22 (.tmp 77) none (some (.tmp 78)) none, type := 22, pos := "merkle.go:117", after := #[{ on := 3, ground := .data }, { on := 4, ground := .data }], guard := none }) rfl (by kernel_rfl) (by kernel_rfl) (by kernel_rfl) (YieldsOn.slice (by rfl) (by rfl) rfl Tryd.underlying22 (by rfl) (by rfl) (by rfl) HS3.out) (by exact fun _ _ _ h => h) ?_
          try simp only [Act.put, List.setIfInBounds_toArray, List.set_cons_zero, List.set_cons_succ]
          refine wpAnyM_take (i := 6) (oi := { dst := some 0, op := .assign (.tmp 76), type := 22, pos := "merkle.go:117", after := #[{ on := 2, ground := .data }, { on := 0, ground := .phase }, { on := 1, ground := .phase }, { on := 2, ground := .phase }, { on := 3, ground := .textOnly Departure.lateStores }, { on := 4, ground := .textOnly Departure.lateStores }, { on := 5, ground := .textOnly Departure.lateStoresUnsure }], guard := none }) rfl (by kernel_rfl) (by kernel_rfl) (by kernel_rfl) (YieldsOn.pure (by rfl) (by intro x; first | (go_simp; first | done | rfl) | (unfold execOp; simp only [Sem.run_bind]; go_simp; first | done | rfl))) (by exact fun _ _ _ h => h) ?_
          try simp only [Act.put, List.setIfInBounds_toArray, List.set_cons_zero, List.set_cons_succ]
          refine wpAnyM_take (i := 7) (oi := { dst := some 1, op := .assign (.tmp 79), type := 22, pos := "merkle.go:117", after := #[{ on := 5, ground := .data }, { on := 6, ground := .chain }, { on := 0, ground := .phase }, { on := 1, ground := .phase }, { on := 2, ground := .phase }, { on := 3, ground := .phase }, { on := 4, ground := .phase }, { on := 5, ground := .phase }, { on := 6, ground := .phase }], guard := none }) rfl (by kernel_rfl) (by kernel_rfl) (by kernel_rfl) (YieldsOn.pure (by rfl) (by intro x; first | (go_simp; first | done | rfl) | (unfold execOp; simp only [Sem.run_bind]; go_simp; first | done | rfl))) (by exact fun _ _ _ h => h) ?_
          try simp only [Act.put, List.setIfInBounds_toArray, List.set_cons_zero, List.set_cons_succ]
          refine wpAnyM_done (by kernel_rfl) (fun x8 hx8 => ?_) _
          have HX8 := Lib.hid (HX7.out.drew.then hx8)
          have HR1 := Lib.hid ht
          clear hx8 ht
          go_wp2_with fail
          go_roundw
          case rel => exact ⟨_, _, HD1.out.only HX8.out (by simp), HD3.out.only HX8.out (by simp), by rw [HLT.out.1.1, HLT.out.2.1], HR1.out, HE1.out, by rw [HLT.out.1.1]; omega, HOd.out.then HX8.out⟩
          case measure => rw [HL1.out]; simp [vlen]; omega
      · have hb : ((1 :: (P1 ++ P2)) == (1 :: (Q1 ++ Q2))) = false := beq_eq_false_iff_ne.2 hpq
        rw [hb]
        have HN1 := Lib.hid hpq
        clear hb hpq
        go_wp2_with fail
        --@15
        exact HFIN.out _ _ _ _ _ (HOd.out.then HX6.out) HBC.out HBD.out ⟨HN1.out, HRN.out, by simp [HZ.out.1.1, HZ.out.1.2], by simp [HZ.out.2.1, HZ.out.2.2]⟩
    · exact (HSM.out h2).elim

end Go.Proofs.YtpgcfpfmicghnaaDoor.mrk
