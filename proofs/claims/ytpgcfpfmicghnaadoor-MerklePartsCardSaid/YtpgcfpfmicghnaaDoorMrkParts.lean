/-
  MerkleParts, walked.
-/
import Derived.Test.YtpgcfpfmicghnaaDoorMrkAwake
set_option linter.unusedVariables false
set_option linter.unusedSimpArgs false
namespace Go.Proofs.YtpgcfpfmicghnaaDoor.mrk
open Go Go.RowKit Go.Lm Go.ChangeShapes Go.WideShapes Go.Proofs.YtpgcfpfmicghnaaDoor.sha

theorem xor_u8_nat (a b : Nat) (ha : a < 256) (hb : b < 256) : bits .xor .u8 (a : Int) (b : Int) = ((a ^^^ b : Nat) : Int) := by
  have h1 : (BitVec.ofInt 8 (a : Int)).toNat = a := by simp; omega
  have h2 : (BitVec.ofInt 8 (b : Int)).toNat = b := by simp; omega
  have hx : a ^^^ b < 2 ^ 8 := Nat.xor_lt_two_pow (by omega) (by omega)
  show IntKind.u8.wrap ((BitVec.ofInt 8 (a : Int) ^^^ BitVec.ofInt 8 (b : Int)).toNat : Int) = _
  rw [BitVec.toNat_xor, h1, h2, IntKind.wrap_u8]
  omega
theorem own_put {w : World} {B g n cap : Nat} {e : TypeId} {l : List UInt8} (h : OV w B e (.slice (some ⟨g, 0, none⟩) n cap) (l.map u8v)) (hn : l.length = n) (j : Nat) (u : UInt8) :
    OV (w.setCell ⟨g, j, none⟩ (u8v u)) B e (.slice (some ⟨g, 0, none⟩) n cap) ((l.set j u).map u8v) ∧ Only [g] w (w.setCell ⟨g, j, none⟩ (u8v u)) := by
  subst hn
  have h' : w.ownsRow B e 1 (.slice (some ⟨g, 0, none⟩) l.length cap) l.length (l.map u8v) := by
    have := h; unfold OV at this; rwa [List.length_map] at this
  obtain ⟨h1, h2⟩ := World.ownsRow.stored h' j (u8v u)
  refine ⟨?_, Only.of_grown h2⟩
  unfold OV
  rw [List.length_map, List.length_set, List.map_set]
  exact h1
theorem own_at {w : World} {B g n cap : Nat} {e : TypeId} {l : List UInt8} (h : OV w B e (.slice (some ⟨g, 0, none⟩) n cap) (l.map u8v)) (hn : l.length = n) (j : Nat) (hj : j < l.length) :
    w.cell? ⟨g, j, none⟩ = some (.int .u8 (l[j].toNat : Int)) ∧ w.frozen? ⟨g, j, none⟩ = false := by
  subst hn
  have h' : w.ownsRow B e 1 (.slice (some ⟨g, 0, none⟩) l.length cap) l.length (l.map u8v) := by
    have := h; unfold OV at this; rwa [List.length_map] at this
  refine ⟨?_, World.ownsRow.frozenAt h' j⟩
  rw [World.ownsRow.cellAt h' j (by omega)]
  simp [hj, u8v]

theorem YieldsOn.mid {P : Program} {ops : Array Oper} {S : List Nat} {o : Oper} {v : Value} {a : Act} {w : World} (hw : Region.wanted o (yielded ops a.tmps) = true) (ty : TypeId) (x : Operand) (ho : o.op = .load ty x) (b off : Nat) (hx : a.eval x = .pointer (some ⟨b, off, none⟩))
    (h : ∀ y : Later S w, (Instr.loadAt ty (.pointer (some ⟨b, off, none⟩))).run P y.at' = .ok v y.at') : YieldsOn P ops (Only S) o v a w :=
  YieldsOn.value hw (by simp [dull, ho]) fun y => by
    unfold execOp
    simp only [ho, hx, Sem.run_bind, h y, Result.andThen_ok, Sem.run_pure]

theorem set_part (b : List UInt8) (p : Nat) (u : UInt8) (k i : Nat) (hk : 0 < k) (h : i ≠ p / k) : ((b.set p u).drop (k * i)).take k = (b.drop (k * i)).take k := by
  apply List.ext_getElem?
  intro j
  rw [List.getElem?_take, List.getElem?_take]
  split
  · rename_i hj
    rw [List.getElem?_drop, List.getElem?_drop, List.getElem?_set]
    split
    · rename_i hp
      refine absurd ?_ h
      rw [hp]
      rw [Nat.add_comm, Nat.add_mul_div_left _ _ hk, Nat.div_eq_of_lt hj, Nat.zero_add]
    · rfl
  · rfl

set_option maxRecDepth 100000 in
set_option maxHeartbeats 8000000 in
theorem parts_c (w : World) (hT : Tab w) (hZ : Tz w) (v : Value) (b : List UInt8) (pt at' x : Nat) (hv : BS w v b) (hpt : pt < 256) (hat : at' < 65536) (hx : x < 256) :
    Calls Tryd.prog 8 #[v, .int .u8 (pt : Nat), .int .u16 (at' : Nat), .int .u8 (x : Nat)] w fun e w' => e = .returned (.bool true) ∧ Below w.heap.size w w' := by
  have HT := Lib.hid hT; have HTZ := Lib.hid hZ; have HV := Lib.hid hv; have HX := Lib.hid hx
  obtain ⟨a, cap, rfl, k1, k2, -⟩ := hv
  unfold maxLen at k2
  obtain ⟨n, hn⟩ : ∃ n, b.length = n := ⟨_, rfl⟩
  rw [hn] at k1 HV ⊢
  have HNL := Lib.hid hn; have HNC := Lib.hid k1
  obtain ⟨k0, hk0⟩ : ∃ k, pt % 60 = k := ⟨_, rfl⟩
  have hkI : (pt : Int) % 60 = (k0 : Int) := by omega
  obtain ⟨K, hK⟩ : ∃ K, k0 + 1 = K := ⟨_, rfl⟩
  have hK0 : 0 < K := by omega
  have hK60 : K ≤ 60 := by omega
  have hKI : (k0 : Int) + 1 = (K : Int) := by omega
  have HK0 := Lib.hid hK0; have HK60 := Lib.hid hK60
  clear hT hZ hn hk0 hK
  go_enter Tryd.func8, Tryd.ntmps8
  go_wp2_with fail
  refine (awake_c w HT.out HTZ.out).mono ?_
  rintro e w2 ⟨rfl, ho2⟩
  have HO2 := Lib.hid ho2
  clear ho2
  by_cases hn0 : n = 0
  · have hnI : (n : Int) = 0 := by omega
    go_wp2_with fail
    go_ret
    exact ⟨rfl, HO2.out.below (by simp) (Nat.le_refl _)⟩
  have hnI : ¬ (n : Int) = 0 := by omega
  by_cases hn1 : 1000 < n
  · have hn1I : (1000 : Int) < (n : Int) := by omega
    go_wp2_with fail
    go_ret
    exact ⟨rfl, HO2.out.below (by simp) (Nat.le_refl _)⟩
  have hn1I : ¬ (1000 : Int) < (n : Int) := by omega
  by_cases hx0 : x = 0
  · have hx0I : (x : Int) = 0 := by omega
    go_wp2_with fail
    go_ret
    exact ⟨rfl, HO2.out.below (by simp) (Nat.le_refl _)⟩
  have hx0I : ¬ (x : Int) = 0 := by omega
  have hnb : ((n : Int) == 0) = false := beq_eq_false_iff_ne.2 hnI
  have hxb : ((x : Int) == 0) = false := beq_eq_false_iff_ne.2 hx0I
  have HN1 : Hid (n ≤ 1000) := Lib.hid (by omega)
  obtain ⟨N, hNN⟩ : ∃ N, cntN n K = N := ⟨_, rfl⟩
  have hcn : cntN n K ≤ 1024 := (cntN_le n K 1024 hK0).1 (by have := Nat.mul_le_mul_left 1024 hK0; omega)
  have HCN := Lib.hid hcn; have HNN := Lib.hid hNN
  have hof := fun W (ho : Only [] w W) => of_ok W _ b K (HV.out.only ho (by simp)) (by rw [HNL.out]; omega) hK0 (by omega) (by rw [HNL.out]; exact hcn) (HT.out.only ho (by simp))
  rw [HNL.out, hNN] at hof
  have HOF := Lib.hid hof
  clear hof hcn hNN
  go_wp2_with fail
  clear hnb hxb
  --@1
  refine (HOF.out w2 HO2.out).mono ?_
  rintro e w3 ⟨u, rfl, hod, ho3⟩
  have HO3 := Lib.hid (HO2.out.then ho3); have HD3 := Lib.hid hod.ds
  obtain ⟨ua, c1, rfl, -, -⟩ := hod.slice
  rw [leavesD_length] at HD3 ⊢
  clear hod ho3 HO2 HOF
  go_upto_region 8 with fail
  --@2
  generalize hg : World.alloc w3 _ = w4
  have he4 : w4 = w3.alloc (.cells #[.int .u64 (n : Nat), .int .u32 (K : Nat), .slice ua N c1] 35 (0, 0)) := hg.symm.trans rfl
  have ho4 : Only [] w3 w4 := by rw [he4]; exact (Only.refl [] w3).alloc _
  have HM4 : Hid (M3 w4 w3.heap.size 35 n K (.slice ua N c1)) := Lib.hid (by rw [he4]; exact heap_alloc_new w3 _)
  have HO4 := Lib.hid (HO3.out.then ho4); have HD4 := Lib.hid (HD3.out.only ho4 (by simp))
  clear hg he4 ho4 HO3 HD3
  obtain ⟨q1, hq⟩ : ∃ q, w3.heap.size = q := ⟨_, rfl⟩
  rw [hq] at HM4 ⊢
  clear hq
  -- c
  obtain ⟨i5, hi5, hz5, hs5, hb5⟩ := info_parts cat.info_u8
  obtain ⟨cv, w5, hrun, hov, hgr⟩ := run_append_vs (P := Tryd.prog) (ty := 23) Tryd.underlying23 hi5 hz5 hs5 hb5 rfl (OV.nil w4 w4.heap.size 5) (VS.of_bs (HV.out.only HO4.out (by simp))) (cat.u8s_one b) (by simp [HNL.out]; unfold maxLen; omega) (by simp [HNL.out]; omega) (Nat.le_refl _)
  rw [List.nil_append] at hov
  have ho5 : Only [] w4 w5 := Only.of_grown hgr
  have HRUN := Lib.hid hrun
  have HO5 := Lib.hid (HO4.out.then ho5); have HM5 := Lib.hid (HM4.out.only ho5 (by simp)); have HD5 := Lib.hid (HD4.out.only ho5 (by simp))
  have HC0 : Hid (w4.heap.size ≤ w4.heap.size) := Lib.hid (Nat.le_refl _)
  obtain ⟨B, hB⟩ : ∃ B, w4.heap.size = B := ⟨_, rfl⟩
  rw [hB] at hov
  have HWB : Hid (w.heap.size ≤ B) := Lib.hid (by rw [← hB]; exact HO4.out.size)
  have HQB : Hid (q1 < B) := Lib.hid (by rw [← hB]; exact HM4.out.lt)
  have HDB : Hid (∀ c, (Value.slice ua N c1).ownBlock = some c → leavesD b K N ≠ [] → c < B) := Lib.hid (fun c hc hne => by rw [← hB]; exact HD4.out.lt hne hc)
  have HVB : Hid (∀ c, (Value.slice a n cap).ownBlock = some c → b ≠ [] → c < B) := Lib.hid (fun c hc hne => by have := HV.out.lt hne hc; have := HWB.out; omega)
  clear hrun hgr hi5 hz5 hs5 hb5 ho5 HO4 HM4 HD4 hB
  obtain ⟨a2, ccap, rfl, h5, h6⟩ := hov.slice
  obtain ⟨g, rfl⟩ : ∃ g, a2 = some ⟨g, 0, none⟩ := by
    rcases hov.2 with ⟨h0, h1⟩ | ⟨g, cap', cur, h0, _⟩
    · simp [HNL.out] at h1; omega
    · simp only [Value.slice.injEq] at h0
      exact ⟨g, h0.1⟩
  have hgB : B ≤ g := (hov.lt (c := g) rfl).1
  simp only [List.length_map, HNL.out] at h5 h6 hov HRUN
  unfold maxLen at h6
  have HCC := Lib.hid h5; have HGB := Lib.hid hgB; have HOV := Lib.hid hov
  obtain ⟨p, hp⟩ : ∃ p, at' % n = p := ⟨_, rfl⟩
  have hpI : (at' : Int) % (n : Int) = (p : Int) := by rw [← hp]; rfl
  have hpn : p < n := by rw [← hp]; exact Nat.mod_lt _ (by omega)
  have hnz : (n : Int) ≠ 0 := hnI
  obtain ⟨hc2, hf2⟩ := own_at hov HNL.out p (by rw [HNL.out]; exact hpn)
  obtain ⟨y, hy⟩ : ∃ y, (b[p]'(by rw [HNL.out]; exact hpn)).toNat = y := ⟨_, rfl⟩
  have hy256 : y < 256 := by rw [← hy]; exact UInt8.toNat_lt _
  rw [hy] at hc2
  have hxr := xor_u8_nat y x hy256 HX.out
  obtain ⟨z, hz⟩ : ∃ z, y ^^^ x = z := ⟨_, rfl⟩
  rw [hz] at hxr
  have hz256 : z < 256 := by rw [← hz]; exact Nat.xor_lt_two_pow (n := 8) (by omega) (by have := HX.out; omega)
  have hzn : (UInt8.ofNat z).toNat = z := by simp; omega
  have hzu : ((UInt8.ofNat z).toNat : Int) = (z : Int) := by rw [hzn]
  have HP := Lib.hid hpn; have HZU := Lib.hid hzu
  have hpnI : (p : Int) < (n : Int) := by omega
  clear hov hgB hp hy hz hzu hzn hy256 hz256
  --@3
  go_upto_region 12 with (at_builtin; refine wpList_append_run rfl _ _ _ rfl rfl rfl HRUN.out ?_)
  clear HRUN
  go_upto_region 14 with fail
  --@4
  obtain ⟨hs, hos⟩ := own_put HOV.out HNL.out p (UInt8.ofNat z)
  unfold u8v at hs hos
  rw [HZU.out] at hs hos
  obtain ⟨c, hcdef⟩ : ∃ c, b.set p (UInt8.ofNat z) = c := ⟨_, rfl⟩
  have HCLN : Hid (c.length = n) := Lib.hid (by rw [← hcdef, List.length_set]; exact HNL.out)
  have hcb : BS (w5.setCell ⟨g, p, none⟩ (.int .u8 (z : Int))) (.slice (some ⟨g, 0, none⟩) n ccap) c := by
    have h := BS.of_vs (show VS _ _ (((b.set p (UInt8.ofNat z))).map u8v) from OV.vs hs)
    rw [hcdef] at h
    exact h
  have HO6 : Hid (Only [] w (w5.setCell ⟨g, p, none⟩ (.int .u8 (z : Int)))) := Lib.hid (HO5.out.trans hos (by simp) (fun i hi => .inr (by have := HWB.out; have := HGB.out; simp at hi; omega)))
  have HM6 := Lib.hid (HM5.out.only hos (by have := HQB.out; have := HGB.out; simp; omega))
  have HD6 := Lib.hid (HD5.out.only hos (fun c hc hne => by have := HDB.out c hc hne; have := HGB.out; simp; omega))
  have HC6 := Lib.hid hcb
  have HCD := Lib.hid hcdef
  have HPIE := Lib.hid hpI
  clear hs hos hc2 hf2 hxr HO5 HM5 HD5 HOV hcb hcdef hpI
  generalize World.setCell w5 _ _ = w6 at *
  have hof := fun W (ho : Only [] w6 W) => of_ok W _ c K (HC6.out.only ho (by simp)) (by rw [HCLN.out]; omega) hK0 (by omega) (by rw [HCLN.out]; exact HCN.out) (HT.out.only (HO6.out.then ho) (by simp))
  rw [HCLN.out, HNN.out] at hof
  have HOF := Lib.hid hof
  clear hof
  go_wp2_with fail
  --@5
  refine (HOF.out w6 (Only.refl [] w6)).mono ?_
  rintro e w7 ⟨u, rfl, hod, ho7⟩
  have HO7 := Lib.hid (HO6.out.then ho7); have HM7 := Lib.hid (HM6.out.only ho7 (by simp)); have HD7 := Lib.hid (HD6.out.only ho7 (by simp)); have HC7 := Lib.hid (HC6.out.only ho7 (by simp))
  have HE7 := Lib.hid hod.ds
  obtain ⟨ua2, c2, rfl, -, -⟩ := hod.slice
  rw [leavesD_length] at HE7 ⊢
  clear hod ho7 HO6 HM6 HD6 HC6 HOF
  go_upto_region 15 with fail
  --@6
  generalize hg : World.alloc w7 _ = w8
  have he8 : w8 = w7.alloc (.cells #[.int .u64 (n : Nat), .int .u32 (K : Nat), .slice ua2 N c2] 35 (0, 0)) := hg.symm.trans rfl
  have ho8 : Only [] w7 w8 := by rw [he8]; exact (Only.refl [] w7).alloc _
  have HM2 : Hid (M3 w8 w7.heap.size 35 n K (.slice ua2 N c2)) := Lib.hid (by rw [he8]; exact heap_alloc_new w7 _)
  have HO8 := Lib.hid (HO7.out.then ho8); have HM1 := Lib.hid (HM7.out.only ho8 (by simp)); have HD8 := Lib.hid (HD7.out.only ho8 (by simp)); have HE8 := Lib.hid (HE7.out.only ho8 (by simp)); have HCB := Lib.hid (HC7.out.only ho8 (by simp))
  clear hg he8 ho8 HO7 HM7 HD7 HE7 HC7
  obtain ⟨q2, hq⟩ : ∃ q, w7.heap.size = q := ⟨_, rfl⟩
  rw [hq] at HM2 ⊢
  clear hq
  -- the leaves' places
  have hN0 : 0 < N := by rw [← HNN.out]; unfold cntN; have h1 := Nat.div_add_mod n K; rcases Nat.eq_zero_or_pos (n / K) with h | h; rw [h] at h1 ⊢; simp at h1; rw [if_neg (by omega)]; omega; omega
  obtain ⟨b1, o1, hu1, -⟩ := HD8.out.at 0 (by rw [leavesD_length]; exact hN0)
  obtain ⟨b2, o2, hu2, -⟩ := HE8.out.at 0 (by rw [leavesD_length]; exact hN0)
  subst hu1
  subst hu2
  have HG1 : Hid (∀ i, i < N → w8.rangeAt b1 (o1 + i * 32) ((leafD ((b.drop (K * i)).take K)).map u8v)) := Lib.hid (fun i hi => by
    obtain ⟨b', o', he, hr⟩ := HD8.out.at i (by rw [leavesD_length]; exact hi)
    injection he with he
    injection he with e1 e2
    subst e1; subst e2
    rw [Nat.mul_comm i 32]
    have : (leavesD b K N)[i]'(by rw [leavesD_length]; exact hi) = leafD ((b.drop (K * i)).take K) := by simp [leavesD]
    rw [← this]
    exact hr)
  have HG2 : Hid (∀ i, i < N → w8.rangeAt b2 (o2 + i * 32) ((leafD ((c.drop (K * i)).take K)).map u8v)) := Lib.hid (fun i hi => by
    obtain ⟨b', o', he, hr⟩ := HE8.out.at i (by rw [leavesD_length]; exact hi)
    injection he with he
    injection he with e1 e2
    subst e1; subst e2
    rw [Nat.mul_comm i 32]
    have : (leavesD c K N)[i]'(by rw [leavesD_length]; exact hi) = leafD ((c.drop (K * i)).take K) := by simp [leavesD]
    rw [← this]
    exact hr)
  obtain ⟨i0, hi0⟩ : ∃ i, p / K = i := ⟨_, rfl⟩
  have HI0 : Hid (i0 < N) := Lib.hid (by
    rw [← hi0, ← HNN.out]
    unfold cntN
    have h1 := Nat.div_le_div_right (c := K) (Nat.le_of_lt HP.out)
    have h2 := Nat.div_add_mod n K
    have h3 := Nat.div_add_mod p K
    have h4 := Nat.mod_lt p HK0.out
    split
    · rename_i h0
      refine Nat.lt_of_le_of_ne h1 fun he => ?_
      rw [he, Nat.add_zero] at h3
      rw [h0, Nat.add_zero] at h2
      have h5 := HP.out
      rw [h2] at h3
      have : n ≤ p := by rw [← h3]; exact Nat.le_add_right _ _
      exact absurd h5 (Nat.not_lt.2 this)
    · omega)
  have HPI := Lib.hid hi0
  have hq1 : (p : Int) / (K : Int) = (i0 : Int) := by rw [← hi0]; rfl
  have hq2 : (p : Int).tdiv (K : Int) = (i0 : Int) := by rw [Int.tdiv_eq_ediv_of_nonneg (by omega)]; exact hq1
  have HQ12 := Lib.hid (⟨hq1, hq2⟩ : _ ∧ _)
  have HWII : Hid (IntKind.i64.wrap (i0 : Int) = (i0 : Int)) := Lib.hid (by rw [IntKind.wrap_i64]; have h1 : i0 ≤ p := (by rw [← hi0]; exact Nat.div_le_self _ _); have := HN1.out; have := HP.out; omega)
  have hKne : K ≠ 0 := by omega
  have hKz : (K : Int) ≠ 0 := by omega
  clear hi0 hq1 hq2 HD8 HE8
  obtain ⟨m0, m1, m2, mf⟩ := HM1.out.cells
  obtain ⟨e0, e1, e2, ef⟩ := HM2.out.cells
  go_wp2_with fail
  clear m0 m1 m2 mf e0 e1 e2 ef
  have hNB : N ≤ 1024 := by rw [← HNN.out]; exact HCN.out
  --@7
  go_loopw [17] (fun cv wx => ∃ i : Nat, cv = .int .i64 (i : Nat) ∧ i ≤ N ∧ Only [] w8 wx) (fun cv _ => N - (intOf cv).toNat)
  case atStart => exact ⟨0, rfl, Nat.zero_le _, Only.refl [] w8⟩
  case round =>
    obtain ⟨i, rfl, hi, ho⟩ := hrel
    have HO5w := Lib.hid ho; have HO := Lib.hid (HO8.out.then ho)
    clear ho
    have m2 : wr.cell? ⟨q1, 2, none⟩ = some (.slice (some ⟨b1, o1, none⟩) N c1) := HO5w.out.cell HM1.out.cells.2.2.1 (by simp)
    have hiI0 : (0 : Int) ≤ (i : Int) := by omega
    by_cases hlt : i < N
    · have hltI : (i : Int) < (N : Int) := by omega
      --@x1
      go_upto_region 20 with fail
      --@8
      --@x2
      refine wp_region_M [] (by kernel_rfl) ?_
      change wpAnyM _ _ _ _ _ _ _ _ (World.drew _)
      have HOd := Lib.hid HO.out.drew; have HO5d := Lib.hid HO5w.out.drew
      clear m2 HO HO5w
      generalize World.drew wr = wd at *
      have hc1 : ∀ x : Later [] wd, x.at'.cell? ⟨q1, 2, none⟩ = some (.slice (some ⟨b1, o1, none⟩) N c1) := fun x => (HO5d.out.then x.only).cell HM1.out.cells.2.2.1 (by simp)
      have hc2 : ∀ x : Later [] wd, x.at'.cell? ⟨q2, 2, none⟩ = some (.slice (some ⟨b2, o2, none⟩) N c2) := fun x => (HO5d.out.then x.only).cell HM2.out.cells.2.2.1 (by simp)
      have hq1 := HQ12.out.1
      have hq2 := HQ12.out.2
      have hpI := HPIE.out
      have hwii := HWII.out
      by_cases hii : i = i0
      · subst hii
        --@9
        refine wpAnyM_take (i := 0) (oi := { dst := some 86, op := .move (.tmp 17), type := 3, pos := "law.go:139", after := #[], guard := none }) rfl (by kernel_rfl) (by kernel_rfl) (by kernel_rfl) (YieldsOn.pure (by rfl) (by intro x; first | (go_simp; first | done | rfl) | (unfold execOp; simp only [Sem.run_bind]; go_simp; first | done | rfl))) (by exact fun _ _ _ h => h) ?_
        try simp only [Act.put, List.setIfInBounds_toArray, List.set_cons_zero, List.set_cons_succ]
        refine wpAnyM_take (i := 1) (oi := { dst := some 87, op := .move (.tmp 14), type := 3, pos := "law.go:139", after := #[], guard := none }) rfl (by kernel_rfl) (by kernel_rfl) (by kernel_rfl) (YieldsOn.pure (by rfl) (by intro x; first | (go_simp; first | done | rfl) | (unfold execOp; simp only [Sem.run_bind]; go_simp; first | done | rfl))) (by exact fun _ _ _ h => h) ?_
        try simp only [Act.put, List.setIfInBounds_toArray, List.set_cons_zero, List.set_cons_succ]
        refine wpAnyM_take (i := 2) (oi := { dst := some 88, op := .move (.tmp 10), type := 3, pos := "law.go:139", after := #[], guard := none }) rfl (by kernel_rfl) (by kernel_rfl) (by kernel_rfl) (YieldsOn.pure (by rfl) (by intro x; first | (go_simp; first | done | rfl) | (unfold execOp; simp only [Sem.run_bind]; go_simp; first | done | rfl))) (by exact fun _ _ _ h => h) ?_
        try simp only [Act.put, List.setIfInBounds_toArray, List.set_cons_zero, List.set_cons_succ]
        refine wpAnyM_take (i := 3) (oi := { dst := some 89, op := .binOp BinOp.quo 3 (.tmp 87) (.tmp 88) 3, type := 3, pos := "law.go:139", after := #[{ on := 1, ground := .data }, { on := 2, ground := .data }], guard := none }) rfl (by kernel_rfl) (by kernel_rfl) (by kernel_rfl) (YieldsOn.value (by rfl) (by rfl) (by intro x; first | (go_simp; first | done | rfl) | (unfold execOp; simp only [Sem.run_bind]; go_simp; first | done | rfl))) (by exact fun _ _ _ h => h) ?_
        try simp only [Act.put, List.setIfInBounds_toArray, List.set_cons_zero, List.set_cons_succ]
        refine wpAnyM_take (i := 4) (oi := { dst := some 90, op := .binOp BinOp.neq 3 (.tmp 86) (.tmp 89) 3, type := 4, pos := "law.go:139", after := #[{ on := 0, ground := .data }, { on := 3, ground := .data }], guard := none }) rfl (by kernel_rfl) (by kernel_rfl) (by kernel_rfl) (YieldsOn.value (by rfl) (by rfl) (by intro x; first | (go_simp; first | done | rfl) | (unfold execOp; simp only [Sem.run_bind]; go_simp; first | done | rfl))) (by exact fun _ _ _ h => h) ?_
        try simp only [Act.put, List.setIfInBounds_toArray, List.set_cons_zero, List.set_cons_succ]
        refine wpAnyM_take (i := 5) (oi := { dst := some 91, op := .move (.tmp 90), type := 4, pos := "law.go:139", after := #[{ on := 4, ground := .data }], guard := none }) rfl (by kernel_rfl) (by kernel_rfl) (by kernel_rfl) (YieldsOn.pure (by rfl) (by intro x; first | (go_simp; first | done | rfl) | (unfold execOp; simp only [Sem.run_bind]; go_simp; first | done | rfl))) (by exact fun _ _ _ h => h) ?_
        try simp only [Act.put, List.setIfInBounds_toArray, List.set_cons_zero, List.set_cons_succ]
        --@q5
        refine wpAnyM_take (i := 6) (oi := { dst := some 92, op := .fieldAddr 35 (.tmp 11) 2, type := 0, pos := "law.go:139", after := #[{ on := 5, ground := .guard }], guard := some (5, true) }) rfl (by kernel_rfl) (by kernel_rfl) (by kernel_rfl) (YieldsOn.not (by rfl)) (by exact fun _ _ _ h => h) ?_
        try simp only [Act.put, List.setIfInBounds_toArray, List.set_cons_zero, List.set_cons_succ]
        refine wpAnyM_take (i := 7) (oi := { dst := some 93, op := .load 22 (.tmp 92), type := 22, pos := "law.go:139", after := #[{ on := 6, ground := .data }, { on := 5, ground := .guard }], guard := some (5, true) }) rfl (by kernel_rfl) (by kernel_rfl) (by kernel_rfl) (YieldsOn.not (by rfl)) (by exact fun _ _ _ h => h) ?_
        try simp only [Act.put, List.setIfInBounds_toArray, List.set_cons_zero, List.set_cons_succ]
        refine wpAnyM_take (i := 8) (oi := { dst := some 94, op := .move (.tmp 17), type := 3, pos := "law.go:139", after := #[{ on := 5, ground := .guard }], guard := some (5, true) }) rfl (by kernel_rfl) (by kernel_rfl) (by kernel_rfl) (YieldsOn.not (by rfl)) (by exact fun _ _ _ h => h) ?_
        try simp only [Act.put, List.setIfInBounds_toArray, List.set_cons_zero, List.set_cons_succ]
        refine wpAnyM_take (i := 9) (oi := { dst := some 95, op := .indexAddr 22 (.tmp 93) (.tmp 94), type := 0, pos := "law.go:139", after := #[{ on := 7, ground := .data }, { on := 8, ground := .data }, { on := 5, ground := .guard }], guard := some (5, true) }) rfl (by kernel_rfl) (by kernel_rfl) (by kernel_rfl) (YieldsOn.not (by rfl)) (by exact fun _ _ _ h => h) ?_
        try simp only [Act.put, List.setIfInBounds_toArray, List.set_cons_zero, List.set_cons_succ]
        refine wpAnyM_take (i := 10) (oi := { dst := some 96, op := .load 25 (.tmp 95), type := 25, pos := "law.go:139", after := #[{ on := 9, ground := .data }, { on := 5, ground := .guard }], guard := some (5, true) }) rfl (by kernel_rfl) (by kernel_rfl) (by kernel_rfl) (YieldsOn.not (by rfl)) (by exact fun _ _ _ h => h) ?_
        try simp only [Act.put, List.setIfInBounds_toArray, List.set_cons_zero, List.set_cons_succ]
        refine wpAnyM_take (i := 11) (oi := { dst := some 97, op := .fieldAddr 35 (.tmp 15) 2, type := 0, pos := "law.go:139", after := #[{ on := 5, ground := .guard }], guard := some (5, true) }) rfl (by kernel_rfl) (by kernel_rfl) (by kernel_rfl) (YieldsOn.not (by rfl)) (by exact fun _ _ _ h => h) ?_
        try simp only [Act.put, List.setIfInBounds_toArray, List.set_cons_zero, List.set_cons_succ]
        refine wpAnyM_take (i := 12) (oi := { dst := some 98, op := .load 22 (.tmp 97), type := 22, pos := "law.go:139", after := #[{ on := 11, ground := .data }, { on := 5, ground := .guard }], guard := some (5, true) }) rfl (by kernel_rfl) (by kernel_rfl) (by kernel_rfl) (YieldsOn.not (by rfl)) (by exact fun _ _ _ h => h) ?_
        try simp only [Act.put, List.setIfInBounds_toArray, List.set_cons_zero, List.set_cons_succ]
        refine wpAnyM_take (i := 13) (oi := { dst := some 99, op := .move (.tmp 17), type := 3, pos := "law.go:139", after := #[{ on := 5, ground := .guard }], guard := some (5, true) }) rfl (by kernel_rfl) (by kernel_rfl) (by kernel_rfl) (YieldsOn.not (by rfl)) (by exact fun _ _ _ h => h) ?_
        try simp only [Act.put, List.setIfInBounds_toArray, List.set_cons_zero, List.set_cons_succ]
        refine wpAnyM_take (i := 14) (oi := { dst := some 100, op := .indexAddr 22 (.tmp 98) (.tmp 99), type := 0, pos := "law.go:139", after := #[{ on := 12, ground := .data }, { on := 13, ground := .data }, { on := 5, ground := .guard }], guard := some (5, true) }) rfl (by kernel_rfl) (by kernel_rfl) (by kernel_rfl) (YieldsOn.not (by rfl)) (by exact fun _ _ _ h => h) ?_
        try simp only [Act.put, List.setIfInBounds_toArray, List.set_cons_zero, List.set_cons_succ]
        refine wpAnyM_take (i := 15) (oi := { dst := some 101, op := .load 25 (.tmp 100), type := 25, pos := "law.go:139", after := #[{ on := 14, ground := .data }, { on := 5, ground := .guard }], guard := some (5, true) }) rfl (by kernel_rfl) (by kernel_rfl) (by kernel_rfl) (YieldsOn.not (by rfl)) (by exact fun _ _ _ h => h) ?_
        try simp only [Act.put, List.setIfInBounds_toArray, List.set_cons_zero, List.set_cons_succ]
        refine wpAnyM_take (i := 16) (oi := { dst := some 102, op := .binOp BinOp.neq 25 (.tmp 96) (.tmp 101) 25, type := 4, pos := "law.go:139", after := #[{ on := 10, ground := .data }, { on := 15, ground := .data }, { on := 5, ground := .guard }], guard := some (5, true) }) rfl (by kernel_rfl) (by kernel_rfl) (by kernel_rfl) (YieldsOn.not (by rfl)) (by exact fun _ _ _ h => h) ?_
        try simp only [Act.put, List.setIfInBounds_toArray, List.set_cons_zero, List.set_cons_succ]
        refine wpAnyM_take (i := 17) (oi := { dst := some 103, op := .pick (.tmp 91) (.tmp 102) (.const (Value.bool false)), type := 4, pos := "law.go:139", after := #[{ on := 5, ground := .data }, { on := 16, ground := .data }], guard := none }) rfl (by kernel_rfl) (by kernel_rfl) (by kernel_rfl) (YieldsOn.pure (by rfl) (by intro x; first | (go_simp; first | done | rfl) | (unfold execOp; simp only [Sem.run_bind]; go_simp; first | done | rfl))) (by exact fun _ _ _ h => h) ?_
        try simp only [Act.put, List.setIfInBounds_toArray, List.set_cons_zero, List.set_cons_succ]
        refine wpAnyM_done (by kernel_rfl) (fun x9 hx9 => ?_) _
        go_wp2_with fail
        go_roundw
        case rel => exact ⟨i + 1, by go_num, by omega, HO5d.out.then hx9⟩
        case measure => simp [intOf]; omega
      · have hiiI : ¬ ((i : Int) = (i0 : Int)) := by omega
        have hiib : ((i : Int) != (i0 : Int)) = true := bne_iff_ne.2 hiiI
        obtain ⟨E1, hE1, hE1s, hE1i, -⟩ := store_facts (leafD ((b.drop (K * i)).take K)) (Sha.sum_length _)
        have hpe : (c.drop (K * i)).take K = (b.drop (K * i)).take K := by rw [← HCD.out]; exact set_part b p _ K i HK0.out (by rw [HPI.out]; exact hii)
        have he : E1.toList = (leafD ((b.drop (K * i)).take K)).map u8v := by rw [← Value.agg.inj hE1]
        have hr1 := HG1.out i hlt
        have hr2 := HG2.out i hlt
        rw [hpe, ← he] at hr2
        rw [← he] at hr1
        have HL1 : Hid (∀ x : World, Only [] wd x → (Instr.loadAt 25 (.pointer (some ⟨b1, o1 + i * 32, none⟩))).run Tryd.prog x = .ok (.agg E1) x) := Lib.hid (fun x ho => run_loadAt_mid x b1 (o1 + i * 32) 25 E1.toList _ (fun j v hv => (HO5d.out.then ho).cell (hr1 j v hv) (by simp)) Tryd.underlying25 rfl hE1i)
        have HL2 : Hid (∀ x : World, Only [] wd x → (Instr.loadAt 25 (.pointer (some ⟨b2, o2 + i * 32, none⟩))).run Tryd.prog x = .ok (.agg E1) x) := Lib.hid (fun x ho => run_loadAt_mid x b2 (o2 + i * 32) 25 E1.toList _ (fun j v hv => (HO5d.out.then ho).cell (hr2 j v hv) (by simp)) Tryd.underlying25 rfl hE1i)
        have hqE : ∀ W, (binOp .neq 25 (.agg E1) (.agg E1)).run Tryd.prog W = .ok (.bool false) W := fun W => by
          have h := neq_dv (leafD ((b.drop (K * i)).take K)) (leafD ((b.drop (K * i)).take K)) (Sha.sum_length _) (Sha.sum_length _) W
          rw [hE1, beq_self_eq_true] at h
          exact h
        have hgE : ∀ ox oy W, (eqGuard .neq 25 ox oy (.agg E1) (.agg E1)).run Tryd.prog W = .ok () W := fun ox oy W => by
          have h := guard_dv .neq (leafD ((b.drop (K * i)).take K)) (leafD ((b.drop (K * i)).take K)) ox oy W
          rw [hE1] at h
          exact h
        clear hE1 hE1s hE1i hpe he hr1 hr2
        --@10
        refine wpAnyM_take (i := 0) (oi := { dst := some 86, op := .move (.tmp 17), type := 3, pos := "law.go:139", after := #[], guard := none }) rfl (by kernel_rfl) (by kernel_rfl) (by kernel_rfl) (YieldsOn.pure (by rfl) (by intro x; first | (go_simp; first | done | rfl) | (unfold execOp; simp only [Sem.run_bind]; go_simp; first | done | rfl))) (by exact fun _ _ _ h => h) ?_
        try simp only [Act.put, List.setIfInBounds_toArray, List.set_cons_zero, List.set_cons_succ]
        refine wpAnyM_take (i := 1) (oi := { dst := some 87, op := .move (.tmp 14), type := 3, pos := "law.go:139", after := #[], guard := none }) rfl (by kernel_rfl) (by kernel_rfl) (by kernel_rfl) (YieldsOn.pure (by rfl) (by intro x; first | (go_simp; first | done | rfl) | (unfold execOp; simp only [Sem.run_bind]; go_simp; first | done | rfl))) (by exact fun _ _ _ h => h) ?_
        try simp only [Act.put, List.setIfInBounds_toArray, List.set_cons_zero, List.set_cons_succ]
        refine wpAnyM_take (i := 2) (oi := { dst := some 88, op := .move (.tmp 10), type := 3, pos := "law.go:139", after := #[], guard := none }) rfl (by kernel_rfl) (by kernel_rfl) (by kernel_rfl) (YieldsOn.pure (by rfl) (by intro x; first | (go_simp; first | done | rfl) | (unfold execOp; simp only [Sem.run_bind]; go_simp; first | done | rfl))) (by exact fun _ _ _ h => h) ?_
        try simp only [Act.put, List.setIfInBounds_toArray, List.set_cons_zero, List.set_cons_succ]
        refine wpAnyM_take (i := 3) (oi := { dst := some 89, op := .binOp BinOp.quo 3 (.tmp 87) (.tmp 88) 3, type := 3, pos := "law.go:139", after := #[{ on := 1, ground := .data }, { on := 2, ground := .data }], guard := none }) rfl (by kernel_rfl) (by kernel_rfl) (by kernel_rfl) (YieldsOn.value (by rfl) (by rfl) (by intro x; first | (go_simp; first | done | rfl) | (unfold execOp; simp only [Sem.run_bind]; go_simp; first | done | rfl))) (by exact fun _ _ _ h => h) ?_
        try simp only [Act.put, List.setIfInBounds_toArray, List.set_cons_zero, List.set_cons_succ]
        refine wpAnyM_take (i := 4) (oi := { dst := some 90, op := .binOp BinOp.neq 3 (.tmp 86) (.tmp 89) 3, type := 4, pos := "law.go:139", after := #[{ on := 0, ground := .data }, { on := 3, ground := .data }], guard := none }) rfl (by kernel_rfl) (by kernel_rfl) (by kernel_rfl) (YieldsOn.value (by rfl) (by rfl) (by intro x; first | (go_simp; first | done | rfl) | (unfold execOp; simp only [Sem.run_bind]; go_simp; first | done | rfl))) (by exact fun _ _ _ h => h) ?_
        try simp only [Act.put, List.setIfInBounds_toArray, List.set_cons_zero, List.set_cons_succ]
        refine wpAnyM_take (i := 5) (oi := { dst := some 91, op := .move (.tmp 90), type := 4, pos := "law.go:139", after := #[{ on := 4, ground := .data }], guard := none }) rfl (by kernel_rfl) (by kernel_rfl) (by kernel_rfl) (YieldsOn.pure (by rfl) (by intro x; first | (go_simp; first | done | rfl) | (unfold execOp; simp only [Sem.run_bind]; go_simp; first | done | rfl))) (by exact fun _ _ _ h => h) ?_
        try simp only [Act.put, List.setIfInBounds_toArray, List.set_cons_zero, List.set_cons_succ]
        --@q5
        refine wpAnyM_take (i := 6) (oi := { dst := some 92, op := .fieldAddr 35 (.tmp 11) 2, type := 0, pos := "law.go:139", after := #[{ on := 5, ground := .guard }], guard := some (5, true) }) rfl (by kernel_rfl) (by kernel_rfl) (by kernel_rfl) (YieldsOn.pure (by rfl) (by intro x; first | (go_simp; first | done | rfl) | (unfold execOp; simp only [Sem.run_bind]; go_simp; first | done | rfl))) (by exact fun _ _ _ h => h) ?_
        try simp only [Act.put, List.setIfInBounds_toArray, List.set_cons_zero, List.set_cons_succ]
        refine wpAnyM_take (i := 7) (oi := { dst := some 93, op := .load 22 (.tmp 92), type := 22, pos := "law.go:139", after := #[{ on := 6, ground := .data }, { on := 5, ground := .guard }], guard := some (5, true) }) rfl (by kernel_rfl) (by kernel_rfl) (by kernel_rfl) (YieldsOn.value (by rfl) (by rfl) (by intro x; first | (go_simp; first | done | rfl) | (unfold execOp; simp only [Sem.run_bind]; go_simp; first | done | rfl))) (by exact fun _ _ _ h => h) ?_
        try simp only [Act.put, List.setIfInBounds_toArray, List.set_cons_zero, List.set_cons_succ]
        refine wpAnyM_take (i := 8) (oi := { dst := some 94, op := .move (.tmp 17), type := 3, pos := "law.go:139", after := #[{ on := 5, ground := .guard }], guard := some (5, true) }) rfl (by kernel_rfl) (by kernel_rfl) (by kernel_rfl) (YieldsOn.pure (by rfl) (by intro x; first | (go_simp; first | done | rfl) | (unfold execOp; simp only [Sem.run_bind]; go_simp; first | done | rfl))) (by exact fun _ _ _ h => h) ?_
        try simp only [Act.put, List.setIfInBounds_toArray, List.set_cons_zero, List.set_cons_succ]
        refine wpAnyM_take (i := 9) (oi := { dst := some 95, op := .indexAddr 22 (.tmp 93) (.tmp 94), type := 0, pos := "law.go:139", after := #[{ on := 7, ground := .data }, { on := 8, ground := .data }, { on := 5, ground := .guard }], guard := some (5, true) }) rfl (by kernel_rfl) (by kernel_rfl) (by kernel_rfl) (YieldsOn.pure (by rfl) (by intro x; first | (go_simp; first | done | rfl) | (unfold execOp; simp only [Sem.run_bind]; go_simp; first | done | rfl))) (by exact fun _ _ _ h => h) ?_
        try simp only [Act.put, List.setIfInBounds_toArray, List.set_cons_zero, List.set_cons_succ]
        refine wpAnyM_take (i := 10) (oi := { dst := some 96, op := .load 25 (.tmp 95), type := 25, pos := "law.go:139", after := #[{ on := 9, ground := .data }, { on := 5, ground := .guard }], guard := some (5, true) }) rfl (by kernel_rfl) (by kernel_rfl) (by kernel_rfl) (YieldsOn.mid (by rfl) 25 (.tmp 95) rfl b1 (o1 + i * 32) (by rfl) (fun x => HL1.out x.at' x.only)) (by exact fun _ _ _ h => h) ?_
        try simp only [Act.put, List.setIfInBounds_toArray, List.set_cons_zero, List.set_cons_succ]
        refine wpAnyM_take (i := 11) (oi := { dst := some 97, op := .fieldAddr 35 (.tmp 15) 2, type := 0, pos := "law.go:139", after := #[{ on := 5, ground := .guard }], guard := some (5, true) }) rfl (by kernel_rfl) (by kernel_rfl) (by kernel_rfl) (YieldsOn.pure (by rfl) (by intro x; first | (go_simp; first | done | rfl) | (unfold execOp; simp only [Sem.run_bind]; go_simp; first | done | rfl))) (by exact fun _ _ _ h => h) ?_
        try simp only [Act.put, List.setIfInBounds_toArray, List.set_cons_zero, List.set_cons_succ]
        refine wpAnyM_take (i := 12) (oi := { dst := some 98, op := .load 22 (.tmp 97), type := 22, pos := "law.go:139", after := #[{ on := 11, ground := .data }, { on := 5, ground := .guard }], guard := some (5, true) }) rfl (by kernel_rfl) (by kernel_rfl) (by kernel_rfl) (YieldsOn.value (by rfl) (by rfl) (by intro x; first | (go_simp; first | done | rfl) | (unfold execOp; simp only [Sem.run_bind]; go_simp; first | done | rfl))) (by exact fun _ _ _ h => h) ?_
        try simp only [Act.put, List.setIfInBounds_toArray, List.set_cons_zero, List.set_cons_succ]
        refine wpAnyM_take (i := 13) (oi := { dst := some 99, op := .move (.tmp 17), type := 3, pos := "law.go:139", after := #[{ on := 5, ground := .guard }], guard := some (5, true) }) rfl (by kernel_rfl) (by kernel_rfl) (by kernel_rfl) (YieldsOn.pure (by rfl) (by intro x; first | (go_simp; first | done | rfl) | (unfold execOp; simp only [Sem.run_bind]; go_simp; first | done | rfl))) (by exact fun _ _ _ h => h) ?_
        try simp only [Act.put, List.setIfInBounds_toArray, List.set_cons_zero, List.set_cons_succ]
        refine wpAnyM_take (i := 14) (oi := { dst := some 100, op := .indexAddr 22 (.tmp 98) (.tmp 99), type := 0, pos := "law.go:139", after := #[{ on := 12, ground := .data }, { on := 13, ground := .data }, { on := 5, ground := .guard }], guard := some (5, true) }) rfl (by kernel_rfl) (by kernel_rfl) (by kernel_rfl) (YieldsOn.pure (by rfl) (by intro x; first | (go_simp; first | done | rfl) | (unfold execOp; simp only [Sem.run_bind]; go_simp; first | done | rfl))) (by exact fun _ _ _ h => h) ?_
        try simp only [Act.put, List.setIfInBounds_toArray, List.set_cons_zero, List.set_cons_succ]
        refine wpAnyM_take (i := 15) (oi := { dst := some 101, op := .load 25 (.tmp 100), type := 25, pos := "law.go:139", after := #[{ on := 14, ground := .data }, { on := 5, ground := .guard }], guard := some (5, true) }) rfl (by kernel_rfl) (by kernel_rfl) (by kernel_rfl) (YieldsOn.mid (by rfl) 25 (.tmp 100) rfl b2 (o2 + i * 32) (by rfl) (fun x => HL2.out x.at' x.only)) (by exact fun _ _ _ h => h) ?_
        try simp only [Act.put, List.setIfInBounds_toArray, List.set_cons_zero, List.set_cons_succ]
        refine wpAnyM_take (i := 16) (oi := { dst := some 102, op := .binOp BinOp.neq 25 (.tmp 96) (.tmp 101) 25, type := 4, pos := "law.go:139", after := #[{ on := 10, ground := .data }, { on := 15, ground := .data }, { on := 5, ground := .guard }], guard := some (5, true) }) rfl (by kernel_rfl) (by kernel_rfl) (by kernel_rfl) (YieldsOn.value (by rfl) (by rfl) (by intro x; first | (go_simp; first | done | rfl) | (unfold execOp; simp only [Sem.run_bind]; go_simp; first | done | rfl))) (by exact fun _ _ _ h => h) ?_
        try simp only [Act.put, List.setIfInBounds_toArray, List.set_cons_zero, List.set_cons_succ]
        refine wpAnyM_take (i := 17) (oi := { dst := some 103, op := .pick (.tmp 91) (.tmp 102) (.const (Value.bool false)), type := 4, pos := "law.go:139", after := #[{ on := 5, ground := .data }, { on := 16, ground := .data }], guard := none }) rfl (by kernel_rfl) (by kernel_rfl) (by kernel_rfl) (YieldsOn.pure (by rfl) (by intro x; first | (go_simp; first | done | rfl) | (unfold execOp; simp only [Sem.run_bind]; go_simp; first | done | rfl))) (by exact fun _ _ _ h => h) ?_
        try simp only [Act.put, List.setIfInBounds_toArray, List.set_cons_zero, List.set_cons_succ]
        refine wpAnyM_done (by kernel_rfl) (fun x9 hx9 => ?_) _
        go_wp2_with fail
        go_roundw
        case rel => exact ⟨i + 1, by go_num, by omega, HO5d.out.then hx9⟩
        case measure => simp [intOf]; omega
    · have hltI : ¬ (i : Int) < (N : Int) := by omega
      have hq1 := HQ12.out.1
      have hq2 := HQ12.out.2
      have hpI := HPIE.out
      have hwii := HWII.out
      obtain ⟨A, hA⟩ : ∃ A, K * i0 = A := ⟨_, rfl⟩
      have hAI : (K : Int) * (i0 : Int) = (A : Int) := by rw [← hA]; rfl
      obtain ⟨T0, hT0⟩ : ∃ T, K * (i0 + 1) = T := ⟨_, rfl⟩
      have hTA : T0 = A + K := by rw [← hT0, ← hA, Nat.mul_add, Nat.mul_one]
      have hTI : (K : Int) * ((i0 : Int) + 1) = (T0 : Int) := by rw [← hT0]; rfl
      have hAp : A ≤ p := by rw [← hA, ← HPI.out]; exact Nat.mul_div_le p K
      have hpn := HP.out
      have hip : i0 ≤ p := by rw [← HPI.out]; exact Nat.div_le_self _ _
      have hi0l : i0 ≤ 1000 := by have := HN1.out; omega
      have HWI : Hid (wrap64 (i0 : Int) = (i0 : Int)) := Lib.hid (wrap64_of _ (by omega) (by omega))
      have hwT : IntKind.i64.wrap (T0 : Int) = (T0 : Int) := by rw [IntKind.wrap_i64]; have := HN1.out; omega
      have hi1 : (i0 : Int) + 1 ≤ 1001 := by omega
      have hwi1 : IntKind.i64.wrap ((i0 : Int) + 1) = (i0 : Int) + 1 := by rw [IntKind.wrap_i64]; omega
      have HWT : Hid (wrap64 (T0 : Int) = (T0 : Int)) := Lib.hid (wrap64_of _ (by omega) (by have := HN1.out; omega))
      have HML := Lib.hid hAI
      have HWA : Hid (wrap64 (A : Int) = (A : Int)) := Lib.hid (wrap64_of _ (by omega) (by have := HN1.out; omega))
      obtain ⟨T, hT⟩ : ∃ T, A + min (n - A) K = T := ⟨_, rfl⟩
      have HAT : Hid (A ≤ T ∧ T ≤ n) := Lib.hid (by omega)
      have htp := part_eq b K A (by rw [HNL.out]; omega)
      have htc := part_eq c K A (by rw [HCLN.out]; omega)
      rw [HNL.out, hT] at htp
      rw [HCLN.out, hT] at htc
      rw [← hA] at htp htc
      have HTP : Hid ((b.take T).drop A = (b.drop (K * i0)).take K) := Lib.hid (by rw [← htp, hA])
      have HTC : Hid ((c.take T).drop A = (c.drop (K * i0)).take K) := Lib.hid (by rw [← htc, hA])
      clear htp htc
      by_cases hto : n < T0
      · have htoI : (n : Int) < (T0 : Int) := by omega
        have hTn : n = T := by omega
        subst hTn
        clear hA hT0 hT hTA hAp hpn hi0l hip
        --@x1
        have hwi2 := HWI.out
        have hwT2 := HWT.out
        go_upto_region 26 with fail
        clear hwi2 hwT2
        --@x2
        --@11
        --@9
        --@10
        --@8
        --@11b
        refine wp_region_M [] (by kernel_rfl) ?_
        change wpAnyM _ _ _ _ _ _ _ _ (World.drew _)
        clear hq1 hq2 hTI htoI hltI hAI hpI hwii hwT hwi1 hi1
        have HOd := Lib.hid HO.out.drew; have HO5d := Lib.hid HO5w.out.drew
        generalize World.drew wr = wd at *
        have hc1 : ∀ x : Later [] wd, x.at'.cell? ⟨q1, 2, none⟩ = some (.slice (some ⟨b1, o1, none⟩) N c1) := fun x => (HO5d.out.then x.only).cell HM1.out.cells.2.2.1 (by simp)
        have hc2 : ∀ x : Later [] wd, x.at'.cell? ⟨q2, 2, none⟩ = some (.slice (some ⟨b2, o2, none⟩) N c2) := fun x => (HO5d.out.then x.only).cell HM2.out.cells.2.2.1 (by simp)
        have hi0I : (i0 : Int) < (N : Int) := by have := HI0.out; omega
        have hi00 : (0 : Int) ≤ (i0 : Int) := by omega
        obtain ⟨E1, hE1, hE1s, hE1i, -⟩ := store_facts (leafD ((b.drop (K * i0)).take K)) (Sha.sum_length _)
        obtain ⟨E2, hE2, hE2s, hE2i, -⟩ := store_facts (leafD ((c.drop (K * i0)).take K)) (Sha.sum_length _)
        have HL1 : Hid (∀ x : World, Only [] wd x → (Instr.loadAt 25 (.pointer (some ⟨b1, o1 + i0 * 32, none⟩))).run Tryd.prog x = .ok (.agg E1) x) := Lib.hid (fun x ho => by
          have hr := HG1.out i0 HI0.out
          have he : E1.toList = (leafD ((b.drop (K * i0)).take K)).map u8v := by rw [← Value.agg.inj hE1]
          rw [← he] at hr
          exact run_loadAt_mid x b1 (o1 + i0 * 32) 25 E1.toList _ (fun j v hv => (HO5d.out.then ho).cell (hr j v hv) (by simp)) Tryd.underlying25 rfl hE1i)
        have HL2 : Hid (∀ x : World, Only [] wd x → (Instr.loadAt 25 (.pointer (some ⟨b2, o2 + i0 * 32, none⟩))).run Tryd.prog x = .ok (.agg E2) x) := Lib.hid (fun x ho => by
          have hr := HG2.out i0 HI0.out
          have he : E2.toList = (leafD ((c.drop (K * i0)).take K)).map u8v := by rw [← Value.agg.inj hE2]
          rw [← he] at hr
          exact run_loadAt_mid x b2 (o2 + i0 * 32) 25 E2.toList _ (fun j v hv => (HO5d.out.then ho).cell (hr j v hv) (by simp)) Tryd.underlying25 rfl hE2i)
        by_cases hsame : leafD ((b.drop (K * i0)).take K) = leafD ((c.drop (K * i0)).take K)
        · have hEE : E2 = E1 := by rw [← hsame, hE1] at hE2; exact (Value.agg.inj hE2).symm
          subst hEE
          have hqE : ∀ W, (binOp .neq 25 (.agg E2) (.agg E2)).run Tryd.prog W = .ok (.bool false) W := fun W => by
            have h := neq_dv (leafD ((b.drop (K * i0)).take K)) (leafD ((b.drop (K * i0)).take K)) (Sha.sum_length _) (Sha.sum_length _) W
            rw [hE1, beq_self_eq_true] at h
            exact h
          have hgE : ∀ ox oy W, (eqGuard .neq 25 ox oy (.agg E2) (.agg E2)).run Tryd.prog W = .ok () W := fun ox oy W => by
            have h := guard_dv .neq (leafD ((b.drop (K * i0)).take K)) (leafD ((b.drop (K * i0)).take K)) ox oy W
            rw [hE1] at h
            exact h
          have hqE2 : ∀ W, (binOp .eql 25 (.agg E2) (.agg E2)).run Tryd.prog W = .ok (.bool true) W := fun W => by
            have h := eql_dv (leafD ((b.drop (K * i0)).take K)) (leafD ((b.drop (K * i0)).take K)) (Sha.sum_length _) (Sha.sum_length _) W
            rw [hE1, beq_self_eq_true] at h
            exact h
          have hgE2 : ∀ ox oy W, (eqGuard .eql 25 ox oy (.agg E2) (.agg E2)).run Tryd.prog W = .ok () W := fun ox oy W => by
            have h := guard_dv .eql (leafD ((b.drop (K * i0)).take K)) (leafD ((b.drop (K * i0)).take K)) ox oy W
            rw [hE1] at h
            exact h
          have hAT := HAT.out
          have HS1 := Lib.hid (fun W : World => run_sub_lh Tryd.underlying23 size_u8' a n cap A n hAT.1 (by have := HNC.out; omega) W)
          have HS2 := Lib.hid (fun W : World => run_sub_lh Tryd.underlying23 size_u8' (some ⟨g, 0, none⟩) n ccap A n hAT.1 (by have := HCC.out; omega) W)
          have hb1 := (HV.out.only HOd.out (by simp)).sub A n hAT.1 (by rw [HNL.out]; exact hAT.2)
          have hb2 := (HCB.out.only HO5d.out (by simp)).sub A n hAT.1 (by rw [HCLN.out]; exact hAT.2)
          rw [HTP.out] at hb1
          rw [HTC.out] at hb2
          obtain ⟨X1, hX1⟩ : ∃ X, subv a cap A n = X := ⟨_, rfl⟩
          obtain ⟨X2, hX2⟩ : ∃ X, subv (some ⟨g, 0, none⟩) ccap A n = X := ⟨_, rfl⟩
          rw [hX1] at hb1 HS1; rw [hX2] at hb2 HS2
          have hX1' := hb1.choose_spec.choose_spec.1
          have hX2' := hb2.choose_spec.choose_spec.1
          obtain ⟨xa, xc, rfl, y1, y2, -⟩ := id hb1
          obtain ⟨xa2, xc2, rfl, z1, z2, -⟩ := id hb2
          have hs1 : ∀ x : Later [] wd, (convert 23 9 (.slice xa ((b.drop (K * i0)).take K).length xc)).run Tryd.prog x.at' = .ok (.string ⟨((b.drop (K * i0)).take K).toArray⟩) x.at' := fun x => run_string_of_bytes (P := Tryd.prog) Tryd.underlying23 Tryd.underlying5 Tryd.underlying9 (hb1.only x.only (by simp))
          have hs2 : ∀ x : Later [] wd, (convert 23 9 (.slice xa2 ((c.drop (K * i0)).take K).length xc2)).run Tryd.prog x.at' = .ok (.string ⟨((c.drop (K * i0)).take K).toArray⟩) x.at' := fun x => run_string_of_bytes (P := Tryd.prog) Tryd.underlying23 Tryd.underlying5 Tryd.underlying9 (hb2.only x.only (by simp))
          have hl1 : ((b.drop (K * i0)).take K).length ≤ 1000 := by simp only [List.length_take, List.length_drop, HNL.out]; have := HN1.out; omega
          have hl2 : ((c.drop (K * i0)).take K).length ≤ 1000 := by simp only [List.length_take, List.length_drop, HCLN.out]; have := HN1.out; omega
          have HF1 : Hid (∀ x : World, Only [] wd x → Calls Tryd.prog 26 #[.string (({ data := #[0] } : ByteArray) ++ ⟨((b.drop (K * i0)).take K).toArray⟩)] x fun e w' => e = .returned (.agg E2) ∧ Only [] x w') := Lib.hid (fun x ho => by
            have h := ref_str (({ data := #[0] } : ByteArray) ++ ⟨((b.drop (K * i0)).take K).toArray⟩) (0 :: (b.drop (K * i0)).take K) (str_cons 0 _) (by simp only [List.length_cons]; omega) x
            rw [show Sha.sum (0 :: (b.drop (K * i0)).take K) = leafD ((b.drop (K * i0)).take K) from rfl, hE1] at h
            exact h)
          have HF2 : Hid (∀ x : World, Only [] wd x → Calls Tryd.prog 26 #[.string (({ data := #[0] } : ByteArray) ++ ⟨((c.drop (K * i0)).take K).toArray⟩)] x fun e w' => e = .returned (.agg E2) ∧ Only [] x w') := Lib.hid (fun x ho => by
            have h := ref_str (({ data := #[0] } : ByteArray) ++ ⟨((c.drop (K * i0)).take K).toArray⟩) (0 :: (c.drop (K * i0)).take K) (str_cons 0 _) (by simp only [List.length_cons]; omega) x
            rw [show Sha.sum (0 :: (c.drop (K * i0)).take K) = leafD ((c.drop (K * i0)).take K) from rfl, ← hsame, hE1] at h
            exact h)
          obtain ⟨Z1, hZ1⟩ : ∃ Z : ByteArray, (⟨((b.drop (K * i0)).take K).toArray⟩ : ByteArray) = Z := ⟨_, rfl⟩
          obtain ⟨Z2, hZ2⟩ : ∃ Z : ByteArray, (⟨((c.drop (K * i0)).take K).toArray⟩ : ByteArray) = Z := ⟨_, rfl⟩
          have hz1 : Z1.size ≤ 1000 := by rw [← hZ1]; exact hl1
          have hz2 : Z2.size ≤ 1000 := by rw [← hZ2]; exact hl2
          rw [hZ1] at hs1 HF1; rw [hZ2] at hs2 HF2
          obtain ⟨M1, hM1⟩ : ∃ M, ((b.drop (K * i0)).take K).length = M := ⟨_, rfl⟩
          obtain ⟨M2, hM2⟩ : ∃ M, ((c.drop (K * i0)).take K).length = M := ⟨_, rfl⟩
          rw [hM1] at hs1 HS1; rw [hM2] at hs2 HS2
          have hmul := HML.out
          have hwA2 : IntKind.i64.wrap (A : Int) = (A : Int) := by rw [IntKind.wrap_i64]; have := HAT.out; have := HN1.out; omega
          have hza : ¬ 9223372036854775807 < 1 + Z1.size := by omega
          have hzb : ¬ 9223372036854775807 < 1 + Z2.size := by omega
          have hwA := HWA.out
          clear hE1 hE1s hE1i hE2s hE2i hsame hb1 hb2 hX1 hX2 hX1' hX2' y1 y2 z1 z2 hl1 hl2 hZ1 hZ2 hM1 hM2 hAT hE2
          --@s
          refine wpAnyM_take (i := 0) (oi := { dst := some 117, op := .fieldAddr 35 (.tmp 11) 2, type := 0, pos := "law.go:148", after := #[], guard := none }) rfl (by kernel_rfl) (by kernel_rfl) (by kernel_rfl) (YieldsOn.pure (by rfl) (by intro x; first | (go_simp; first | done | rfl) | (unfold execOp; simp only [Sem.run_bind]; go_simp; first | done | rfl))) (by exact fun _ _ _ h => h) ?_
          try simp only [Act.put, List.setIfInBounds_toArray, List.set_cons_zero, List.set_cons_succ]
          refine wpAnyM_take (i := 1) (oi := { dst := some 118, op := .load 22 (.tmp 117), type := 22, pos := "law.go:148", after := #[{ on := 0, ground := .data }], guard := none }) rfl (by kernel_rfl) (by kernel_rfl) (by kernel_rfl) (YieldsOn.value (by rfl) (by rfl) (by intro x; first | (go_simp; first | done | rfl) | (unfold execOp; simp only [Sem.run_bind]; go_simp; first | done | rfl))) (by exact fun _ _ _ h => h) ?_
          try simp only [Act.put, List.setIfInBounds_toArray, List.set_cons_zero, List.set_cons_succ]
          refine wpAnyM_take (i := 2) (oi := { dst := some 119, op := .move (.tmp 18), type := 3, pos := "law.go:148", after := #[], guard := none }) rfl (by kernel_rfl) (by kernel_rfl) (by kernel_rfl) (YieldsOn.pure (by rfl) (by intro x; first | (go_simp; first | done | rfl) | (unfold execOp; simp only [Sem.run_bind]; go_simp; first | done | rfl))) (by exact fun _ _ _ h => h) ?_
          try simp only [Act.put, List.setIfInBounds_toArray, List.set_cons_zero, List.set_cons_succ]
          refine wpAnyM_take (i := 3) (oi := { dst := some 120, op := .indexAddr 22 (.tmp 118) (.tmp 119), type := 0, pos := "law.go:148", after := #[{ on := 1, ground := .data }, { on := 2, ground := .data }], guard := none }) rfl (by kernel_rfl) (by kernel_rfl) (by kernel_rfl) (YieldsOn.pure (by rfl) (by intro x; first | (go_simp; first | done | rfl) | (unfold execOp; simp only [Sem.run_bind]; go_simp; first | done | rfl))) (by exact fun _ _ _ h => h) ?_
          try simp only [Act.put, List.setIfInBounds_toArray, List.set_cons_zero, List.set_cons_succ]
          refine wpAnyM_take (i := 4) (oi := { dst := some 121, op := .load 25 (.tmp 120), type := 25, pos := "law.go:148", after := #[{ on := 3, ground := .data }], guard := none }) rfl (by kernel_rfl) (by kernel_rfl) (by kernel_rfl) (YieldsOn.mid (by rfl) 25 (.tmp 120) rfl b1 (o1 + i0 * 32) (by rfl) (fun x => HL1.out x.at' x.only)) (by exact fun _ _ _ h => h) ?_
          try simp only [Act.put, List.setIfInBounds_toArray, List.set_cons_zero, List.set_cons_succ]
          refine wpAnyM_take (i := 5) (oi := { dst := some 122, op := .fieldAddr 35 (.tmp 15) 2, type := 0, pos := "law.go:148", after := #[], guard := none }) rfl (by kernel_rfl) (by kernel_rfl) (by kernel_rfl) (YieldsOn.pure (by rfl) (by intro x; first | (go_simp; first | done | rfl) | (unfold execOp; simp only [Sem.run_bind]; go_simp; first | done | rfl))) (by exact fun _ _ _ h => h) ?_
          try simp only [Act.put, List.setIfInBounds_toArray, List.set_cons_zero, List.set_cons_succ]
          refine wpAnyM_take (i := 6) (oi := { dst := some 123, op := .load 22 (.tmp 122), type := 22, pos := "law.go:148", after := #[{ on := 5, ground := .data }], guard := none }) rfl (by kernel_rfl) (by kernel_rfl) (by kernel_rfl) (YieldsOn.value (by rfl) (by rfl) (by intro x; first | (go_simp; first | done | rfl) | (unfold execOp; simp only [Sem.run_bind]; go_simp; first | done | rfl))) (by exact fun _ _ _ h => h) ?_
          try simp only [Act.put, List.setIfInBounds_toArray, List.set_cons_zero, List.set_cons_succ]
          refine wpAnyM_take (i := 7) (oi := { dst := some 124, op := .move (.tmp 18), type := 3, pos := "law.go:148", after := #[], guard := none }) rfl (by kernel_rfl) (by kernel_rfl) (by kernel_rfl) (YieldsOn.pure (by rfl) (by intro x; first | (go_simp; first | done | rfl) | (unfold execOp; simp only [Sem.run_bind]; go_simp; first | done | rfl))) (by exact fun _ _ _ h => h) ?_
          try simp only [Act.put, List.setIfInBounds_toArray, List.set_cons_zero, List.set_cons_succ]
          refine wpAnyM_take (i := 8) (oi := { dst := some 125, op := .indexAddr 22 (.tmp 123) (.tmp 124), type := 0, pos := "law.go:148", after := #[{ on := 6, ground := .data }, { on := 7, ground := .data }], guard := none }) rfl (by kernel_rfl) (by kernel_rfl) (by kernel_rfl) (YieldsOn.pure (by rfl) (by intro x; first | (go_simp; first | done | rfl) | (unfold execOp; simp only [Sem.run_bind]; go_simp; first | done | rfl))) (by exact fun _ _ _ h => h) ?_
          try simp only [Act.put, List.setIfInBounds_toArray, List.set_cons_zero, List.set_cons_succ]
          refine wpAnyM_take (i := 9) (oi := { dst := some 126, op := .load 25 (.tmp 125), type := 25, pos := "law.go:148", after := #[{ on := 8, ground := .data }], guard := none }) rfl (by kernel_rfl) (by kernel_rfl) (by kernel_rfl) (YieldsOn.mid (by rfl) 25 (.tmp 125) rfl b2 (o2 + i0 * 32) (by rfl) (fun x => HL2.out x.at' x.only)) (by exact fun _ _ _ h => h) ?_
          try simp only [Act.put, List.setIfInBounds_toArray, List.set_cons_zero, List.set_cons_succ]
          refine wpAnyM_take (i := 10) (oi := { dst := some 127, op := .binOp BinOp.neq 25 (.tmp 121) (.tmp 126) 25, type := 4, pos := "law.go:148", after := #[{ on := 4, ground := .data }, { on := 9, ground := .data }], guard := none }) rfl (by kernel_rfl) (by kernel_rfl) (by kernel_rfl) (YieldsOn.value (by rfl) (by rfl) (by intro x; first | (go_simp; first | done | rfl) | (unfold execOp; simp only [Sem.run_bind]; go_simp; first | done | rfl))) (by exact fun _ _ _ h => h) ?_
          try simp only [Act.put, List.setIfInBounds_toArray, List.set_cons_zero, List.set_cons_succ]
          refine wpAnyM_take (i := 11) (oi := { dst := some 128, op := .move (.tmp 127), type := 4, pos := "law.go:148", after := #[{ on := 10, ground := .data }], guard := none }) rfl (by kernel_rfl) (by kernel_rfl) (by kernel_rfl) (YieldsOn.pure (by rfl) (by intro x; first | (go_simp; first | done | rfl) | (unfold execOp; simp only [Sem.run_bind]; go_simp; first | done | rfl))) (by exact fun _ _ _ h => h) ?_
          try simp only [Act.put, List.setIfInBounds_toArray, List.set_cons_zero, List.set_cons_succ]
          --@s11
          refine wpAnyM_take (i := 12) (oi := { dst := some 129, op := .move (.tmp 0), type := 23, pos := "law.go:148", after := #[{ on := 11, ground := .guard }], guard := some (11, false) }) rfl (by kernel_rfl) (by kernel_rfl) (by kernel_rfl) (YieldsOn.pure (by rfl) (by intro x; first | (go_simp; first | done | rfl) | (unfold execOp; simp only [Sem.run_bind]; go_simp; first | done | rfl))) (by exact fun _ _ _ h => h) ?_
          try simp only [Act.put, List.setIfInBounds_toArray, List.set_cons_zero, List.set_cons_succ]
          refine wpAnyM_take (i := 13) (oi := { dst := some 130, op := .move (.tmp 10), type := 3, pos := "law.go:148", after := #[{ on := 11, ground := .guard }], guard := some (11, false) }) rfl (by kernel_rfl) (by kernel_rfl) (by kernel_rfl) (YieldsOn.pure (by rfl) (by intro x; first | (go_simp; first | done | rfl) | (unfold execOp; simp only [Sem.run_bind]; go_simp; first | done | rfl))) (by exact fun _ _ _ h => h) ?_
          try simp only [Act.put, List.setIfInBounds_toArray, List.set_cons_zero, List.set_cons_succ]
          refine wpAnyM_take (i := 14) (oi := { dst := some 131, op := .move (.tmp 18), type := 3, pos := "law.go:148", after := #[{ on := 11, ground := .guard }], guard := some (11, false) }) rfl (by kernel_rfl) (by kernel_rfl) (by kernel_rfl) (YieldsOn.pure (by rfl) (by intro x; first | (go_simp; first | done | rfl) | (unfold execOp; simp only [Sem.run_bind]; go_simp; first | done | rfl))) (by exact fun _ _ _ h => h) ?_
          try simp only [Act.put, List.setIfInBounds_toArray, List.set_cons_zero, List.set_cons_succ]
          refine wpAnyM_take (i := 15) (oi := { dst := some 132, op := .binOp BinOp.mul 3 (.tmp 130) (.tmp 131) 3, type := 3, pos := "law.go:148", after := #[{ on := 13, ground := .data }, { on := 14, ground := .data }, { on := 11, ground := .guard }], guard := some (11, false) }) rfl (by kernel_rfl) (by kernel_rfl) (by kernel_rfl) (YieldsOn.value (by rfl) (by rfl) (by intro x; first | (go_simp; first | done | rfl) | (unfold execOp; simp only [Sem.run_bind]; go_simp; first | done | rfl))) (by exact fun _ _ _ h => h) ?_
          try simp only [Act.put, List.setIfInBounds_toArray, List.set_cons_zero, List.set_cons_succ]
          refine wpAnyM_take (i := 16) (oi := { dst := some 133, op := .move (.tmp 19), type := 3, pos := "law.go:148", after := #[{ on := 11, ground := .guard }], guard := some (11, false) }) rfl (by kernel_rfl) (by kernel_rfl) (by kernel_rfl) (YieldsOn.pure (by rfl) (by intro x; first | (go_simp; first | done | rfl) | (unfold execOp; simp only [Sem.run_bind]; go_simp; first | done | rfl))) (by exact fun _ _ _ h => h) ?_
          try simp only [Act.put, List.setIfInBounds_toArray, List.set_cons_zero, List.set_cons_succ]
          --@s16
          refine wpAnyM_take (i := 17) (oi := { dst := some 134, op := .slice 23 (.tmp 129) (some (.tmp 132)) (some (.tmp 133)) none, type := 23, pos := "law.go:148", after := #[{ on := 12, ground := .data }, { on := 15, ground := .data }, { on := 16, ground := .data }, { on := 11, ground := .guard }], guard := some (11, false) }) rfl (by kernel_rfl) (by kernel_rfl) (by kernel_rfl) (YieldsOn.slice (by rfl) (by rfl) rfl Tryd.underlying23 (by rfl) (by rfl) (by rfl) HS1.out) (by exact fun _ _ _ h => h) ?_
          try simp only [Act.put, List.setIfInBounds_toArray, List.set_cons_zero, List.set_cons_succ]
          refine wpAnyM_take (i := 18) (oi := { dst := some 135, op := .convert 23 9 (.tmp 134), type := 9, pos := "law.go:148", after := #[{ on := 17, ground := .data }, { on := 11, ground := .guard }], guard := some (11, false) }) rfl (by kernel_rfl) (by kernel_rfl) (by kernel_rfl) (YieldsOn.value (by rfl) (by rfl) (by intro x; first | (go_simp; first | done | rfl) | (unfold execOp; simp only [Sem.run_bind]; go_simp; first | done | rfl))) (by exact fun _ _ _ h => h) ?_
          try simp only [Act.put, List.setIfInBounds_toArray, List.set_cons_zero, List.set_cons_succ]
          refine wpAnyM_take (i := 19) (oi := { dst := some 136, op := .binOp BinOp.add 9 (.const (Value.string { data := #[0] })) (.tmp 135) 9, type := 9, pos := "law.go:148", after := #[{ on := 18, ground := .data }, { on := 11, ground := .guard }], guard := some (11, false) }) rfl (by kernel_rfl) (by kernel_rfl) (by kernel_rfl) (YieldsOn.value (by rfl) (by rfl) (by intro x; first | (go_simp; first | done | rfl) | (unfold execOp; simp only [Sem.run_bind]; go_simp; first | done | rfl))) (by exact fun _ _ _ h => h) ?_
          try simp only [Act.put, List.setIfInBounds_toArray, List.set_cons_zero, List.set_cons_succ]
          --@s19
          refine wpAnyM_take (i := 20) (oi := { dst := some 137, op := .call { callee := Callee.value (.func 26), args := #[.tmp 136], argTypes := #[9] }, type := 25, pos := "law.go:148", after := #[{ on := 19, ground := .data }, { on := 11, ground := .chain }, { on := 11, ground := .guard }], guard := some (11, false) }) rfl (by kernel_rfl) (by kernel_rfl) (by kernel_rfl) (YieldsOn.call (by rfl) (by rfl) (by intro x; go_simp; first | done | rfl | exact ⟨rfl, rfl⟩) (fun x => HF1.out x.at' x.only)) (by exact fun _ _ _ h => h) ?_
          try simp only [Act.put, List.setIfInBounds_toArray, List.set_cons_zero, List.set_cons_succ]
          refine wpAnyM_take (i := 21) (oi := { dst := some 138, op := .move (.tmp 13), type := 23, pos := "law.go:148", after := #[{ on := 11, ground := .guard }], guard := some (11, false) }) rfl (by kernel_rfl) (by kernel_rfl) (by kernel_rfl) (YieldsOn.pure (by rfl) (by intro x; first | (go_simp; first | done | rfl) | (unfold execOp; simp only [Sem.run_bind]; go_simp; first | done | rfl))) (by exact fun _ _ _ h => h) ?_
          try simp only [Act.put, List.setIfInBounds_toArray, List.set_cons_zero, List.set_cons_succ]
          refine wpAnyM_take (i := 22) (oi := { dst := some 139, op := .move (.tmp 10), type := 3, pos := "law.go:148", after := #[{ on := 11, ground := .guard }], guard := some (11, false) }) rfl (by kernel_rfl) (by kernel_rfl) (by kernel_rfl) (YieldsOn.pure (by rfl) (by intro x; first | (go_simp; first | done | rfl) | (unfold execOp; simp only [Sem.run_bind]; go_simp; first | done | rfl))) (by exact fun _ _ _ h => h) ?_
          try simp only [Act.put, List.setIfInBounds_toArray, List.set_cons_zero, List.set_cons_succ]
          refine wpAnyM_take (i := 23) (oi := { dst := some 140, op := .move (.tmp 18), type := 3, pos := "law.go:148", after := #[{ on := 11, ground := .guard }], guard := some (11, false) }) rfl (by kernel_rfl) (by kernel_rfl) (by kernel_rfl) (YieldsOn.pure (by rfl) (by intro x; first | (go_simp; first | done | rfl) | (unfold execOp; simp only [Sem.run_bind]; go_simp; first | done | rfl))) (by exact fun _ _ _ h => h) ?_
          try simp only [Act.put, List.setIfInBounds_toArray, List.set_cons_zero, List.set_cons_succ]
          refine wpAnyM_take (i := 24) (oi := { dst := some 141, op := .binOp BinOp.mul 3 (.tmp 139) (.tmp 140) 3, type := 3, pos := "law.go:148", after := #[{ on := 22, ground := .data }, { on := 23, ground := .data }, { on := 11, ground := .guard }], guard := some (11, false) }) rfl (by kernel_rfl) (by kernel_rfl) (by kernel_rfl) (YieldsOn.value (by rfl) (by rfl) (by intro x; first | (go_simp; first | done | rfl) | (unfold execOp; simp only [Sem.run_bind]; go_simp; first | done | rfl))) (by exact fun _ _ _ h => h) ?_
          try simp only [Act.put, List.setIfInBounds_toArray, List.set_cons_zero, List.set_cons_succ]
          refine wpAnyM_take (i := 25) (oi := { dst := some 142, op := .move (.tmp 19), type := 3, pos := "law.go:148", after := #[{ on := 11, ground := .guard }], guard := some (11, false) }) rfl (by kernel_rfl) (by kernel_rfl) (by kernel_rfl) (YieldsOn.pure (by rfl) (by intro x; first | (go_simp; first | done | rfl) | (unfold execOp; simp only [Sem.run_bind]; go_simp; first | done | rfl))) (by exact fun _ _ _ h => h) ?_
          try simp only [Act.put, List.setIfInBounds_toArray, List.set_cons_zero, List.set_cons_succ]
          refine wpAnyM_take (i := 26) (oi := { dst := some 143, op := .slice 23 (.tmp 138) (some (.tmp 141)) (some (.tmp 142)) none, type := 23, pos := "law.go:148", after := #[{ on := 21, ground := .data }, { on := 24, ground := .data }, { on := 25, ground := .data }, { on := 11, ground := .guard }], guard := some (11, false) }) rfl (by kernel_rfl) (by kernel_rfl) (by kernel_rfl) (YieldsOn.slice (by rfl) (by rfl) rfl Tryd.underlying23 (by rfl) (by rfl) (by rfl) HS2.out) (by exact fun _ _ _ h => h) ?_
          try simp only [Act.put, List.setIfInBounds_toArray, List.set_cons_zero, List.set_cons_succ]
          refine wpAnyM_take (i := 27) (oi := { dst := some 144, op := .convert 23 9 (.tmp 143), type := 9, pos := "law.go:148", after := #[{ on := 26, ground := .data }, { on := 11, ground := .guard }], guard := some (11, false) }) rfl (by kernel_rfl) (by kernel_rfl) (by kernel_rfl) (YieldsOn.value (by rfl) (by rfl) (by intro x; first | (go_simp; first | done | rfl) | (unfold execOp; simp only [Sem.run_bind]; go_simp; first | done | rfl))) (by exact fun _ _ _ h => h) ?_
          try simp only [Act.put, List.setIfInBounds_toArray, List.set_cons_zero, List.set_cons_succ]
          refine wpAnyM_take (i := 28) (oi := { dst := some 145, op := .binOp BinOp.add 9 (.const (Value.string { data := #[0] })) (.tmp 144) 9, type := 9, pos := "law.go:148", after := #[{ on := 27, ground := .data }, { on := 11, ground := .guard }], guard := some (11, false) }) rfl (by kernel_rfl) (by kernel_rfl) (by kernel_rfl) (YieldsOn.value (by rfl) (by rfl) (by intro x; first | (go_simp; first | done | rfl) | (unfold execOp; simp only [Sem.run_bind]; go_simp; first | done | rfl))) (by exact fun _ _ _ h => h) ?_
          try simp only [Act.put, List.setIfInBounds_toArray, List.set_cons_zero, List.set_cons_succ]
          refine wpAnyM_take (i := 29) (oi := { dst := some 146, op := .call { callee := Callee.value (.func 26), args := #[.tmp 145], argTypes := #[9] }, type := 25, pos := "law.go:148", after := #[{ on := 28, ground := .data }, { on := 20, ground := .chain }, { on := 11, ground := .guard }], guard := some (11, false) }) rfl (by kernel_rfl) (by kernel_rfl) (by kernel_rfl) (YieldsOn.call (by rfl) (by rfl) (by intro x; go_simp; first | done | rfl | exact ⟨rfl, rfl⟩) (fun x => HF2.out x.at' x.only)) (by exact fun _ _ _ h => h) ?_
          try simp only [Act.put, List.setIfInBounds_toArray, List.set_cons_zero, List.set_cons_succ]
          refine wpAnyM_take (i := 30) (oi := { dst := some 147, op := .binOp BinOp.eql 25 (.tmp 137) (.tmp 146) 25, type := 4, pos := "law.go:148", after := #[{ on := 20, ground := .data }, { on := 29, ground := .data }, { on := 11, ground := .guard }], guard := some (11, false) }) rfl (by kernel_rfl) (by kernel_rfl) (by kernel_rfl) (YieldsOn.value (by rfl) (by rfl) (by intro x; first | (go_simp; first | done | rfl) | (unfold execOp; simp only [Sem.run_bind]; go_simp; first | done | rfl))) (by exact fun _ _ _ h => h) ?_
          try simp only [Act.put, List.setIfInBounds_toArray, List.set_cons_zero, List.set_cons_succ]
          refine wpAnyM_take (i := 31) (oi := { dst := some 148, op := .pick (.tmp 128) (.const (Value.bool true)) (.tmp 147), type := 4, pos := "law.go:148", after := #[{ on := 11, ground := .data }, { on := 30, ground := .data }], guard := none }) rfl (by kernel_rfl) (by kernel_rfl) (by kernel_rfl) (YieldsOn.pure (by rfl) (by intro x; first | (go_simp; first | done | rfl) | (unfold execOp; simp only [Sem.run_bind]; go_simp; first | done | rfl))) (by exact fun _ _ _ h => h) ?_
          try simp only [Act.put, List.setIfInBounds_toArray, List.set_cons_zero, List.set_cons_succ]
          refine wpAnyM_take (i := 32) (oi := { dst := some 8, op := .assign (.tmp 148), type := 4, pos := "law.go:148", after := #[{ on := 31, ground := .data }, { on := 29, ground := .chain }, { on := 0, ground := .phase }, { on := 1, ground := .phase }, { on := 2, ground := .phase }, { on := 3, ground := .phase }, { on := 4, ground := .phase }, { on := 5, ground := .phase }, { on := 6, ground := .phase }, { on := 7, ground := .phase }, { on := 8, ground := .phase }, { on := 9, ground := .phase }, { on := 10, ground := .phase }, { on := 11, ground := .phase }, { on := 12, ground := .phase }, { on := 13, ground := .phase }, { on := 14, ground := .phase }, { on := 15, ground := .phase }, { on := 16, ground := .phase }, { on := 17, ground := .phase }, { on := 18, ground := .phase }, { on := 19, ground := .phase }, { on := 20, ground := .phase }, { on := 21, ground := .phase }, { on := 22, ground := .phase }, { on := 23, ground := .phase }, { on := 24, ground := .phase }, { on := 25, ground := .phase }, { on := 26, ground := .phase }, { on := 27, ground := .phase }, { on := 28, ground := .phase }, { on := 29, ground := .phase }, { on := 30, ground := .phase }, { on := 31, ground := .phase }], guard := none }) rfl (by kernel_rfl) (by kernel_rfl) (by kernel_rfl) (YieldsOn.pure (by rfl) (by intro x; first | (go_simp; first | done | rfl) | (unfold execOp; simp only [Sem.run_bind]; go_simp; first | done | rfl))) (by exact fun _ _ _ h => h) ?_
          try simp only [Act.put, List.setIfInBounds_toArray, List.set_cons_zero, List.set_cons_succ]
          refine wpAnyM_done (by kernel_rfl) (fun x9 hx9 => ?_) _
          go_wp2_with fail
          go_ret
          exact ⟨rfl, (HOd.out.then hx9).below (by simp) (Nat.le_refl _)⟩
        · have hqE : ∀ W, (binOp .neq 25 (.agg E1) (.agg E2)).run Tryd.prog W = .ok (.bool true) W := fun W => by
            have h := neq_dv (leafD ((b.drop (K * i0)).take K)) (leafD ((c.drop (K * i0)).take K)) (Sha.sum_length _) (Sha.sum_length _) W
            rw [hE1, hE2, beq_eq_false_iff_ne.2 hsame] at h
            exact h
          have hgE : ∀ ox oy W, (eqGuard .neq 25 ox oy (.agg E1) (.agg E2)).run Tryd.prog W = .ok () W := fun ox oy W => by
            have h := guard_dv .neq (leafD ((b.drop (K * i0)).take K)) (leafD ((c.drop (K * i0)).take K)) ox oy W
            rw [hE1, hE2] at h
            exact h
          clear hE1 hE1s hE1i hE2 hE2s hE2i hsame
          --@d
          refine wpAnyM_take (i := 0) (oi := { dst := some 117, op := .fieldAddr 35 (.tmp 11) 2, type := 0, pos := "law.go:148", after := #[], guard := none }) rfl (by kernel_rfl) (by kernel_rfl) (by kernel_rfl) (YieldsOn.pure (by rfl) (by intro x; first | (go_simp; first | done | rfl) | (unfold execOp; simp only [Sem.run_bind]; go_simp; first | done | rfl))) (by exact fun _ _ _ h => h) ?_
          try simp only [Act.put, List.setIfInBounds_toArray, List.set_cons_zero, List.set_cons_succ]
          refine wpAnyM_take (i := 1) (oi := { dst := some 118, op := .load 22 (.tmp 117), type := 22, pos := "law.go:148", after := #[{ on := 0, ground := .data }], guard := none }) rfl (by kernel_rfl) (by kernel_rfl) (by kernel_rfl) (YieldsOn.value (by rfl) (by rfl) (by intro x; first | (go_simp; first | done | rfl) | (unfold execOp; simp only [Sem.run_bind]; go_simp; first | done | rfl))) (by exact fun _ _ _ h => h) ?_
          try simp only [Act.put, List.setIfInBounds_toArray, List.set_cons_zero, List.set_cons_succ]
          refine wpAnyM_take (i := 2) (oi := { dst := some 119, op := .move (.tmp 18), type := 3, pos := "law.go:148", after := #[], guard := none }) rfl (by kernel_rfl) (by kernel_rfl) (by kernel_rfl) (YieldsOn.pure (by rfl) (by intro x; first | (go_simp; first | done | rfl) | (unfold execOp; simp only [Sem.run_bind]; go_simp; first | done | rfl))) (by exact fun _ _ _ h => h) ?_
          try simp only [Act.put, List.setIfInBounds_toArray, List.set_cons_zero, List.set_cons_succ]
          refine wpAnyM_take (i := 3) (oi := { dst := some 120, op := .indexAddr 22 (.tmp 118) (.tmp 119), type := 0, pos := "law.go:148", after := #[{ on := 1, ground := .data }, { on := 2, ground := .data }], guard := none }) rfl (by kernel_rfl) (by kernel_rfl) (by kernel_rfl) (YieldsOn.pure (by rfl) (by intro x; first | (go_simp; first | done | rfl) | (unfold execOp; simp only [Sem.run_bind]; go_simp; first | done | rfl))) (by exact fun _ _ _ h => h) ?_
          try simp only [Act.put, List.setIfInBounds_toArray, List.set_cons_zero, List.set_cons_succ]
          refine wpAnyM_take (i := 4) (oi := { dst := some 121, op := .load 25 (.tmp 120), type := 25, pos := "law.go:148", after := #[{ on := 3, ground := .data }], guard := none }) rfl (by kernel_rfl) (by kernel_rfl) (by kernel_rfl) (YieldsOn.mid (by rfl) 25 (.tmp 120) rfl b1 (o1 + i0 * 32) (by rfl) (fun x => HL1.out x.at' x.only)) (by exact fun _ _ _ h => h) ?_
          try simp only [Act.put, List.setIfInBounds_toArray, List.set_cons_zero, List.set_cons_succ]
          refine wpAnyM_take (i := 5) (oi := { dst := some 122, op := .fieldAddr 35 (.tmp 15) 2, type := 0, pos := "law.go:148", after := #[], guard := none }) rfl (by kernel_rfl) (by kernel_rfl) (by kernel_rfl) (YieldsOn.pure (by rfl) (by intro x; first | (go_simp; first | done | rfl) | (unfold execOp; simp only [Sem.run_bind]; go_simp; first | done | rfl))) (by exact fun _ _ _ h => h) ?_
          try simp only [Act.put, List.setIfInBounds_toArray, List.set_cons_zero, List.set_cons_succ]
          refine wpAnyM_take (i := 6) (oi := { dst := some 123, op := .load 22 (.tmp 122), type := 22, pos := "law.go:148", after := #[{ on := 5, ground := .data }], guard := none }) rfl (by kernel_rfl) (by kernel_rfl) (by kernel_rfl) (YieldsOn.value (by rfl) (by rfl) (by intro x; first | (go_simp; first | done | rfl) | (unfold execOp; simp only [Sem.run_bind]; go_simp; first | done | rfl))) (by exact fun _ _ _ h => h) ?_
          try simp only [Act.put, List.setIfInBounds_toArray, List.set_cons_zero, List.set_cons_succ]
          refine wpAnyM_take (i := 7) (oi := { dst := some 124, op := .move (.tmp 18), type := 3, pos := "law.go:148", after := #[], guard := none }) rfl (by kernel_rfl) (by kernel_rfl) (by kernel_rfl) (YieldsOn.pure (by rfl) (by intro x; first | (go_simp; first | done | rfl) | (unfold execOp; simp only [Sem.run_bind]; go_simp; first | done | rfl))) (by exact fun _ _ _ h => h) ?_
          try simp only [Act.put, List.setIfInBounds_toArray, List.set_cons_zero, List.set_cons_succ]
          refine wpAnyM_take (i := 8) (oi := { dst := some 125, op := .indexAddr 22 (.tmp 123) (.tmp 124), type := 0, pos := "law.go:148", after := #[{ on := 6, ground := .data }, { on := 7, ground := .data }], guard := none }) rfl (by kernel_rfl) (by kernel_rfl) (by kernel_rfl) (YieldsOn.pure (by rfl) (by intro x; first | (go_simp; first | done | rfl) | (unfold execOp; simp only [Sem.run_bind]; go_simp; first | done | rfl))) (by exact fun _ _ _ h => h) ?_
          try simp only [Act.put, List.setIfInBounds_toArray, List.set_cons_zero, List.set_cons_succ]
          refine wpAnyM_take (i := 9) (oi := { dst := some 126, op := .load 25 (.tmp 125), type := 25, pos := "law.go:148", after := #[{ on := 8, ground := .data }], guard := none }) rfl (by kernel_rfl) (by kernel_rfl) (by kernel_rfl) (YieldsOn.mid (by rfl) 25 (.tmp 125) rfl b2 (o2 + i0 * 32) (by rfl) (fun x => HL2.out x.at' x.only)) (by exact fun _ _ _ h => h) ?_
          try simp only [Act.put, List.setIfInBounds_toArray, List.set_cons_zero, List.set_cons_succ]
          refine wpAnyM_take (i := 10) (oi := { dst := some 127, op := .binOp BinOp.neq 25 (.tmp 121) (.tmp 126) 25, type := 4, pos := "law.go:148", after := #[{ on := 4, ground := .data }, { on := 9, ground := .data }], guard := none }) rfl (by kernel_rfl) (by kernel_rfl) (by kernel_rfl) (YieldsOn.value (by rfl) (by rfl) (by intro x; first | (go_simp; first | done | rfl) | (unfold execOp; simp only [Sem.run_bind]; go_simp; first | done | rfl))) (by exact fun _ _ _ h => h) ?_
          try simp only [Act.put, List.setIfInBounds_toArray, List.set_cons_zero, List.set_cons_succ]
          refine wpAnyM_take (i := 11) (oi := { dst := some 128, op := .move (.tmp 127), type := 4, pos := "law.go:148", after := #[{ on := 10, ground := .data }], guard := none }) rfl (by kernel_rfl) (by kernel_rfl) (by kernel_rfl) (YieldsOn.pure (by rfl) (by intro x; first | (go_simp; first | done | rfl) | (unfold execOp; simp only [Sem.run_bind]; go_simp; first | done | rfl))) (by exact fun _ _ _ h => h) ?_
          try simp only [Act.put, List.setIfInBounds_toArray, List.set_cons_zero, List.set_cons_succ]
          --@s11
          refine wpAnyM_take (i := 12) (oi := { dst := some 129, op := .move (.tmp 0), type := 23, pos := "law.go:148", after := #[{ on := 11, ground := .guard }], guard := some (11, false) }) rfl (by kernel_rfl) (by kernel_rfl) (by kernel_rfl) (YieldsOn.not (by rfl)) (by exact fun _ _ _ h => h) ?_
          try simp only [Act.put, List.setIfInBounds_toArray, List.set_cons_zero, List.set_cons_succ]
          refine wpAnyM_take (i := 13) (oi := { dst := some 130, op := .move (.tmp 10), type := 3, pos := "law.go:148", after := #[{ on := 11, ground := .guard }], guard := some (11, false) }) rfl (by kernel_rfl) (by kernel_rfl) (by kernel_rfl) (YieldsOn.not (by rfl)) (by exact fun _ _ _ h => h) ?_
          try simp only [Act.put, List.setIfInBounds_toArray, List.set_cons_zero, List.set_cons_succ]
          refine wpAnyM_take (i := 14) (oi := { dst := some 131, op := .move (.tmp 18), type := 3, pos := "law.go:148", after := #[{ on := 11, ground := .guard }], guard := some (11, false) }) rfl (by kernel_rfl) (by kernel_rfl) (by kernel_rfl) (YieldsOn.not (by rfl)) (by exact fun _ _ _ h => h) ?_
          try simp only [Act.put, List.setIfInBounds_toArray, List.set_cons_zero, List.set_cons_succ]
          refine wpAnyM_take (i := 15) (oi := { dst := some 132, op := .binOp BinOp.mul 3 (.tmp 130) (.tmp 131) 3, type := 3, pos := "law.go:148", after := #[{ on := 13, ground := .data }, { on := 14, ground := .data }, { on := 11, ground := .guard }], guard := some (11, false) }) rfl (by kernel_rfl) (by kernel_rfl) (by kernel_rfl) (YieldsOn.not (by rfl)) (by exact fun _ _ _ h => h) ?_
          try simp only [Act.put, List.setIfInBounds_toArray, List.set_cons_zero, List.set_cons_succ]
          refine wpAnyM_take (i := 16) (oi := { dst := some 133, op := .move (.tmp 19), type := 3, pos := "law.go:148", after := #[{ on := 11, ground := .guard }], guard := some (11, false) }) rfl (by kernel_rfl) (by kernel_rfl) (by kernel_rfl) (YieldsOn.not (by rfl)) (by exact fun _ _ _ h => h) ?_
          try simp only [Act.put, List.setIfInBounds_toArray, List.set_cons_zero, List.set_cons_succ]
          refine wpAnyM_take (i := 17) (oi := { dst := some 134, op := .slice 23 (.tmp 129) (some (.tmp 132)) (some (.tmp 133)) none, type := 23, pos := "law.go:148", after := #[{ on := 12, ground := .data }, { on := 15, ground := .data }, { on := 16, ground := .data }, { on := 11, ground := .guard }], guard := some (11, false) }) rfl (by kernel_rfl) (by kernel_rfl) (by kernel_rfl) (YieldsOn.not (by rfl)) (by exact fun _ _ _ h => h) ?_
          try simp only [Act.put, List.setIfInBounds_toArray, List.set_cons_zero, List.set_cons_succ]
          refine wpAnyM_take (i := 18) (oi := { dst := some 135, op := .convert 23 9 (.tmp 134), type := 9, pos := "law.go:148", after := #[{ on := 17, ground := .data }, { on := 11, ground := .guard }], guard := some (11, false) }) rfl (by kernel_rfl) (by kernel_rfl) (by kernel_rfl) (YieldsOn.not (by rfl)) (by exact fun _ _ _ h => h) ?_
          try simp only [Act.put, List.setIfInBounds_toArray, List.set_cons_zero, List.set_cons_succ]
          refine wpAnyM_take (i := 19) (oi := { dst := some 136, op := .binOp BinOp.add 9 (.const (Value.string { data := #[0] })) (.tmp 135) 9, type := 9, pos := "law.go:148", after := #[{ on := 18, ground := .data }, { on := 11, ground := .guard }], guard := some (11, false) }) rfl (by kernel_rfl) (by kernel_rfl) (by kernel_rfl) (YieldsOn.not (by rfl)) (by exact fun _ _ _ h => h) ?_
          try simp only [Act.put, List.setIfInBounds_toArray, List.set_cons_zero, List.set_cons_succ]
          refine wpAnyM_take (i := 20) (oi := { dst := some 137, op := .call { callee := Callee.value (.func 26), args := #[.tmp 136], argTypes := #[9] }, type := 25, pos := "law.go:148", after := #[{ on := 19, ground := .data }, { on := 11, ground := .chain }, { on := 11, ground := .guard }], guard := some (11, false) }) rfl (by kernel_rfl) (by kernel_rfl) (by kernel_rfl) (YieldsOn.not (by rfl)) (by exact fun _ _ _ h => h) ?_
          try simp only [Act.put, List.setIfInBounds_toArray, List.set_cons_zero, List.set_cons_succ]
          refine wpAnyM_take (i := 21) (oi := { dst := some 138, op := .move (.tmp 13), type := 23, pos := "law.go:148", after := #[{ on := 11, ground := .guard }], guard := some (11, false) }) rfl (by kernel_rfl) (by kernel_rfl) (by kernel_rfl) (YieldsOn.not (by rfl)) (by exact fun _ _ _ h => h) ?_
          try simp only [Act.put, List.setIfInBounds_toArray, List.set_cons_zero, List.set_cons_succ]
          refine wpAnyM_take (i := 22) (oi := { dst := some 139, op := .move (.tmp 10), type := 3, pos := "law.go:148", after := #[{ on := 11, ground := .guard }], guard := some (11, false) }) rfl (by kernel_rfl) (by kernel_rfl) (by kernel_rfl) (YieldsOn.not (by rfl)) (by exact fun _ _ _ h => h) ?_
          try simp only [Act.put, List.setIfInBounds_toArray, List.set_cons_zero, List.set_cons_succ]
          refine wpAnyM_take (i := 23) (oi := { dst := some 140, op := .move (.tmp 18), type := 3, pos := "law.go:148", after := #[{ on := 11, ground := .guard }], guard := some (11, false) }) rfl (by kernel_rfl) (by kernel_rfl) (by kernel_rfl) (YieldsOn.not (by rfl)) (by exact fun _ _ _ h => h) ?_
          try simp only [Act.put, List.setIfInBounds_toArray, List.set_cons_zero, List.set_cons_succ]
          refine wpAnyM_take (i := 24) (oi := { dst := some 141, op := .binOp BinOp.mul 3 (.tmp 139) (.tmp 140) 3, type := 3, pos := "law.go:148", after := #[{ on := 22, ground := .data }, { on := 23, ground := .data }, { on := 11, ground := .guard }], guard := some (11, false) }) rfl (by kernel_rfl) (by kernel_rfl) (by kernel_rfl) (YieldsOn.not (by rfl)) (by exact fun _ _ _ h => h) ?_
          try simp only [Act.put, List.setIfInBounds_toArray, List.set_cons_zero, List.set_cons_succ]
          refine wpAnyM_take (i := 25) (oi := { dst := some 142, op := .move (.tmp 19), type := 3, pos := "law.go:148", after := #[{ on := 11, ground := .guard }], guard := some (11, false) }) rfl (by kernel_rfl) (by kernel_rfl) (by kernel_rfl) (YieldsOn.not (by rfl)) (by exact fun _ _ _ h => h) ?_
          try simp only [Act.put, List.setIfInBounds_toArray, List.set_cons_zero, List.set_cons_succ]
          refine wpAnyM_take (i := 26) (oi := { dst := some 143, op := .slice 23 (.tmp 138) (some (.tmp 141)) (some (.tmp 142)) none, type := 23, pos := "law.go:148", after := #[{ on := 21, ground := .data }, { on := 24, ground := .data }, { on := 25, ground := .data }, { on := 11, ground := .guard }], guard := some (11, false) }) rfl (by kernel_rfl) (by kernel_rfl) (by kernel_rfl) (YieldsOn.not (by rfl)) (by exact fun _ _ _ h => h) ?_
          try simp only [Act.put, List.setIfInBounds_toArray, List.set_cons_zero, List.set_cons_succ]
          refine wpAnyM_take (i := 27) (oi := { dst := some 144, op := .convert 23 9 (.tmp 143), type := 9, pos := "law.go:148", after := #[{ on := 26, ground := .data }, { on := 11, ground := .guard }], guard := some (11, false) }) rfl (by kernel_rfl) (by kernel_rfl) (by kernel_rfl) (YieldsOn.not (by rfl)) (by exact fun _ _ _ h => h) ?_
          try simp only [Act.put, List.setIfInBounds_toArray, List.set_cons_zero, List.set_cons_succ]
          refine wpAnyM_take (i := 28) (oi := { dst := some 145, op := .binOp BinOp.add 9 (.const (Value.string { data := #[0] })) (.tmp 144) 9, type := 9, pos := "law.go:148", after := #[{ on := 27, ground := .data }, { on := 11, ground := .guard }], guard := some (11, false) }) rfl (by kernel_rfl) (by kernel_rfl) (by kernel_rfl) (YieldsOn.not (by rfl)) (by exact fun _ _ _ h => h) ?_
          try simp only [Act.put, List.setIfInBounds_toArray, List.set_cons_zero, List.set_cons_succ]
          refine wpAnyM_take (i := 29) (oi := { dst := some 146, op := .call { callee := Callee.value (.func 26), args := #[.tmp 145], argTypes := #[9] }, type := 25, pos := "law.go:148", after := #[{ on := 28, ground := .data }, { on := 20, ground := .chain }, { on := 11, ground := .guard }], guard := some (11, false) }) rfl (by kernel_rfl) (by kernel_rfl) (by kernel_rfl) (YieldsOn.not (by rfl)) (by exact fun _ _ _ h => h) ?_
          try simp only [Act.put, List.setIfInBounds_toArray, List.set_cons_zero, List.set_cons_succ]
          refine wpAnyM_take (i := 30) (oi := { dst := some 147, op := .binOp BinOp.eql 25 (.tmp 137) (.tmp 146) 25, type := 4, pos := "law.go:148", after := #[{ on := 20, ground := .data }, { on := 29, ground := .data }, { on := 11, ground := .guard }], guard := some (11, false) }) rfl (by kernel_rfl) (by kernel_rfl) (by kernel_rfl) (YieldsOn.not (by rfl)) (by exact fun _ _ _ h => h) ?_
          try simp only [Act.put, List.setIfInBounds_toArray, List.set_cons_zero, List.set_cons_succ]
          refine wpAnyM_take (i := 31) (oi := { dst := some 148, op := .pick (.tmp 128) (.const (Value.bool true)) (.tmp 147), type := 4, pos := "law.go:148", after := #[{ on := 11, ground := .data }, { on := 30, ground := .data }], guard := none }) rfl (by kernel_rfl) (by kernel_rfl) (by kernel_rfl) (YieldsOn.pure (by rfl) (by intro x; first | (go_simp; first | done | rfl) | (unfold execOp; simp only [Sem.run_bind]; go_simp; first | done | rfl))) (by exact fun _ _ _ h => h) ?_
          try simp only [Act.put, List.setIfInBounds_toArray, List.set_cons_zero, List.set_cons_succ]
          refine wpAnyM_take (i := 32) (oi := { dst := some 8, op := .assign (.tmp 148), type := 4, pos := "law.go:148", after := #[{ on := 31, ground := .data }, { on := 29, ground := .chain }, { on := 0, ground := .phase }, { on := 1, ground := .phase }, { on := 2, ground := .phase }, { on := 3, ground := .phase }, { on := 4, ground := .phase }, { on := 5, ground := .phase }, { on := 6, ground := .phase }, { on := 7, ground := .phase }, { on := 8, ground := .phase }, { on := 9, ground := .phase }, { on := 10, ground := .phase }, { on := 11, ground := .phase }, { on := 12, ground := .phase }, { on := 13, ground := .phase }, { on := 14, ground := .phase }, { on := 15, ground := .phase }, { on := 16, ground := .phase }, { on := 17, ground := .phase }, { on := 18, ground := .phase }, { on := 19, ground := .phase }, { on := 20, ground := .phase }, { on := 21, ground := .phase }, { on := 22, ground := .phase }, { on := 23, ground := .phase }, { on := 24, ground := .phase }, { on := 25, ground := .phase }, { on := 26, ground := .phase }, { on := 27, ground := .phase }, { on := 28, ground := .phase }, { on := 29, ground := .phase }, { on := 30, ground := .phase }, { on := 31, ground := .phase }], guard := none }) rfl (by kernel_rfl) (by kernel_rfl) (by kernel_rfl) (YieldsOn.pure (by rfl) (by intro x; first | (go_simp; first | done | rfl) | (unfold execOp; simp only [Sem.run_bind]; go_simp; first | done | rfl))) (by exact fun _ _ _ h => h) ?_
          try simp only [Act.put, List.setIfInBounds_toArray, List.set_cons_zero, List.set_cons_succ]
          refine wpAnyM_done (by kernel_rfl) (fun x9 hx9 => ?_) _
          go_wp2_with fail
          go_ret
          exact ⟨rfl, (HOd.out.then hx9).below (by simp) (Nat.le_refl _)⟩
      · have htoI : ¬ (n : Int) < (T0 : Int) := by omega
        have hTn : T = T0 := by omega
        subst hTn
        clear hA hT0 hT hTA hAp hpn hi0l hip
        --@x1
        have hwi2 := HWI.out
        have hwT2 := HWT.out
        go_upto_region 26 with fail
        clear hwi2 hwT2
        --@x2
        --@12
        --@9
        --@10
        --@8
        --@11
        --@11b
        refine wp_region_M [] (by kernel_rfl) ?_
        change wpAnyM _ _ _ _ _ _ _ _ (World.drew _)
        clear hq1 hq2 hTI htoI hltI hAI hpI hwii hwT hwi1 hi1
        have HOd := Lib.hid HO.out.drew; have HO5d := Lib.hid HO5w.out.drew
        generalize World.drew wr = wd at *
        have hc1 : ∀ x : Later [] wd, x.at'.cell? ⟨q1, 2, none⟩ = some (.slice (some ⟨b1, o1, none⟩) N c1) := fun x => (HO5d.out.then x.only).cell HM1.out.cells.2.2.1 (by simp)
        have hc2 : ∀ x : Later [] wd, x.at'.cell? ⟨q2, 2, none⟩ = some (.slice (some ⟨b2, o2, none⟩) N c2) := fun x => (HO5d.out.then x.only).cell HM2.out.cells.2.2.1 (by simp)
        have hi0I : (i0 : Int) < (N : Int) := by have := HI0.out; omega
        have hi00 : (0 : Int) ≤ (i0 : Int) := by omega
        obtain ⟨E1, hE1, hE1s, hE1i, -⟩ := store_facts (leafD ((b.drop (K * i0)).take K)) (Sha.sum_length _)
        obtain ⟨E2, hE2, hE2s, hE2i, -⟩ := store_facts (leafD ((c.drop (K * i0)).take K)) (Sha.sum_length _)
        have HL1 : Hid (∀ x : World, Only [] wd x → (Instr.loadAt 25 (.pointer (some ⟨b1, o1 + i0 * 32, none⟩))).run Tryd.prog x = .ok (.agg E1) x) := Lib.hid (fun x ho => by
          have hr := HG1.out i0 HI0.out
          have he : E1.toList = (leafD ((b.drop (K * i0)).take K)).map u8v := by rw [← Value.agg.inj hE1]
          rw [← he] at hr
          exact run_loadAt_mid x b1 (o1 + i0 * 32) 25 E1.toList _ (fun j v hv => (HO5d.out.then ho).cell (hr j v hv) (by simp)) Tryd.underlying25 rfl hE1i)
        have HL2 : Hid (∀ x : World, Only [] wd x → (Instr.loadAt 25 (.pointer (some ⟨b2, o2 + i0 * 32, none⟩))).run Tryd.prog x = .ok (.agg E2) x) := Lib.hid (fun x ho => by
          have hr := HG2.out i0 HI0.out
          have he : E2.toList = (leafD ((c.drop (K * i0)).take K)).map u8v := by rw [← Value.agg.inj hE2]
          rw [← he] at hr
          exact run_loadAt_mid x b2 (o2 + i0 * 32) 25 E2.toList _ (fun j v hv => (HO5d.out.then ho).cell (hr j v hv) (by simp)) Tryd.underlying25 rfl hE2i)
        by_cases hsame : leafD ((b.drop (K * i0)).take K) = leafD ((c.drop (K * i0)).take K)
        · have hEE : E2 = E1 := by rw [← hsame, hE1] at hE2; exact (Value.agg.inj hE2).symm
          subst hEE
          have hqE : ∀ W, (binOp .neq 25 (.agg E2) (.agg E2)).run Tryd.prog W = .ok (.bool false) W := fun W => by
            have h := neq_dv (leafD ((b.drop (K * i0)).take K)) (leafD ((b.drop (K * i0)).take K)) (Sha.sum_length _) (Sha.sum_length _) W
            rw [hE1, beq_self_eq_true] at h
            exact h
          have hgE : ∀ ox oy W, (eqGuard .neq 25 ox oy (.agg E2) (.agg E2)).run Tryd.prog W = .ok () W := fun ox oy W => by
            have h := guard_dv .neq (leafD ((b.drop (K * i0)).take K)) (leafD ((b.drop (K * i0)).take K)) ox oy W
            rw [hE1] at h
            exact h
          have hqE2 : ∀ W, (binOp .eql 25 (.agg E2) (.agg E2)).run Tryd.prog W = .ok (.bool true) W := fun W => by
            have h := eql_dv (leafD ((b.drop (K * i0)).take K)) (leafD ((b.drop (K * i0)).take K)) (Sha.sum_length _) (Sha.sum_length _) W
            rw [hE1, beq_self_eq_true] at h
            exact h
          have hgE2 : ∀ ox oy W, (eqGuard .eql 25 ox oy (.agg E2) (.agg E2)).run Tryd.prog W = .ok () W := fun ox oy W => by
            have h := guard_dv .eql (leafD ((b.drop (K * i0)).take K)) (leafD ((b.drop (K * i0)).take K)) ox oy W
            rw [hE1] at h
            exact h
          have hAT := HAT.out
          have HS1 := Lib.hid (fun W : World => run_sub_lh Tryd.underlying23 size_u8' a n cap A T hAT.1 (by have := HNC.out; omega) W)
          have HS2 := Lib.hid (fun W : World => run_sub_lh Tryd.underlying23 size_u8' (some ⟨g, 0, none⟩) n ccap A T hAT.1 (by have := HCC.out; omega) W)
          have hb1 := (HV.out.only HOd.out (by simp)).sub A T hAT.1 (by rw [HNL.out]; exact hAT.2)
          have hb2 := (HCB.out.only HO5d.out (by simp)).sub A T hAT.1 (by rw [HCLN.out]; exact hAT.2)
          rw [HTP.out] at hb1
          rw [HTC.out] at hb2
          obtain ⟨X1, hX1⟩ : ∃ X, subv a cap A T = X := ⟨_, rfl⟩
          obtain ⟨X2, hX2⟩ : ∃ X, subv (some ⟨g, 0, none⟩) ccap A T = X := ⟨_, rfl⟩
          rw [hX1] at hb1 HS1; rw [hX2] at hb2 HS2
          have hX1' := hb1.choose_spec.choose_spec.1
          have hX2' := hb2.choose_spec.choose_spec.1
          obtain ⟨xa, xc, rfl, y1, y2, -⟩ := id hb1
          obtain ⟨xa2, xc2, rfl, z1, z2, -⟩ := id hb2
          have hs1 : ∀ x : Later [] wd, (convert 23 9 (.slice xa ((b.drop (K * i0)).take K).length xc)).run Tryd.prog x.at' = .ok (.string ⟨((b.drop (K * i0)).take K).toArray⟩) x.at' := fun x => run_string_of_bytes (P := Tryd.prog) Tryd.underlying23 Tryd.underlying5 Tryd.underlying9 (hb1.only x.only (by simp))
          have hs2 : ∀ x : Later [] wd, (convert 23 9 (.slice xa2 ((c.drop (K * i0)).take K).length xc2)).run Tryd.prog x.at' = .ok (.string ⟨((c.drop (K * i0)).take K).toArray⟩) x.at' := fun x => run_string_of_bytes (P := Tryd.prog) Tryd.underlying23 Tryd.underlying5 Tryd.underlying9 (hb2.only x.only (by simp))
          have hl1 : ((b.drop (K * i0)).take K).length ≤ 1000 := by simp only [List.length_take, List.length_drop, HNL.out]; have := HN1.out; omega
          have hl2 : ((c.drop (K * i0)).take K).length ≤ 1000 := by simp only [List.length_take, List.length_drop, HCLN.out]; have := HN1.out; omega
          have HF1 : Hid (∀ x : World, Only [] wd x → Calls Tryd.prog 26 #[.string (({ data := #[0] } : ByteArray) ++ ⟨((b.drop (K * i0)).take K).toArray⟩)] x fun e w' => e = .returned (.agg E2) ∧ Only [] x w') := Lib.hid (fun x ho => by
            have h := ref_str (({ data := #[0] } : ByteArray) ++ ⟨((b.drop (K * i0)).take K).toArray⟩) (0 :: (b.drop (K * i0)).take K) (str_cons 0 _) (by simp only [List.length_cons]; omega) x
            rw [show Sha.sum (0 :: (b.drop (K * i0)).take K) = leafD ((b.drop (K * i0)).take K) from rfl, hE1] at h
            exact h)
          have HF2 : Hid (∀ x : World, Only [] wd x → Calls Tryd.prog 26 #[.string (({ data := #[0] } : ByteArray) ++ ⟨((c.drop (K * i0)).take K).toArray⟩)] x fun e w' => e = .returned (.agg E2) ∧ Only [] x w') := Lib.hid (fun x ho => by
            have h := ref_str (({ data := #[0] } : ByteArray) ++ ⟨((c.drop (K * i0)).take K).toArray⟩) (0 :: (c.drop (K * i0)).take K) (str_cons 0 _) (by simp only [List.length_cons]; omega) x
            rw [show Sha.sum (0 :: (c.drop (K * i0)).take K) = leafD ((c.drop (K * i0)).take K) from rfl, ← hsame, hE1] at h
            exact h)
          obtain ⟨Z1, hZ1⟩ : ∃ Z : ByteArray, (⟨((b.drop (K * i0)).take K).toArray⟩ : ByteArray) = Z := ⟨_, rfl⟩
          obtain ⟨Z2, hZ2⟩ : ∃ Z : ByteArray, (⟨((c.drop (K * i0)).take K).toArray⟩ : ByteArray) = Z := ⟨_, rfl⟩
          have hz1 : Z1.size ≤ 1000 := by rw [← hZ1]; exact hl1
          have hz2 : Z2.size ≤ 1000 := by rw [← hZ2]; exact hl2
          rw [hZ1] at hs1 HF1; rw [hZ2] at hs2 HF2
          obtain ⟨M1, hM1⟩ : ∃ M, ((b.drop (K * i0)).take K).length = M := ⟨_, rfl⟩
          obtain ⟨M2, hM2⟩ : ∃ M, ((c.drop (K * i0)).take K).length = M := ⟨_, rfl⟩
          rw [hM1] at hs1 HS1; rw [hM2] at hs2 HS2
          have hmul := HML.out
          have hwA2 : IntKind.i64.wrap (A : Int) = (A : Int) := by rw [IntKind.wrap_i64]; have := HAT.out; have := HN1.out; omega
          have hza : ¬ 9223372036854775807 < 1 + Z1.size := by omega
          have hzb : ¬ 9223372036854775807 < 1 + Z2.size := by omega
          have hwA := HWA.out
          clear hE1 hE1s hE1i hE2s hE2i hsame hb1 hb2 hX1 hX2 hX1' hX2' y1 y2 z1 z2 hl1 hl2 hZ1 hZ2 hM1 hM2 hAT hE2
          --@s
          refine wpAnyM_take (i := 0) (oi := { dst := some 117, op := .fieldAddr 35 (.tmp 11) 2, type := 0, pos := "law.go:148", after := #[], guard := none }) rfl (by kernel_rfl) (by kernel_rfl) (by kernel_rfl) (YieldsOn.pure (by rfl) (by intro x; first | (go_simp; first | done | rfl) | (unfold execOp; simp only [Sem.run_bind]; go_simp; first | done | rfl))) (by exact fun _ _ _ h => h) ?_
          try simp only [Act.put, List.setIfInBounds_toArray, List.set_cons_zero, List.set_cons_succ]
          refine wpAnyM_take (i := 1) (oi := { dst := some 118, op := .load 22 (.tmp 117), type := 22, pos := "law.go:148", after := #[{ on := 0, ground := .data }], guard := none }) rfl (by kernel_rfl) (by kernel_rfl) (by kernel_rfl) (YieldsOn.value (by rfl) (by rfl) (by intro x; first | (go_simp; first | done | rfl) | (unfold execOp; simp only [Sem.run_bind]; go_simp; first | done | rfl))) (by exact fun _ _ _ h => h) ?_
          try simp only [Act.put, List.setIfInBounds_toArray, List.set_cons_zero, List.set_cons_succ]
          refine wpAnyM_take (i := 2) (oi := { dst := some 119, op := .move (.tmp 18), type := 3, pos := "law.go:148", after := #[], guard := none }) rfl (by kernel_rfl) (by kernel_rfl) (by kernel_rfl) (YieldsOn.pure (by rfl) (by intro x; first | (go_simp; first | done | rfl) | (unfold execOp; simp only [Sem.run_bind]; go_simp; first | done | rfl))) (by exact fun _ _ _ h => h) ?_
          try simp only [Act.put, List.setIfInBounds_toArray, List.set_cons_zero, List.set_cons_succ]
          refine wpAnyM_take (i := 3) (oi := { dst := some 120, op := .indexAddr 22 (.tmp 118) (.tmp 119), type := 0, pos := "law.go:148", after := #[{ on := 1, ground := .data }, { on := 2, ground := .data }], guard := none }) rfl (by kernel_rfl) (by kernel_rfl) (by kernel_rfl) (YieldsOn.pure (by rfl) (by intro x; first | (go_simp; first | done | rfl) | (unfold execOp; simp only [Sem.run_bind]; go_simp; first | done | rfl))) (by exact fun _ _ _ h => h) ?_
          try simp only [Act.put, List.setIfInBounds_toArray, List.set_cons_zero, List.set_cons_succ]
          refine wpAnyM_take (i := 4) (oi := { dst := some 121, op := .load 25 (.tmp 120), type := 25, pos := "law.go:148", after := #[{ on := 3, ground := .data }], guard := none }) rfl (by kernel_rfl) (by kernel_rfl) (by kernel_rfl) (YieldsOn.mid (by rfl) 25 (.tmp 120) rfl b1 (o1 + i0 * 32) (by rfl) (fun x => HL1.out x.at' x.only)) (by exact fun _ _ _ h => h) ?_
          try simp only [Act.put, List.setIfInBounds_toArray, List.set_cons_zero, List.set_cons_succ]
          refine wpAnyM_take (i := 5) (oi := { dst := some 122, op := .fieldAddr 35 (.tmp 15) 2, type := 0, pos := "law.go:148", after := #[], guard := none }) rfl (by kernel_rfl) (by kernel_rfl) (by kernel_rfl) (YieldsOn.pure (by rfl) (by intro x; first | (go_simp; first | done | rfl) | (unfold execOp; simp only [Sem.run_bind]; go_simp; first | done | rfl))) (by exact fun _ _ _ h => h) ?_
          try simp only [Act.put, List.setIfInBounds_toArray, List.set_cons_zero, List.set_cons_succ]
          refine wpAnyM_take (i := 6) (oi := { dst := some 123, op := .load 22 (.tmp 122), type := 22, pos := "law.go:148", after := #[{ on := 5, ground := .data }], guard := none }) rfl (by kernel_rfl) (by kernel_rfl) (by kernel_rfl) (YieldsOn.value (by rfl) (by rfl) (by intro x; first | (go_simp; first | done | rfl) | (unfold execOp; simp only [Sem.run_bind]; go_simp; first | done | rfl))) (by exact fun _ _ _ h => h) ?_
          try simp only [Act.put, List.setIfInBounds_toArray, List.set_cons_zero, List.set_cons_succ]
          refine wpAnyM_take (i := 7) (oi := { dst := some 124, op := .move (.tmp 18), type := 3, pos := "law.go:148", after := #[], guard := none }) rfl (by kernel_rfl) (by kernel_rfl) (by kernel_rfl) (YieldsOn.pure (by rfl) (by intro x; first | (go_simp; first | done | rfl) | (unfold execOp; simp only [Sem.run_bind]; go_simp; first | done | rfl))) (by exact fun _ _ _ h => h) ?_
          try simp only [Act.put, List.setIfInBounds_toArray, List.set_cons_zero, List.set_cons_succ]
          refine wpAnyM_take (i := 8) (oi := { dst := some 125, op := .indexAddr 22 (.tmp 123) (.tmp 124), type := 0, pos := "law.go:148", after := #[{ on := 6, ground := .data }, { on := 7, ground := .data }], guard := none }) rfl (by kernel_rfl) (by kernel_rfl) (by kernel_rfl) (YieldsOn.pure (by rfl) (by intro x; first | (go_simp; first | done | rfl) | (unfold execOp; simp only [Sem.run_bind]; go_simp; first | done | rfl))) (by exact fun _ _ _ h => h) ?_
          try simp only [Act.put, List.setIfInBounds_toArray, List.set_cons_zero, List.set_cons_succ]
          refine wpAnyM_take (i := 9) (oi := { dst := some 126, op := .load 25 (.tmp 125), type := 25, pos := "law.go:148", after := #[{ on := 8, ground := .data }], guard := none }) rfl (by kernel_rfl) (by kernel_rfl) (by kernel_rfl) (YieldsOn.mid (by rfl) 25 (.tmp 125) rfl b2 (o2 + i0 * 32) (by rfl) (fun x => HL2.out x.at' x.only)) (by exact fun _ _ _ h => h) ?_
          try simp only [Act.put, List.setIfInBounds_toArray, List.set_cons_zero, List.set_cons_succ]
          refine wpAnyM_take (i := 10) (oi := { dst := some 127, op := .binOp BinOp.neq 25 (.tmp 121) (.tmp 126) 25, type := 4, pos := "law.go:148", after := #[{ on := 4, ground := .data }, { on := 9, ground := .data }], guard := none }) rfl (by kernel_rfl) (by kernel_rfl) (by kernel_rfl) (YieldsOn.value (by rfl) (by rfl) (by intro x; first | (go_simp; first | done | rfl) | (unfold execOp; simp only [Sem.run_bind]; go_simp; first | done | rfl))) (by exact fun _ _ _ h => h) ?_
          try simp only [Act.put, List.setIfInBounds_toArray, List.set_cons_zero, List.set_cons_succ]
          refine wpAnyM_take (i := 11) (oi := { dst := some 128, op := .move (.tmp 127), type := 4, pos := "law.go:148", after := #[{ on := 10, ground := .data }], guard := none }) rfl (by kernel_rfl) (by kernel_rfl) (by kernel_rfl) (YieldsOn.pure (by rfl) (by intro x; first | (go_simp; first | done | rfl) | (unfold execOp; simp only [Sem.run_bind]; go_simp; first | done | rfl))) (by exact fun _ _ _ h => h) ?_
          try simp only [Act.put, List.setIfInBounds_toArray, List.set_cons_zero, List.set_cons_succ]
          --@s11
          refine wpAnyM_take (i := 12) (oi := { dst := some 129, op := .move (.tmp 0), type := 23, pos := "law.go:148", after := #[{ on := 11, ground := .guard }], guard := some (11, false) }) rfl (by kernel_rfl) (by kernel_rfl) (by kernel_rfl) (YieldsOn.pure (by rfl) (by intro x; first | (go_simp; first | done | rfl) | (unfold execOp; simp only [Sem.run_bind]; go_simp; first | done | rfl))) (by exact fun _ _ _ h => h) ?_
          try simp only [Act.put, List.setIfInBounds_toArray, List.set_cons_zero, List.set_cons_succ]
          refine wpAnyM_take (i := 13) (oi := { dst := some 130, op := .move (.tmp 10), type := 3, pos := "law.go:148", after := #[{ on := 11, ground := .guard }], guard := some (11, false) }) rfl (by kernel_rfl) (by kernel_rfl) (by kernel_rfl) (YieldsOn.pure (by rfl) (by intro x; first | (go_simp; first | done | rfl) | (unfold execOp; simp only [Sem.run_bind]; go_simp; first | done | rfl))) (by exact fun _ _ _ h => h) ?_
          try simp only [Act.put, List.setIfInBounds_toArray, List.set_cons_zero, List.set_cons_succ]
          refine wpAnyM_take (i := 14) (oi := { dst := some 131, op := .move (.tmp 18), type := 3, pos := "law.go:148", after := #[{ on := 11, ground := .guard }], guard := some (11, false) }) rfl (by kernel_rfl) (by kernel_rfl) (by kernel_rfl) (YieldsOn.pure (by rfl) (by intro x; first | (go_simp; first | done | rfl) | (unfold execOp; simp only [Sem.run_bind]; go_simp; first | done | rfl))) (by exact fun _ _ _ h => h) ?_
          try simp only [Act.put, List.setIfInBounds_toArray, List.set_cons_zero, List.set_cons_succ]
          refine wpAnyM_take (i := 15) (oi := { dst := some 132, op := .binOp BinOp.mul 3 (.tmp 130) (.tmp 131) 3, type := 3, pos := "law.go:148", after := #[{ on := 13, ground := .data }, { on := 14, ground := .data }, { on := 11, ground := .guard }], guard := some (11, false) }) rfl (by kernel_rfl) (by kernel_rfl) (by kernel_rfl) (YieldsOn.value (by rfl) (by rfl) (by intro x; first | (go_simp; first | done | rfl) | (unfold execOp; simp only [Sem.run_bind]; go_simp; first | done | rfl))) (by exact fun _ _ _ h => h) ?_
          try simp only [Act.put, List.setIfInBounds_toArray, List.set_cons_zero, List.set_cons_succ]
          refine wpAnyM_take (i := 16) (oi := { dst := some 133, op := .move (.tmp 19), type := 3, pos := "law.go:148", after := #[{ on := 11, ground := .guard }], guard := some (11, false) }) rfl (by kernel_rfl) (by kernel_rfl) (by kernel_rfl) (YieldsOn.pure (by rfl) (by intro x; first | (go_simp; first | done | rfl) | (unfold execOp; simp only [Sem.run_bind]; go_simp; first | done | rfl))) (by exact fun _ _ _ h => h) ?_
          try simp only [Act.put, List.setIfInBounds_toArray, List.set_cons_zero, List.set_cons_succ]
          --@s16
          refine wpAnyM_take (i := 17) (oi := { dst := some 134, op := .slice 23 (.tmp 129) (some (.tmp 132)) (some (.tmp 133)) none, type := 23, pos := "law.go:148", after := #[{ on := 12, ground := .data }, { on := 15, ground := .data }, { on := 16, ground := .data }, { on := 11, ground := .guard }], guard := some (11, false) }) rfl (by kernel_rfl) (by kernel_rfl) (by kernel_rfl) (YieldsOn.slice (by rfl) (by rfl) rfl Tryd.underlying23 (by rfl) (by rfl) (by rfl) HS1.out) (by exact fun _ _ _ h => h) ?_
          try simp only [Act.put, List.setIfInBounds_toArray, List.set_cons_zero, List.set_cons_succ]
          refine wpAnyM_take (i := 18) (oi := { dst := some 135, op := .convert 23 9 (.tmp 134), type := 9, pos := "law.go:148", after := #[{ on := 17, ground := .data }, { on := 11, ground := .guard }], guard := some (11, false) }) rfl (by kernel_rfl) (by kernel_rfl) (by kernel_rfl) (YieldsOn.value (by rfl) (by rfl) (by intro x; first | (go_simp; first | done | rfl) | (unfold execOp; simp only [Sem.run_bind]; go_simp; first | done | rfl))) (by exact fun _ _ _ h => h) ?_
          try simp only [Act.put, List.setIfInBounds_toArray, List.set_cons_zero, List.set_cons_succ]
          refine wpAnyM_take (i := 19) (oi := { dst := some 136, op := .binOp BinOp.add 9 (.const (Value.string { data := #[0] })) (.tmp 135) 9, type := 9, pos := "law.go:148", after := #[{ on := 18, ground := .data }, { on := 11, ground := .guard }], guard := some (11, false) }) rfl (by kernel_rfl) (by kernel_rfl) (by kernel_rfl) (YieldsOn.value (by rfl) (by rfl) (by intro x; first | (go_simp; first | done | rfl) | (unfold execOp; simp only [Sem.run_bind]; go_simp; first | done | rfl))) (by exact fun _ _ _ h => h) ?_
          try simp only [Act.put, List.setIfInBounds_toArray, List.set_cons_zero, List.set_cons_succ]
          --@s19
          refine wpAnyM_take (i := 20) (oi := { dst := some 137, op := .call { callee := Callee.value (.func 26), args := #[.tmp 136], argTypes := #[9] }, type := 25, pos := "law.go:148", after := #[{ on := 19, ground := .data }, { on := 11, ground := .chain }, { on := 11, ground := .guard }], guard := some (11, false) }) rfl (by kernel_rfl) (by kernel_rfl) (by kernel_rfl) (YieldsOn.call (by rfl) (by rfl) (by intro x; go_simp; first | done | rfl | exact ⟨rfl, rfl⟩) (fun x => HF1.out x.at' x.only)) (by exact fun _ _ _ h => h) ?_
          try simp only [Act.put, List.setIfInBounds_toArray, List.set_cons_zero, List.set_cons_succ]
          refine wpAnyM_take (i := 21) (oi := { dst := some 138, op := .move (.tmp 13), type := 23, pos := "law.go:148", after := #[{ on := 11, ground := .guard }], guard := some (11, false) }) rfl (by kernel_rfl) (by kernel_rfl) (by kernel_rfl) (YieldsOn.pure (by rfl) (by intro x; first | (go_simp; first | done | rfl) | (unfold execOp; simp only [Sem.run_bind]; go_simp; first | done | rfl))) (by exact fun _ _ _ h => h) ?_
          try simp only [Act.put, List.setIfInBounds_toArray, List.set_cons_zero, List.set_cons_succ]
          refine wpAnyM_take (i := 22) (oi := { dst := some 139, op := .move (.tmp 10), type := 3, pos := "law.go:148", after := #[{ on := 11, ground := .guard }], guard := some (11, false) }) rfl (by kernel_rfl) (by kernel_rfl) (by kernel_rfl) (YieldsOn.pure (by rfl) (by intro x; first | (go_simp; first | done | rfl) | (unfold execOp; simp only [Sem.run_bind]; go_simp; first | done | rfl))) (by exact fun _ _ _ h => h) ?_
          try simp only [Act.put, List.setIfInBounds_toArray, List.set_cons_zero, List.set_cons_succ]
          refine wpAnyM_take (i := 23) (oi := { dst := some 140, op := .move (.tmp 18), type := 3, pos := "law.go:148", after := #[{ on := 11, ground := .guard }], guard := some (11, false) }) rfl (by kernel_rfl) (by kernel_rfl) (by kernel_rfl) (YieldsOn.pure (by rfl) (by intro x; first | (go_simp; first | done | rfl) | (unfold execOp; simp only [Sem.run_bind]; go_simp; first | done | rfl))) (by exact fun _ _ _ h => h) ?_
          try simp only [Act.put, List.setIfInBounds_toArray, List.set_cons_zero, List.set_cons_succ]
          refine wpAnyM_take (i := 24) (oi := { dst := some 141, op := .binOp BinOp.mul 3 (.tmp 139) (.tmp 140) 3, type := 3, pos := "law.go:148", after := #[{ on := 22, ground := .data }, { on := 23, ground := .data }, { on := 11, ground := .guard }], guard := some (11, false) }) rfl (by kernel_rfl) (by kernel_rfl) (by kernel_rfl) (YieldsOn.value (by rfl) (by rfl) (by intro x; first | (go_simp; first | done | rfl) | (unfold execOp; simp only [Sem.run_bind]; go_simp; first | done | rfl))) (by exact fun _ _ _ h => h) ?_
          try simp only [Act.put, List.setIfInBounds_toArray, List.set_cons_zero, List.set_cons_succ]
          refine wpAnyM_take (i := 25) (oi := { dst := some 142, op := .move (.tmp 19), type := 3, pos := "law.go:148", after := #[{ on := 11, ground := .guard }], guard := some (11, false) }) rfl (by kernel_rfl) (by kernel_rfl) (by kernel_rfl) (YieldsOn.pure (by rfl) (by intro x; first | (go_simp; first | done | rfl) | (unfold execOp; simp only [Sem.run_bind]; go_simp; first | done | rfl))) (by exact fun _ _ _ h => h) ?_
          try simp only [Act.put, List.setIfInBounds_toArray, List.set_cons_zero, List.set_cons_succ]
          refine wpAnyM_take (i := 26) (oi := { dst := some 143, op := .slice 23 (.tmp 138) (some (.tmp 141)) (some (.tmp 142)) none, type := 23, pos := "law.go:148", after := #[{ on := 21, ground := .data }, { on := 24, ground := .data }, { on := 25, ground := .data }, { on := 11, ground := .guard }], guard := some (11, false) }) rfl (by kernel_rfl) (by kernel_rfl) (by kernel_rfl) (YieldsOn.slice (by rfl) (by rfl) rfl Tryd.underlying23 (by rfl) (by rfl) (by rfl) HS2.out) (by exact fun _ _ _ h => h) ?_
          try simp only [Act.put, List.setIfInBounds_toArray, List.set_cons_zero, List.set_cons_succ]
          refine wpAnyM_take (i := 27) (oi := { dst := some 144, op := .convert 23 9 (.tmp 143), type := 9, pos := "law.go:148", after := #[{ on := 26, ground := .data }, { on := 11, ground := .guard }], guard := some (11, false) }) rfl (by kernel_rfl) (by kernel_rfl) (by kernel_rfl) (YieldsOn.value (by rfl) (by rfl) (by intro x; first | (go_simp; first | done | rfl) | (unfold execOp; simp only [Sem.run_bind]; go_simp; first | done | rfl))) (by exact fun _ _ _ h => h) ?_
          try simp only [Act.put, List.setIfInBounds_toArray, List.set_cons_zero, List.set_cons_succ]
          refine wpAnyM_take (i := 28) (oi := { dst := some 145, op := .binOp BinOp.add 9 (.const (Value.string { data := #[0] })) (.tmp 144) 9, type := 9, pos := "law.go:148", after := #[{ on := 27, ground := .data }, { on := 11, ground := .guard }], guard := some (11, false) }) rfl (by kernel_rfl) (by kernel_rfl) (by kernel_rfl) (YieldsOn.value (by rfl) (by rfl) (by intro x; first | (go_simp; first | done | rfl) | (unfold execOp; simp only [Sem.run_bind]; go_simp; first | done | rfl))) (by exact fun _ _ _ h => h) ?_
          try simp only [Act.put, List.setIfInBounds_toArray, List.set_cons_zero, List.set_cons_succ]
          refine wpAnyM_take (i := 29) (oi := { dst := some 146, op := .call { callee := Callee.value (.func 26), args := #[.tmp 145], argTypes := #[9] }, type := 25, pos := "law.go:148", after := #[{ on := 28, ground := .data }, { on := 20, ground := .chain }, { on := 11, ground := .guard }], guard := some (11, false) }) rfl (by kernel_rfl) (by kernel_rfl) (by kernel_rfl) (YieldsOn.call (by rfl) (by rfl) (by intro x; go_simp; first | done | rfl | exact ⟨rfl, rfl⟩) (fun x => HF2.out x.at' x.only)) (by exact fun _ _ _ h => h) ?_
          try simp only [Act.put, List.setIfInBounds_toArray, List.set_cons_zero, List.set_cons_succ]
          refine wpAnyM_take (i := 30) (oi := { dst := some 147, op := .binOp BinOp.eql 25 (.tmp 137) (.tmp 146) 25, type := 4, pos := "law.go:148", after := #[{ on := 20, ground := .data }, { on := 29, ground := .data }, { on := 11, ground := .guard }], guard := some (11, false) }) rfl (by kernel_rfl) (by kernel_rfl) (by kernel_rfl) (YieldsOn.value (by rfl) (by rfl) (by intro x; first | (go_simp; first | done | rfl) | (unfold execOp; simp only [Sem.run_bind]; go_simp; first | done | rfl))) (by exact fun _ _ _ h => h) ?_
          try simp only [Act.put, List.setIfInBounds_toArray, List.set_cons_zero, List.set_cons_succ]
          refine wpAnyM_take (i := 31) (oi := { dst := some 148, op := .pick (.tmp 128) (.const (Value.bool true)) (.tmp 147), type := 4, pos := "law.go:148", after := #[{ on := 11, ground := .data }, { on := 30, ground := .data }], guard := none }) rfl (by kernel_rfl) (by kernel_rfl) (by kernel_rfl) (YieldsOn.pure (by rfl) (by intro x; first | (go_simp; first | done | rfl) | (unfold execOp; simp only [Sem.run_bind]; go_simp; first | done | rfl))) (by exact fun _ _ _ h => h) ?_
          try simp only [Act.put, List.setIfInBounds_toArray, List.set_cons_zero, List.set_cons_succ]
          refine wpAnyM_take (i := 32) (oi := { dst := some 8, op := .assign (.tmp 148), type := 4, pos := "law.go:148", after := #[{ on := 31, ground := .data }, { on := 29, ground := .chain }, { on := 0, ground := .phase }, { on := 1, ground := .phase }, { on := 2, ground := .phase }, { on := 3, ground := .phase }, { on := 4, ground := .phase }, { on := 5, ground := .phase }, { on := 6, ground := .phase }, { on := 7, ground := .phase }, { on := 8, ground := .phase }, { on := 9, ground := .phase }, { on := 10, ground := .phase }, { on := 11, ground := .phase }, { on := 12, ground := .phase }, { on := 13, ground := .phase }, { on := 14, ground := .phase }, { on := 15, ground := .phase }, { on := 16, ground := .phase }, { on := 17, ground := .phase }, { on := 18, ground := .phase }, { on := 19, ground := .phase }, { on := 20, ground := .phase }, { on := 21, ground := .phase }, { on := 22, ground := .phase }, { on := 23, ground := .phase }, { on := 24, ground := .phase }, { on := 25, ground := .phase }, { on := 26, ground := .phase }, { on := 27, ground := .phase }, { on := 28, ground := .phase }, { on := 29, ground := .phase }, { on := 30, ground := .phase }, { on := 31, ground := .phase }], guard := none }) rfl (by kernel_rfl) (by kernel_rfl) (by kernel_rfl) (YieldsOn.pure (by rfl) (by intro x; first | (go_simp; first | done | rfl) | (unfold execOp; simp only [Sem.run_bind]; go_simp; first | done | rfl))) (by exact fun _ _ _ h => h) ?_
          try simp only [Act.put, List.setIfInBounds_toArray, List.set_cons_zero, List.set_cons_succ]
          refine wpAnyM_done (by kernel_rfl) (fun x9 hx9 => ?_) _
          go_wp2_with fail
          go_ret
          exact ⟨rfl, (HOd.out.then hx9).below (by simp) (Nat.le_refl _)⟩
        · have hqE : ∀ W, (binOp .neq 25 (.agg E1) (.agg E2)).run Tryd.prog W = .ok (.bool true) W := fun W => by
            have h := neq_dv (leafD ((b.drop (K * i0)).take K)) (leafD ((c.drop (K * i0)).take K)) (Sha.sum_length _) (Sha.sum_length _) W
            rw [hE1, hE2, beq_eq_false_iff_ne.2 hsame] at h
            exact h
          have hgE : ∀ ox oy W, (eqGuard .neq 25 ox oy (.agg E1) (.agg E2)).run Tryd.prog W = .ok () W := fun ox oy W => by
            have h := guard_dv .neq (leafD ((b.drop (K * i0)).take K)) (leafD ((c.drop (K * i0)).take K)) ox oy W
            rw [hE1, hE2] at h
            exact h
          clear hE1 hE1s hE1i hE2 hE2s hE2i hsame
          --@d
          refine wpAnyM_take (i := 0) (oi := { dst := some 117, op := .fieldAddr 35 (.tmp 11) 2, type := 0, pos := "law.go:148", after := #[], guard := none }) rfl (by kernel_rfl) (by kernel_rfl) (by kernel_rfl) (YieldsOn.pure (by rfl) (by intro x; first | (go_simp; first | done | rfl) | (unfold execOp; simp only [Sem.run_bind]; go_simp; first | done | rfl))) (by exact fun _ _ _ h => h) ?_
          try simp only [Act.put, List.setIfInBounds_toArray, List.set_cons_zero, List.set_cons_succ]
          refine wpAnyM_take (i := 1) (oi := { dst := some 118, op := .load 22 (.tmp 117), type := 22, pos := "law.go:148", after := #[{ on := 0, ground := .data }], guard := none }) rfl (by kernel_rfl) (by kernel_rfl) (by kernel_rfl) (YieldsOn.value (by rfl) (by rfl) (by intro x; first | (go_simp; first | done | rfl) | (unfold execOp; simp only [Sem.run_bind]; go_simp; first | done | rfl))) (by exact fun _ _ _ h => h) ?_
          try simp only [Act.put, List.setIfInBounds_toArray, List.set_cons_zero, List.set_cons_succ]
          refine wpAnyM_take (i := 2) (oi := { dst := some 119, op := .move (.tmp 18), type := 3, pos := "law.go:148", after := #[], guard := none }) rfl (by kernel_rfl) (by kernel_rfl) (by kernel_rfl) (YieldsOn.pure (by rfl) (by intro x; first | (go_simp; first | done | rfl) | (unfold execOp; simp only [Sem.run_bind]; go_simp; first | done | rfl))) (by exact fun _ _ _ h => h) ?_
          try simp only [Act.put, List.setIfInBounds_toArray, List.set_cons_zero, List.set_cons_succ]
          refine wpAnyM_take (i := 3) (oi := { dst := some 120, op := .indexAddr 22 (.tmp 118) (.tmp 119), type := 0, pos := "law.go:148", after := #[{ on := 1, ground := .data }, { on := 2, ground := .data }], guard := none }) rfl (by kernel_rfl) (by kernel_rfl) (by kernel_rfl) (YieldsOn.pure (by rfl) (by intro x; first | (go_simp; first | done | rfl) | (unfold execOp; simp only [Sem.run_bind]; go_simp; first | done | rfl))) (by exact fun _ _ _ h => h) ?_
          try simp only [Act.put, List.setIfInBounds_toArray, List.set_cons_zero, List.set_cons_succ]
          refine wpAnyM_take (i := 4) (oi := { dst := some 121, op := .load 25 (.tmp 120), type := 25, pos := "law.go:148", after := #[{ on := 3, ground := .data }], guard := none }) rfl (by kernel_rfl) (by kernel_rfl) (by kernel_rfl) (YieldsOn.mid (by rfl) 25 (.tmp 120) rfl b1 (o1 + i0 * 32) (by rfl) (fun x => HL1.out x.at' x.only)) (by exact fun _ _ _ h => h) ?_
          try simp only [Act.put, List.setIfInBounds_toArray, List.set_cons_zero, List.set_cons_succ]
          refine wpAnyM_take (i := 5) (oi := { dst := some 122, op := .fieldAddr 35 (.tmp 15) 2, type := 0, pos := "law.go:148", after := #[], guard := none }) rfl (by kernel_rfl) (by kernel_rfl) (by kernel_rfl) (YieldsOn.pure (by rfl) (by intro x; first | (go_simp; first | done | rfl) | (unfold execOp; simp only [Sem.run_bind]; go_simp; first | done | rfl))) (by exact fun _ _ _ h => h) ?_
          try simp only [Act.put, List.setIfInBounds_toArray, List.set_cons_zero, List.set_cons_succ]
          refine wpAnyM_take (i := 6) (oi := { dst := some 123, op := .load 22 (.tmp 122), type := 22, pos := "law.go:148", after := #[{ on := 5, ground := .data }], guard := none }) rfl (by kernel_rfl) (by kernel_rfl) (by kernel_rfl) (YieldsOn.value (by rfl) (by rfl) (by intro x; first | (go_simp; first | done | rfl) | (unfold execOp; simp only [Sem.run_bind]; go_simp; first | done | rfl))) (by exact fun _ _ _ h => h) ?_
          try simp only [Act.put, List.setIfInBounds_toArray, List.set_cons_zero, List.set_cons_succ]
          refine wpAnyM_take (i := 7) (oi := { dst := some 124, op := .move (.tmp 18), type := 3, pos := "law.go:148", after := #[], guard := none }) rfl (by kernel_rfl) (by kernel_rfl) (by kernel_rfl) (YieldsOn.pure (by rfl) (by intro x; first | (go_simp; first | done | rfl) | (unfold execOp; simp only [Sem.run_bind]; go_simp; first | done | rfl))) (by exact fun _ _ _ h => h) ?_
          try simp only [Act.put, List.setIfInBounds_toArray, List.set_cons_zero, List.set_cons_succ]
          refine wpAnyM_take (i := 8) (oi := { dst := some 125, op := .indexAddr 22 (.tmp 123) (.tmp 124), type := 0, pos := "law.go:148", after := #[{ on := 6, ground := .data }, { on := 7, ground := .data }], guard := none }) rfl (by kernel_rfl) (by kernel_rfl) (by kernel_rfl) (YieldsOn.pure (by rfl) (by intro x; first | (go_simp; first | done | rfl) | (unfold execOp; simp only [Sem.run_bind]; go_simp; first | done | rfl))) (by exact fun _ _ _ h => h) ?_
          try simp only [Act.put, List.setIfInBounds_toArray, List.set_cons_zero, List.set_cons_succ]
          refine wpAnyM_take (i := 9) (oi := { dst := some 126, op := .load 25 (.tmp 125), type := 25, pos := "law.go:148", after := #[{ on := 8, ground := .data }], guard := none }) rfl (by kernel_rfl) (by kernel_rfl) (by kernel_rfl) (YieldsOn.mid (by rfl) 25 (.tmp 125) rfl b2 (o2 + i0 * 32) (by rfl) (fun x => HL2.out x.at' x.only)) (by exact fun _ _ _ h => h) ?_
          try simp only [Act.put, List.setIfInBounds_toArray, List.set_cons_zero, List.set_cons_succ]
          refine wpAnyM_take (i := 10) (oi := { dst := some 127, op := .binOp BinOp.neq 25 (.tmp 121) (.tmp 126) 25, type := 4, pos := "law.go:148", after := #[{ on := 4, ground := .data }, { on := 9, ground := .data }], guard := none }) rfl (by kernel_rfl) (by kernel_rfl) (by kernel_rfl) (YieldsOn.value (by rfl) (by rfl) (by intro x; first | (go_simp; first | done | rfl) | (unfold execOp; simp only [Sem.run_bind]; go_simp; first | done | rfl))) (by exact fun _ _ _ h => h) ?_
          try simp only [Act.put, List.setIfInBounds_toArray, List.set_cons_zero, List.set_cons_succ]
          refine wpAnyM_take (i := 11) (oi := { dst := some 128, op := .move (.tmp 127), type := 4, pos := "law.go:148", after := #[{ on := 10, ground := .data }], guard := none }) rfl (by kernel_rfl) (by kernel_rfl) (by kernel_rfl) (YieldsOn.pure (by rfl) (by intro x; first | (go_simp; first | done | rfl) | (unfold execOp; simp only [Sem.run_bind]; go_simp; first | done | rfl))) (by exact fun _ _ _ h => h) ?_
          try simp only [Act.put, List.setIfInBounds_toArray, List.set_cons_zero, List.set_cons_succ]
          --@s11
          refine wpAnyM_take (i := 12) (oi := { dst := some 129, op := .move (.tmp 0), type := 23, pos := "law.go:148", after := #[{ on := 11, ground := .guard }], guard := some (11, false) }) rfl (by kernel_rfl) (by kernel_rfl) (by kernel_rfl) (YieldsOn.not (by rfl)) (by exact fun _ _ _ h => h) ?_
          try simp only [Act.put, List.setIfInBounds_toArray, List.set_cons_zero, List.set_cons_succ]
          refine wpAnyM_take (i := 13) (oi := { dst := some 130, op := .move (.tmp 10), type := 3, pos := "law.go:148", after := #[{ on := 11, ground := .guard }], guard := some (11, false) }) rfl (by kernel_rfl) (by kernel_rfl) (by kernel_rfl) (YieldsOn.not (by rfl)) (by exact fun _ _ _ h => h) ?_
          try simp only [Act.put, List.setIfInBounds_toArray, List.set_cons_zero, List.set_cons_succ]
          refine wpAnyM_take (i := 14) (oi := { dst := some 131, op := .move (.tmp 18), type := 3, pos := "law.go:148", after := #[{ on := 11, ground := .guard }], guard := some (11, false) }) rfl (by kernel_rfl) (by kernel_rfl) (by kernel_rfl) (YieldsOn.not (by rfl)) (by exact fun _ _ _ h => h) ?_
          try simp only [Act.put, List.setIfInBounds_toArray, List.set_cons_zero, List.set_cons_succ]
          refine wpAnyM_take (i := 15) (oi := { dst := some 132, op := .binOp BinOp.mul 3 (.tmp 130) (.tmp 131) 3, type := 3, pos := "law.go:148", after := #[{ on := 13, ground := .data }, { on := 14, ground := .data }, { on := 11, ground := .guard }], guard := some (11, false) }) rfl (by kernel_rfl) (by kernel_rfl) (by kernel_rfl) (YieldsOn.not (by rfl)) (by exact fun _ _ _ h => h) ?_
          try simp only [Act.put, List.setIfInBounds_toArray, List.set_cons_zero, List.set_cons_succ]
          refine wpAnyM_take (i := 16) (oi := { dst := some 133, op := .move (.tmp 19), type := 3, pos := "law.go:148", after := #[{ on := 11, ground := .guard }], guard := some (11, false) }) rfl (by kernel_rfl) (by kernel_rfl) (by kernel_rfl) (YieldsOn.not (by rfl)) (by exact fun _ _ _ h => h) ?_
          try simp only [Act.put, List.setIfInBounds_toArray, List.set_cons_zero, List.set_cons_succ]
          refine wpAnyM_take (i := 17) (oi := { dst := some 134, op := .slice 23 (.tmp 129) (some (.tmp 132)) (some (.tmp 133)) none, type := 23, pos := "law.go:148", after := #[{ on := 12, ground := .data }, { on := 15, ground := .data }, { on := 16, ground := .data }, { on := 11, ground := .guard }], guard := some (11, false) }) rfl (by kernel_rfl) (by kernel_rfl) (by kernel_rfl) (YieldsOn.not (by rfl)) (by exact fun _ _ _ h => h) ?_
          try simp only [Act.put, List.setIfInBounds_toArray, List.set_cons_zero, List.set_cons_succ]
          refine wpAnyM_take (i := 18) (oi := { dst := some 135, op := .convert 23 9 (.tmp 134), type := 9, pos := "law.go:148", after := #[{ on := 17, ground := .data }, { on := 11, ground := .guard }], guard := some (11, false) }) rfl (by kernel_rfl) (by kernel_rfl) (by kernel_rfl) (YieldsOn.not (by rfl)) (by exact fun _ _ _ h => h) ?_
          try simp only [Act.put, List.setIfInBounds_toArray, List.set_cons_zero, List.set_cons_succ]
          refine wpAnyM_take (i := 19) (oi := { dst := some 136, op := .binOp BinOp.add 9 (.const (Value.string { data := #[0] })) (.tmp 135) 9, type := 9, pos := "law.go:148", after := #[{ on := 18, ground := .data }, { on := 11, ground := .guard }], guard := some (11, false) }) rfl (by kernel_rfl) (by kernel_rfl) (by kernel_rfl) (YieldsOn.not (by rfl)) (by exact fun _ _ _ h => h) ?_
          try simp only [Act.put, List.setIfInBounds_toArray, List.set_cons_zero, List.set_cons_succ]
          refine wpAnyM_take (i := 20) (oi := { dst := some 137, op := .call { callee := Callee.value (.func 26), args := #[.tmp 136], argTypes := #[9] }, type := 25, pos := "law.go:148", after := #[{ on := 19, ground := .data }, { on := 11, ground := .chain }, { on := 11, ground := .guard }], guard := some (11, false) }) rfl (by kernel_rfl) (by kernel_rfl) (by kernel_rfl) (YieldsOn.not (by rfl)) (by exact fun _ _ _ h => h) ?_
          try simp only [Act.put, List.setIfInBounds_toArray, List.set_cons_zero, List.set_cons_succ]
          refine wpAnyM_take (i := 21) (oi := { dst := some 138, op := .move (.tmp 13), type := 23, pos := "law.go:148", after := #[{ on := 11, ground := .guard }], guard := some (11, false) }) rfl (by kernel_rfl) (by kernel_rfl) (by kernel_rfl) (YieldsOn.not (by rfl)) (by exact fun _ _ _ h => h) ?_
          try simp only [Act.put, List.setIfInBounds_toArray, List.set_cons_zero, List.set_cons_succ]
          refine wpAnyM_take (i := 22) (oi := { dst := some 139, op := .move (.tmp 10), type := 3, pos := "law.go:148", after := #[{ on := 11, ground := .guard }], guard := some (11, false) }) rfl (by kernel_rfl) (by kernel_rfl) (by kernel_rfl) (YieldsOn.not (by rfl)) (by exact fun _ _ _ h => h) ?_
          try simp only [Act.put, List.setIfInBounds_toArray, List.set_cons_zero, List.set_cons_succ]
          refine wpAnyM_take (i := 23) (oi := { dst := some 140, op := .move (.tmp 18), type := 3, pos := "law.go:148", after := #[{ on := 11, ground := .guard }], guard := some (11, false) }) rfl (by kernel_rfl) (by kernel_rfl) (by kernel_rfl) (YieldsOn.not (by rfl)) (by exact fun _ _ _ h => h) ?_
          try simp only [Act.put, List.setIfInBounds_toArray, List.set_cons_zero, List.set_cons_succ]
          refine wpAnyM_take (i := 24) (oi := { dst := some 141, op := .binOp BinOp.mul 3 (.tmp 139) (.tmp 140) 3, type := 3, pos := "law.go:148", after := #[{ on := 22, ground := .data }, { on := 23, ground := .data }, { on := 11, ground := .guard }], guard := some (11, false) }) rfl (by kernel_rfl) (by kernel_rfl) (by kernel_rfl) (YieldsOn.not (by rfl)) (by exact fun _ _ _ h => h) ?_
          try simp only [Act.put, List.setIfInBounds_toArray, List.set_cons_zero, List.set_cons_succ]
          refine wpAnyM_take (i := 25) (oi := { dst := some 142, op := .move (.tmp 19), type := 3, pos := "law.go:148", after := #[{ on := 11, ground := .guard }], guard := some (11, false) }) rfl (by kernel_rfl) (by kernel_rfl) (by kernel_rfl) (YieldsOn.not (by rfl)) (by exact fun _ _ _ h => h) ?_
          try simp only [Act.put, List.setIfInBounds_toArray, List.set_cons_zero, List.set_cons_succ]
          refine wpAnyM_take (i := 26) (oi := { dst := some 143, op := .slice 23 (.tmp 138) (some (.tmp 141)) (some (.tmp 142)) none, type := 23, pos := "law.go:148", after := #[{ on := 21, ground := .data }, { on := 24, ground := .data }, { on := 25, ground := .data }, { on := 11, ground := .guard }], guard := some (11, false) }) rfl (by kernel_rfl) (by kernel_rfl) (by kernel_rfl) (YieldsOn.not (by rfl)) (by exact fun _ _ _ h => h) ?_
          try simp only [Act.put, List.setIfInBounds_toArray, List.set_cons_zero, List.set_cons_succ]
          refine wpAnyM_take (i := 27) (oi := { dst := some 144, op := .convert 23 9 (.tmp 143), type := 9, pos := "law.go:148", after := #[{ on := 26, ground := .data }, { on := 11, ground := .guard }], guard := some (11, false) }) rfl (by kernel_rfl) (by kernel_rfl) (by kernel_rfl) (YieldsOn.not (by rfl)) (by exact fun _ _ _ h => h) ?_
          try simp only [Act.put, List.setIfInBounds_toArray, List.set_cons_zero, List.set_cons_succ]
          refine wpAnyM_take (i := 28) (oi := { dst := some 145, op := .binOp BinOp.add 9 (.const (Value.string { data := #[0] })) (.tmp 144) 9, type := 9, pos := "law.go:148", after := #[{ on := 27, ground := .data }, { on := 11, ground := .guard }], guard := some (11, false) }) rfl (by kernel_rfl) (by kernel_rfl) (by kernel_rfl) (YieldsOn.not (by rfl)) (by exact fun _ _ _ h => h) ?_
          try simp only [Act.put, List.setIfInBounds_toArray, List.set_cons_zero, List.set_cons_succ]
          refine wpAnyM_take (i := 29) (oi := { dst := some 146, op := .call { callee := Callee.value (.func 26), args := #[.tmp 145], argTypes := #[9] }, type := 25, pos := "law.go:148", after := #[{ on := 28, ground := .data }, { on := 20, ground := .chain }, { on := 11, ground := .guard }], guard := some (11, false) }) rfl (by kernel_rfl) (by kernel_rfl) (by kernel_rfl) (YieldsOn.not (by rfl)) (by exact fun _ _ _ h => h) ?_
          try simp only [Act.put, List.setIfInBounds_toArray, List.set_cons_zero, List.set_cons_succ]
          refine wpAnyM_take (i := 30) (oi := { dst := some 147, op := .binOp BinOp.eql 25 (.tmp 137) (.tmp 146) 25, type := 4, pos := "law.go:148", after := #[{ on := 20, ground := .data }, { on := 29, ground := .data }, { on := 11, ground := .guard }], guard := some (11, false) }) rfl (by kernel_rfl) (by kernel_rfl) (by kernel_rfl) (YieldsOn.not (by rfl)) (by exact fun _ _ _ h => h) ?_
          try simp only [Act.put, List.setIfInBounds_toArray, List.set_cons_zero, List.set_cons_succ]
          refine wpAnyM_take (i := 31) (oi := { dst := some 148, op := .pick (.tmp 128) (.const (Value.bool true)) (.tmp 147), type := 4, pos := "law.go:148", after := #[{ on := 11, ground := .data }, { on := 30, ground := .data }], guard := none }) rfl (by kernel_rfl) (by kernel_rfl) (by kernel_rfl) (YieldsOn.pure (by rfl) (by intro x; first | (go_simp; first | done | rfl) | (unfold execOp; simp only [Sem.run_bind]; go_simp; first | done | rfl))) (by exact fun _ _ _ h => h) ?_
          try simp only [Act.put, List.setIfInBounds_toArray, List.set_cons_zero, List.set_cons_succ]
          refine wpAnyM_take (i := 32) (oi := { dst := some 8, op := .assign (.tmp 148), type := 4, pos := "law.go:148", after := #[{ on := 31, ground := .data }, { on := 29, ground := .chain }, { on := 0, ground := .phase }, { on := 1, ground := .phase }, { on := 2, ground := .phase }, { on := 3, ground := .phase }, { on := 4, ground := .phase }, { on := 5, ground := .phase }, { on := 6, ground := .phase }, { on := 7, ground := .phase }, { on := 8, ground := .phase }, { on := 9, ground := .phase }, { on := 10, ground := .phase }, { on := 11, ground := .phase }, { on := 12, ground := .phase }, { on := 13, ground := .phase }, { on := 14, ground := .phase }, { on := 15, ground := .phase }, { on := 16, ground := .phase }, { on := 17, ground := .phase }, { on := 18, ground := .phase }, { on := 19, ground := .phase }, { on := 20, ground := .phase }, { on := 21, ground := .phase }, { on := 22, ground := .phase }, { on := 23, ground := .phase }, { on := 24, ground := .phase }, { on := 25, ground := .phase }, { on := 26, ground := .phase }, { on := 27, ground := .phase }, { on := 28, ground := .phase }, { on := 29, ground := .phase }, { on := 30, ground := .phase }, { on := 31, ground := .phase }], guard := none }) rfl (by kernel_rfl) (by kernel_rfl) (by kernel_rfl) (YieldsOn.pure (by rfl) (by intro x; first | (go_simp; first | done | rfl) | (unfold execOp; simp only [Sem.run_bind]; go_simp; first | done | rfl))) (by exact fun _ _ _ h => h) ?_
          try simp only [Act.put, List.setIfInBounds_toArray, List.set_cons_zero, List.set_cons_succ]
          refine wpAnyM_done (by kernel_rfl) (fun x9 hx9 => ?_) _
          go_wp2_with fail
          go_ret
          exact ⟨rfl, (HOd.out.then hx9).below (by simp) (Nat.le_refl _)⟩

end Go.Proofs.YtpgcfpfmicghnaaDoor.mrk
