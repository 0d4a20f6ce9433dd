/-
  THE WALK of package huff: the table.
-/
import Derived.Test.YtfckokdgmbbheaaHufCodes
import Derived.Test.YtfckokdgmbbheaaHufPlain6
import Derived.Deep.DeepCutAuto
set_option linter.unusedVariables false
set_option linter.unusedSimpArgs false
set_option maxRecDepth 20000
namespace Go.Proofs.Ytfckokdgmbbheaa.huf
open Go Go.RowKit Go.Lm Go.Proofs.Ytfckokdgmbbheaa.bit

/-- A row of the table. -/
def fv (p : Nat × Nat) : Value × Value := (.int .u8 (p.1 : Nat), .int .i64 (p.2 : Nat))
theorem size_found : (Try.prog.info? 81).map (·.size) = some 2 := by kernel_rfl
theorem info_found : (Try.prog.info? 81).map (fun i => (i.zero, i.size, i.bytes)) = some (some (.agg #[.int .u8 0, .int .i64 0]), 2, 16) := by kernel_rfl
theorem make_found (w : World) (n : Nat) (hn : n ≤ 1000000) : (Instr.makeSlice 39 (.int .i64 (n : Int)) (.int .i64 (n : Int))).run Try.prog w =
    .ok (.slice (some ⟨w.heap.size, 0, none⟩) n n) (w.alloc (.cells (madeCells #[.int .u8 0, .int .i64 0] (n * 2)) 81)) := by
  obtain ⟨i0, hi, hz0, hz1, hz2⟩ := info_parts info_found
  have := run_make (P := Try.prog) w 39 81 i0 _ Try.underlying39 hi hz0 .i64 .i64 n n (by omega) (by omega) (by rw [hz2]; omega) (by omega)
  rw [hz1] at this
  simpa [Value.cells] using this

theorem shl_one (e M : Nat) (hM : 2 ^ e = M) (h : M ≤ 4096) : wrap64 ((2 : Int) ^ e) = (M : Int) := by
  rw [pow_int, hM]; exact wrap64_of _ (by omega) (by omega)
theorem shl_lo (c e M lo : Nat) (hM : 2 ^ e = M) (hlo : lo = c * M) (h : lo ≤ 4096) : wrap64 ((c : Int) * 2 ^ e) = (lo : Int) := by
  rw [pow_int, hM, ← Int.natCast_mul, ← hlo]; exact wrap64_of _ (by omega) (by omega)
set_option maxHeartbeats 400000 in
theorem tabled_no (w : World) (v : Value) (l : List UInt8) (hv : BS w v l) (hl : l.length ≤ 1000) (h0 : Huf.dep (Huf.ns l) = 0) : Calls Try.prog 20 #[v] w fun e w' => e = .returned (.tuple #[.agg #[.int .i64 0, .slice none 0 0], .int .i64 1]) ∧ Only [] w w' := by
  have hd := fun w' (ho : Only [] w w') => codes_no w' v l (hv.only ho (by simp)) hl h0
  have HD := Lib.hid hd
  obtain ⟨a, cap, rfl, k1, k2, k3, hc⟩ := hv
  clear hd hc h0
  go_enter Try.func20, Try.ntmps20
  go_wp2_with fail
  have hon : Only [] w (w.alloc (.cells #[.int .i64 0, .slice none 0 0] 41)) := (Only.refl [] w).alloc _
  have hp : P2 (w.alloc (.cells #[.int .i64 0, .slice none 0 0] 41)) w.heap.size 41 (.int .i64 0) (.slice none 0 0) := P2.new _ _ _ _
  refine (HD.out _ hon).mono ?_
  rintro e w1 ⟨rfl, rfl⟩
  go_wp2_with fail
  refine bodyPost_ret (v := .tuple #[.agg #[.int .i64 0, .slice none 0 0], .int .i64 1]) (by rw [results_cell_tmp rfl]; go_simp) rfl ⟨rfl, ?_⟩
  repeat (first | exact hon | refine Only.setCell ?_ (.inr (by simp)) _)

set_option maxHeartbeats 2000000 in
theorem tabled_yes (w : World) (v : Value) (l : List UInt8) (hv : BS w v l) (hl : l.length ≤ 1000) (d : Nat) (hd : Huf.dep (Huf.ns l) = d) (h0 : d ≠ 0) : Calls Try.prog 20 #[v] w fun e w' =>
    ∃ h, e = .returned (.tuple #[.agg #[.int .i64 (Huf.lgt (Huf.ns l) d : Nat), .slice (some ⟨h, 0, none⟩) (2 ^ Huf.lgt (Huf.ns l) d) (2 ^ Huf.lgt (Huf.ns l) d)], .int .i64 0]) ∧ PB w' h 81 ((Huf.tab (Huf.ns l) d (Huf.lgt (Huf.ns l) d)).map fv) ∧ w.heap.size ≤ h ∧ Only [] w w' := by
  have hcc := fun w' (ho : Only [] w w') => codes_yes w' v l (hv.only ho (by simp)) hl d hd h0
  have hg := Huf.dep_some hd h0
  have hd11 := hg.eleven
  have hd1 := hg.one
  have hl2 := hg.most
  rw [Huf.ns_length] at hl2
  obtain ⟨L, hL⟩ : ∃ L, Huf.ns l = L := ⟨_, rfl⟩
  simp only [hL] at hg hcc ⊢
  have hLl : L.length = l.length := by rw [← hL, Huf.ns_length]
  obtain ⟨N, hN⟩ : ∃ N, l.length = N := ⟨_, rfl⟩
  rw [hN] at hLl hl2
  obtain ⟨a, cap, rfl, k1, k2, k3, hc⟩ := hv
  rw [hN] at hcc ⊢
  have HCC := Lib.hid hcc; have HG := Lib.hid hg; have HLL := Lib.hid hLl
  clear hcc hg hLl hL hN hc hl k1 k2 k3 hd
  obtain ⟨H, hH⟩ : ∃ H, w.heap.size = H := ⟨_, rfl⟩
  rw [hH]
  have HH := Lib.hid hH
  go_enter Try.func20, Try.ntmps20
  go_wp2_with fail
  have hon : Only [] w (w.alloc (.cells #[.int .i64 0, .slice none 0 0] 41)) := (Only.refl [] w).alloc _
  have hp : P2 (w.alloc (.cells #[.int .i64 0, .slice none 0 0] 41)) w.heap.size 41 (.int .i64 0) (.slice none 0 0) := P2.new _ _ _ _
  refine (HCC.out _ hon).mono ?_
  rintro e w1 ⟨g, rfl, hpb, hgh, hon1⟩
  rw [hH] at hp
  rw [World.size_alloc, hH] at hgh
  have hp1 := hp.only hon1 (by simp)
  have hon2 := hon.then hon1
  have HP := Lib.hid hp1; have HPB := Lib.hid hpb; have HGH := Lib.hid hgh; have HON := Lib.hid hon2
  clear hon hp hpb hgh hon1 hp1 hon2 hH
  --@1
  go_wp2_with fail
  have hon2 : Only [] w (w1.alloc (.cells #[.int .i64 0, .slice none 0 0] 41)) := HON.out.alloc _
  have hp2 : P2 (w1.alloc (.cells #[.int .i64 0, .slice none 0 0] 41)) w1.heap.size 41 (.int .i64 0) (.slice none 0 0) := P2.new _ _ _ _
  have hpb2 := HPB.out.only ((Only.refl [] w1).alloc (.cells #[.int .i64 0, .slice none 0 0] 41)) (by simp)
  have hpr2 := HP.out.only ((Only.refl [] w1).alloc (.cells #[.int .i64 0, .slice none 0 0] 41)) (by simp)
  have hgT := HPB.out.lt
  obtain ⟨w2, hw2⟩ : ∃ w2, (w1.alloc (.cells #[.int .i64 0, .slice none 0 0] 41)) = w2 := ⟨_, rfl⟩
  simp only [hw2] at hon2 hp2 hpb2 hpr2 ⊢
  obtain ⟨T, hT⟩ : ∃ T, w1.heap.size = T := ⟨_, rfl⟩
  rw [hT] at hp2 hgT ⊢
  have HT := Lib.hid hp2; have HPB2 := Lib.hid hpb2; have HR := Lib.hid hpr2; have HON2 := Lib.hid hon2
  have HGT := Lib.hid hgT
  clear hon2 hp2 hpb2 hpr2 hgT HP HPB HON hw2 hT
  have hcl : ((Huf.cods L d).map cv).length = N := by rw [List.length_map, Huf.cods_length, HLL.out]
  have HCL := Lib.hid hcl
  clear hcl
  have HCG : Hid (∀ k (h : k < N), ((Huf.cods L d).map cv)[k]'(by rw [HCL.out]; exact h) = cv (Huf.cod L d k)) := Lib.hid fun k h => by simp [Huf.cods]
  --@2
  go_loopw [8, 25] (fun c i wr => ∃ k : Nat, k ≤ N ∧ i = .int .i64 (k : Int) ∧ P2 wr T 41 (.int .i64 (Huf.lgm L d k : Nat)) (.slice none 0 0) ∧ PB wr g 74 ((Huf.cods L d).map cv) ∧ P2 wr H 41 (.int .i64 0) (.slice none 0 0) ∧ Only [] w wr) (fun _ i _ => N - (intOf i).toNat)
  case atStart => exact ⟨0, Nat.zero_le _, rfl, HT.out, HPB2.out, HR.out, HON2.out⟩
  case round =>
    obtain ⟨k, hk, rfl, hT, hpb, hR, hon⟩ := hrel
    have HT1 := Lib.hid hT; have HPB3 := Lib.hid hpb; have HR1 := Lib.hid hR; have HON3 := Lib.hid hon
    clear hT hpb hR hon HT HPB2 HR HON2
    by_cases hkN : k < N
    · have hls := Huf.lgm_succ L d k (by rw [HLL.out]; exact hkN)
      have hlm := Huf.lgm_le L d k (by rw [HLL.out]; exact hk)
      have hcd := Huf.cod_le L d k
      have hrg := HPB3.out.range k (by rw [HCL.out]; exact hkN)
      rw [HCG.out k hkN] at hrg
      obtain ⟨⟨b, c⟩, hbc⟩ : ∃ p, Huf.cod L d k = p := ⟨_, rfl⟩
      rw [hbc] at hls hcd hrg
      simp only [cv] at hls hcd hrg
      obtain ⟨m, hm⟩ : ∃ m, Huf.lgm L d k = m := ⟨_, rfl⟩
      rw [hm] at hls hlm HT1
      have ho : Only [] wr (wr.alloc (.cells #[.int .i64 (b : Nat), .int .i64 (c : Nat)] 74)) := (Only.refl [] wr).alloc _
      have hT4 := HT1.out.only ho (by simp)
      have hC := P2.new wr 74 (.int .i64 (b : Nat)) (.int .i64 (c : Nat))
      have hR4 := HR1.out.only ho (by simp)
      have hpb4 := HPB3.out.only ho (by simp)
      have hon4 := HON3.out.then ho
      obtain ⟨t0, t1, tf⟩ := P2.cells hT4
      obtain ⟨c0, c1, cf⟩ := P2.cells hC
      have hmx : max (m : Int) (b : Int) = ((max m b : Nat) : Int) := by omega
      have HLS := Lib.hid hls; have HRG := Lib.hid hrg; have HT4 := Lib.hid hT4; have HR4 := Lib.hid hR4; have HPB4 := Lib.hid hpb4; have HON4 := Lib.hid hon4
      have HNE := Lib.hid (show T ≠ g by have := HGT.out; omega)
      have HNE2 := Lib.hid (show T ≠ H by have := HGT.out; have := HGH.out; omega)
      have hmb : max m b ≤ 11 := by omega
      rw [Nat.mul_comm] at HRG
      clear hls hrg hT4 hR4 hpb4 hon4 hC ho hbc hm
      --@3
      go_wp2_with (refine wpList_load_mid rfl 74 _ rfl g (k * 2) rfl [.int .i64 (b : Nat), .int .i64 (c : Nat)] _ HRG.out Try.underlying74 rfl size_code ?_)
      --@4
      go_roundw
      case rel => exact ⟨k + 1, by omega, by go_num, by rw [HLS.out, ← hmx]; exact HT4.out.set0 _, HPB4.out.only (S := [T]) ((Only.refl [T] _).setCell (.inl (by simp)) _) (by simp; exact fun h => HNE.out h.symm), HR4.out.only (S := [T]) ((Only.refl [T] _).setCell (.inl (by simp)) _) (by simp; exact fun h => HNE2.out h.symm), HON4.out.setCell (.inr (by have := HGT.out; have := HGH.out; have := HH.out; simp; omega)) _⟩
      case measure => simp [intOf]; omega
    · obtain rfl : k = N := by omega
      --@5
      have hlgd := Huf.lgt_le L d
      have hlge : Huf.lgm L d k = Huf.lgt L d := by unfold Huf.lgt; rw [HLL.out]
      rw [hlge] at HT1
      obtain ⟨lg, hlg⟩ : ∃ lg, Huf.lgt L d = lg := ⟨_, rfl⟩
      have hnbl : ∀ s, Huf.Okay L s → Huf.nb L d s ≤ lg := fun s hs => by rw [← hlg]; exact Huf.nb_lgt hs
      rw [hlg] at hlgd HT1
      have HLG := Lib.hid hlg
      have HNBL := Lib.hid hnbl
      have hpow := pow_int lg
      have hP : 2 ^ lg ≤ 2 ^ 11 := Nat.pow_le_pow_right (by decide) (by omega)
      have hts := Huf.tabp_start L d lg
      obtain ⟨NN, hNN⟩ : ∃ NN, 2 ^ lg = NN := ⟨_, rfl⟩
      rw [hNN] at hpow hP hts
      have HNN := Lib.hid hNN
      have hw : wrap64 ((2 : Int) ^ lg) = (NN : Int) := by rw [hpow]; exact wrap64_of _ (by omega) (by omega)
      have hmk := fun w => make_found w NN (by omega)
      obtain ⟨t0, t1, tf⟩ := P2.cells HT1.out
      clear hlge hpow hNN hlg hnbl
      have HTS := Lib.hid hts
      clear hts
      have ho5 : Only [] wr (wr.alloc (.cells (madeCells #[.int .u8 0, .int .i64 0] (NN * 2)) 81)) := (Only.refl [] wr).alloc _
      have hT5 := HT1.out.only ho5 (by simp)
      obtain ⟨t50, t51, tf5⟩ := P2.cells hT5
      have hTH := HT1.out.lt
      go_upto_region 11 with fail
      have ho6a : Only [T] wr (wr.setCell ⟨T, 1, none⟩ (.slice (some ⟨wr.heap.size, 0, none⟩) NN NN)) := (Only.refl [T] _).setCell (.inl (by simp)) _
      have ho6b : Only [] (wr.setCell ⟨T, 1, none⟩ (.slice (some ⟨wr.heap.size, 0, none⟩) NN NN)) ((wr.setCell ⟨T, 1, none⟩ (.slice (some ⟨wr.heap.size, 0, none⟩) NN NN)).alloc (.cells (madeCells #[.int .u8 0, .int .i64 0] (NN * 2)) 81)) := (Only.refl [] _).alloc _
      have hT6 := (HT1.out.set1 (.slice (some ⟨wr.heap.size, 0, none⟩) NN NN)).only ho6b (by simp)
      have hpf6 := PB.made (wr.setCell ⟨T, 1, none⟩ (.slice (some ⟨wr.heap.size, 0, none⟩) NN NN)) 81 (.int .u8 0) (.int .i64 0) NN
      have hszF : (wr.setCell ⟨T, 1, none⟩ (.slice (some ⟨wr.heap.size, 0, none⟩) NN NN)).heap.size = wr.heap.size := by simp
      rw [hszF] at hpf6
      clear hszF
      have hpb6 := (HPB3.out.only ho6a (by have := HGT.out; simp; omega)).only ho6b (by simp)
      have hR6 := (HR1.out.only ho6a (by have := HGT.out; have := HGH.out; simp; omega)).only ho6b (by simp)
      have hon6 := (HON3.out.trans (S := []) ho6a (by simp) (by have := HGT.out; have := HGH.out; have := HH.out; simp; omega)).then ho6b
      obtain ⟨F, hF⟩ : ∃ F, wr.heap.size = F := ⟨_, rfl⟩
      rw [hF] at hT6 hpf6 hpb6 hR6 hon6 hTH ⊢
      clear ho6a ho6b
      obtain ⟨w6, hw6⟩ : ∃ w6, (wr.setCell ⟨T, 1, none⟩ (.slice (some ⟨F, 0, none⟩) NN NN)).alloc (.cells (madeCells #[.int .u8 0, .int .i64 0] (NN * 2)) 81) = w6 := ⟨_, rfl⟩
      simp only [hw6] at hT6 hpf6 hpb6 hR6 hon6 ⊢
      have HT6 := Lib.hid hT6; have HPF6 := Lib.hid hpf6; have HPB6 := Lib.hid hpb6; have HR6 := Lib.hid hR6; have HON6 := Lib.hid hon6; have HTF := Lib.hid hTH
      clear ho5 hT5 t50 t51 tf5 hT6 hTH hpf6 hpb6 hR6 hon6 hF hw6 hmk hw t0 t1 tf HT1 HPB3 HR1 HON3
      go_wp2_with fail
      have hlp2 := hl2
      --@6
      go_loopw [9, 10, 43] (fun s c i wr => ∃ j : Nat, j ≤ k ∧ i = .int .i64 (j : Int) ∧ P2 wr T 41 (.int .i64 (lg : Nat)) (.slice (some ⟨F, 0, none⟩) NN NN) ∧ PB wr F 81 ((Huf.tabp L d lg j 0).map fv) ∧ PB wr g 74 ((Huf.cods L d).map cv) ∧ P2 wr H 41 (.int .i64 0) (.slice none 0 0) ∧ Only [] w wr) (fun _ _ i _ => k - (intOf i).toNat)
      case atStart => exact ⟨0, Nat.zero_le _, rfl, HT6.out, by rw [HTS.out, List.map_replicate]; exact HPF6.out, HPB6.out, HR6.out, HON6.out⟩
      case round =>
        obtain ⟨j, hj, rfl, hT, hpf, hpb, hR, hon⟩ := hrel
        have HT7 := Lib.hid hT; have HPF7 := Lib.hid hpf; have HPB7 := Lib.hid hpb; have HR7 := Lib.hid hR; have HON7 := Lib.hid hon
        clear hT hpf hpb hR hon HT6 HPF6 HPB6 HR6 HON6
        by_cases hjk : j < k
        · have hrg := HPB7.out.range j (by rw [HCL.out]; exact hjk)
          rw [HCG.out j hjk] at hrg
          have hjL : j < L.length := by rw [HLL.out]; exact hjk
          by_cases h0j : L.getD j 0 = 0
          · have hsk := Huf.tabp_skip HG.out.deep hlgd h0j
            have hbc : Huf.cod L d j = (0, 0) := by unfold Huf.cod; rw [if_pos h0j]
            rw [hbc] at hrg
            simp only [cv] at hrg
            have ho : Only [] wr (wr.alloc (.cells #[.int .i64 (0 : Nat), .int .i64 (0 : Nat)] 74)) := (Only.refl [] wr).alloc _
            have hC := P2.new wr 74 (.int .i64 (0 : Nat)) (.int .i64 (0 : Nat))
            obtain ⟨c0, c1, cf⟩ := P2.cells hC
            have HRG := Lib.hid hrg; have HO := Lib.hid ho; have HSK := Lib.hid hsk
            rw [Nat.mul_comm] at HRG
            clear hrg ho hC hbc hsk
            --@7
            go_wp2_with (refine wpList_load_mid rfl 74 _ rfl g (j * 2) rfl [.int .i64 (0 : Nat), .int .i64 (0 : Nat)] _ HRG.out Try.underlying74 rfl size_code ?_)
            --@8
            go_roundw
            case rel => exact ⟨j + 1, by omega, by go_num, HT7.out.only HO.out (by simp), by rw [← HSK.out]; exact HPF7.out.only HO.out (by simp), HPB7.out.only HO.out (by simp), HR7.out.only HO.out (by simp), HON7.out.then HO.out⟩
            case measure => simp [intOf]; omega
          · have hok : Huf.Okay L j := ⟨hjL, by omega⟩
            have hbl := HNBL.out j hok
            rw [Huf.cod_okay hok.2] at hrg
            simp only [cv] at hrg
            have hlow := Huf.tabp_low HG.out.deep hok hbl hlgd
            have hnext := Huf.tabp_next HG.out.deep hok hbl hlgd
            have hput := fun i => Huf.tabp_put (i := i) HG.out.deep hok hbl hlgd
            have hle := Huf.lo_le HG.out.deep hok hbl hlgd
            have hlo : Huf.lo L d lg j = Huf.code L j * 2 ^ (lg - Huf.nb L d j) := rfl
            have hnb1 := Huf.nb_pos HG.out.deep j
            rw [HNN.out] at hle
            obtain ⟨b, hb⟩ : ∃ b, Huf.nb L d j = b := ⟨_, rfl⟩
            obtain ⟨c, hc⟩ : ∃ c, Huf.code L j = c := ⟨_, rfl⟩
            obtain ⟨lo, hloe⟩ : ∃ lo, Huf.lo L d lg j = lo := ⟨_, rfl⟩
            simp only [hb, hc, hloe] at hbl hrg hlow hnext hput hle hlo hnb1
            obtain ⟨e, he⟩ : ∃ e, lg - b = e := ⟨_, rfl⟩
            obtain ⟨M, hM⟩ : ∃ M, 2 ^ e = M := ⟨_, rfl⟩
            simp only [he, hM] at hnext hput hle hlo
            have heI : (lg : Int) - (b : Int) = (e : Int) := by omega
            have hlo4 : lo + M ≤ 4096 := Nat.le_trans hle (Nat.le_trans hP (by decide))
            have hsh1 := shl_lo c e M lo hM hlo (Nat.le_trans (Nat.le_add_right _ _) hlo4)
            have hsh2 := shl_one e M hM (Nat.le_trans (Nat.le_add_left _ _) hlo4)
            have ho : Only [] wr (wr.alloc (.cells #[.int .i64 (b : Nat), .int .i64 (c : Nat)] 74)) := (Only.refl [] wr).alloc _
            have hC := P2.new wr 74 (.int .i64 (b : Nat)) (.int .i64 (c : Nat))
            obtain ⟨c0, c1, cf⟩ := P2.cells hC
            have hT8 := HT7.out.only ho (by simp)
            obtain ⟨t0, t1, tf⟩ := P2.cells hT8
            have hb0 : ((b : Int) == 0) = false := by rw [beq_eq_false_iff_ne]; omega
            have HRG := Lib.hid hrg; have HO := Lib.hid ho; have HLOW := Lib.hid hlow; have HNEXT := Lib.hid hnext; have HPUT := Lib.hid hput; have HT8 := Lib.hid hT8; have HC := Lib.hid hC
            rw [Nat.mul_comm] at HRG
            clear hrg ho hC hlow hnext hput hT8 hlo hc hb hloe he hM
            --@9
            go_wp2_with (refine wpList_load_mid rfl 74 _ rfl g (j * 2) rfl [.int .i64 (b : Nat), .int .i64 (c : Nat)] _ HRG.out Try.underlying74 rfl size_code ?_)
            rw [hsh1, hsh2]
            have HM := Lib.hid (show lo + M ≤ NN from hle)
            have hM4 : M ≤ 4096 := Nat.le_trans (Nat.le_add_left _ _) hlo4
            have hl4 : lo ≤ 4096 := Nat.le_trans (Nat.le_add_right _ _) hlo4
            clear hsh1 hsh2 hle hlo4 c0 c1 cf t0 t1 tf heI
            have HPF8 := Lib.hid (HPF7.out.only HO.out (by simp)); have HPB8 := Lib.hid (HPB7.out.only HO.out (by simp)); have HR8 := Lib.hid (HR7.out.only HO.out (by simp)); have HON8 := Lib.hid (HON7.out.then HO.out)
            obtain ⟨wq, hwq⟩ : ∃ wq, (wr.alloc (.cells #[.int .i64 (b : Nat), .int .i64 (c : Nat)] 74)) = wq := ⟨_, rfl⟩
            rw [hwq] at HC HT8 HPF8 HPB8 HR8 HON8 ⊢
            have hFC : F < wr.heap.size := HPF7.out.lt
            obtain ⟨cc, hcc⟩ : ∃ cc, wr.heap.size = cc := ⟨_, rfl⟩
            rw [hcc] at hFC HC ⊢
            have HFC := Lib.hid hFC
            clear HO HRG hwq hcc hFC HT7 HPF7 HPB7 HR7 HON7
            --@12
            go_loopw [12, 65] (fun _ i wx => ∃ x : Nat, x ≤ M ∧ i = .int .i64 (x : Int) ∧ PB wx F 81 ((Huf.tabp L d lg j (lo + x)).map fv) ∧ Only [F] wq wx) (fun _ i _ => M - (intOf i).toNat)
            case atStart => exact ⟨0, Nat.zero_le _, rfl, by rw [Nat.add_zero, ← HLOW.out]; exact HPF8.out, Only.refl _ _⟩
            case round =>
              obtain ⟨x, hx, rfl, hpf, hof⟩ := hrel
              by_cases hxM : x < M
              · have hT := HT8.out.only hof (by have := HTF.out; simp; omega)
                obtain ⟨t0, t1, tf⟩ := P2.cells hT
                have hC := HC.out.only hof (by have := HFC.out; simp; omega)
                obtain ⟨c0, c1, cf⟩ := P2.cells hC
                have hpl : ((Huf.tabp L d lg j (lo + x)).map fv).length = NN := by rw [List.length_map, Huf.tabp_length, HNN.out]
                have hth : wr.there F ((lo + x) * 2) 2 := by rw [Nat.mul_comm]; exact hpf.there (lo + x) (by rw [hpl]; have := HM.out; omega)
                have hset := hpf.set (lo + x) (by rw [hpl]; have := HM.out; omega) (.int .u8 (j : Int)) (.int .i64 (b : Int))
                have hp2 : (Huf.tabp L d lg j (lo + (x + 1))).map fv = ((Huf.tabp L d lg j (lo + x)).map fv).set (lo + x) (.int .u8 (j : Int), .int .i64 (b : Int)) := by
                  rw [HPUT.out x hxM, List.map_set]; rfl
                rw [← hp2, Nat.mul_comm] at hset
                have hof2 : Only [F] wq (wr.setCells F ((lo + x) * 2) [.int .u8 (j : Int), .int .i64 (b : Int)]) := by
                  rw [Nat.mul_comm]
                  exact hof.then (only_pair F (lo + x) _ _)
                have HOP : Hid ((#[.int .u8 (j : Int), .int .i64 (b : Int)] : Array Value).all (·.oneCell') = true) := Lib.hid (by simp [Value.oneCell'])
                have hu8 : IntKind.u8.wrap (j : Int) = (j : Int) := by rw [IntKind.wrap_u8]; omega
                have hlx : lo + x < NN := by have := HM.out; omega
                have HTH := Lib.hid hth; have HSET := Lib.hid hset; have HOF2 := Lib.hid hof2
                clear hth hset hof2 hp2 hpl hpf hof hT hC
                --@13
                go_wp2_with (refine wpList_store_mid rfl 81 _ _ rfl F ((lo + x) * 2) #[.int .u8 (j : Int), .int .i64 (b : Int)] rfl rfl HTH.out size_found HOP.out ?_)
                --@14
                go_roundw
                case rel => exact ⟨x + 1, by omega, by go_num, HSET.out, HOF2.out⟩
                case measure => simp [intOf]; omega
              · obtain rfl : x = M := by omega
                --@15
                go_wp2
                go_roundw
                case rel => exact ⟨j + 1, by omega, by go_num, HT8.out.only hof (by have := HTF.out; simp; omega), by rw [← HNEXT.out]; exact hpf, HPB8.out.only hof (by have := HTF.out; have := HGT.out; simp; omega), HR8.out.only hof (by have := HTF.out; have := HGT.out; have := HGH.out; simp; omega), HON8.out.trans hof (by simp) (by have := HTF.out; have := HGT.out; have := HGH.out; have := HH.out; simp; omega)⟩
                case measure => simp [intOf]; omega
        · obtain rfl : j = k := by omega
          --@10
          have hall := Huf.tabp_all HG.out.deep hlgd
          rw [HLL.out] at hall
          obtain ⟨t0, t1, tf⟩ := P2.cells HT7.out
          obtain ⟨r0, r1, rf⟩ := P2.cells HR7.out
          go_wp2_with fail
          --@16
          simp only [HLG.out, HNN.out]
          refine bodyPost_ret (v := .tuple #[.agg #[.int .i64 (lg : Nat), .slice (some ⟨F, 0, none⟩) NN NN], .int .i64 0]) (by rw [results_cell_tmp rfl]; go_simp) rfl ⟨F, rfl, ?_, by have := HTF.out; have := HGT.out; have := HGH.out; omega, ?_⟩
          · have h1 := HPF7.out
            rw [hall] at h1
            exact h1.only (S := [H]) (((Only.refl [H] _).setCell (.inl (by simp)) _).setCell (.inl (by simp)) _) (by have := HTF.out; have := HGT.out; have := HGH.out; simp; omega)
          · exact (HON7.out.setCell (.inr (by have := HH.out; simp; omega)) _).setCell (.inr (by have := HH.out; simp; omega)) _
end Go.Proofs.Ytfckokdgmbbheaa.huf
