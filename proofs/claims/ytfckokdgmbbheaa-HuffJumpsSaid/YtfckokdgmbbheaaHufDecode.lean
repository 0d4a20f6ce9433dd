/-
  THE WALK of package huff: the symbols of a stream.
  THE WALK of package huff: Decode.
-/
import Derived.Test.YtfckokdgmbbheaaHufTab
import Derived.Test.YtfckokdgmbbheaaHufStream
set_option linter.unusedVariables false
set_option linter.unusedSimpArgs false
set_option maxRecDepth 20000
namespace Go.Proofs.Ytfckokdgmbbheaa.huf
open Go Go.RowKit Go.Lm Go.Proofs.Ytfckokdgmbbheaa.bit

theorem shl_or (a m X R : Nat) (hX : a * 2 ^ m ||| R = X) (ha : a * 2 ^ m ≤ 4096) (hR : R ≤ 4096) : bits .or .i64 (wrap64 ((a : Int) * 2 ^ m)) (R : Int) = (X : Int) := by
  rw [pow_int, ← Int.natCast_mul, wrap64_of _ (by omega) (by omega), or_i64_nat _ _ (by omega) (by omega), hX]
theorem shl_or' (a m X R : Nat) (hX : a * 2 ^ m ||| R = X) (ha : a * 2 ^ m ≤ 4096) (hR : R ≤ 4096) : bits .or .i64 (IntKind.i64.wrap ((a : Int) * 2 ^ m)) (R : Int) = (X : Int) := by
  have e : IntKind.i64.wrap ((a * 2 ^ m : Nat) : Int) = ((a * 2 ^ m : Nat) : Int) := by
    generalize a * 2 ^ m = q at *
    rw [IntKind.wrap_i64]; omega
  rw [pow_int, ← Int.natCast_mul, e, or_i64_nat _ _ (by omega) (by omega), hX]
theorem shl_and (X m Y : Nat) (hY : X &&& (2 ^ m - 1) = Y) (hX : X ≤ 4096) (hm : 2 ^ m ≤ 4096) : bits .and .i64 (X : Int) (wrap64 (wrap64 (2 ^ m) - 1)) = (Y : Int) := by
  have hp : 0 < 2 ^ m := Nat.pow_pos (by decide)
  have e1 : wrap64 ((2 ^ m : Nat) : Int) = ((2 ^ m : Nat) : Int) := wrap64_of _ (by omega) (by omega)
  have e2 : ((2 ^ m : Nat) : Int) - 1 = ((2 ^ m - 1 : Nat) : Int) := by omega
  have e3 : wrap64 ((2 ^ m - 1 : Nat) : Int) = ((2 ^ m - 1 : Nat) : Int) := wrap64_of _ (by omega) (by omega)
  rw [pow_int, e1, e2, e3, and_i64_nat _ _ (by omega) (by omega), hY]

theorem make_u8s (w : World) (n : Nat) (hn : n ≤ 1000000) : (Instr.makeSlice 22 (.int .i64 0) (.int .i64 (n : Int))).run Try.prog w =
    .ok (.slice (some ⟨w.heap.size, 0, none⟩) 0 n) (w.alloc (.cells (madeCells #[.int .u8 0] n) 5)) := by
  obtain ⟨i0, hi, hz0, hz1, hz2⟩ := info_parts info_u8
  have := run_make (P := Try.prog) w 22 5 i0 _ Try.underlying22 hi hz0 .i64 .i64 0 n (by omega) (by omega) (by rw [hz2]; omega) (by omega)
  rw [hz1] at this
  simpa [Value.cells] using this
theorem OV.made (w : World) (e : TypeId) (z : Value) (n : Nat) (hn : n ≤ 1000000) : OV (w.alloc (.cells (madeCells #[z] n) e)) w.heap.size e (.slice (some ⟨w.heap.size, 0, none⟩) 0 n) [] :=
  World.ownsRow_made w _ n (Nat.le_refl _) (by unfold maxLen; omega) (by simp [madeCells])
set_option maxHeartbeats 2000000 in
theorem decode_no (w : World) (lg F NN : Nat) (v : Value) (b : List UInt8) (hv : BS w v b) (hb : b.length ≤ 100000) (n : Nat) (h0 : (b.getLastD 0).toNat = 0) : Calls Try.prog 21 #[.agg #[.int .i64 (lg : Nat), .slice (some ⟨F, 0, none⟩) NN NN], v, .int .i64 (n : Nat)] w fun e w' =>
    e = .returned (.tuple #[.slice none 0 0, .int .i64 11]) ∧ Only [] w w' := by
  have hN := fun w' (ho : Only [] w w') => newback_no w' v b (hv.only ho (by simp)) (last_none h0) (by omega)
  obtain ⟨a, cap, rfl, -, -, -, -⟩ := hv
  have HN := Lib.hid hN
  clear hN h0
  go_enter Try.func21, Try.ntmps21
  go_wp2_with fail
  refine (HN.out _ (by exact (Only.refl [] w).alloc _)).mono ?_
  rintro e w1 ⟨rfl, rfl⟩
  go_wp2
  go_ret2
  exact ⟨rfl, (Only.refl [] w).alloc _⟩

set_option maxHeartbeats 4000000 in
theorem decode_yes (w : World) (L : List Nat) (d : Nat) (hg : Huf.Good L d) (lg F NN : Nat) (hlg : Huf.lgt L d = lg) (hNN : 2 ^ lg = NN) (hF : PB w F 81 ((Huf.tab L d lg).map fv)) (v : Value) (b : List UInt8) (hv : BS w v b) (hb : b.length ≤ 100000) (n : Nat) (hn : n ≤ 1000) (h0 : (b.getLastD 0).toNat ≠ 0) : Calls Try.prog 21 #[.agg #[.int .i64 (lg : Nat), .slice (some ⟨F, 0, none⟩) NN NN], v, .int .i64 (n : Nat)] w fun e w' =>
    ∃ v', e = .returned (.tuple #[v', .int .i64 (sdec L d b n).2]) ∧ OV w' w.heap.size 5 v' ((sdec L d b n).1.map u8v) ∧ Only [] w w' := by
  obtain ⟨hne, hz⟩ := last_ne h0
  have htop := topOf_top h0
  have hnb := fun w' (ho : Only [] w w') => newback_yes w' v b (hv.only ho (by simp)) hne hz (by omega)
  obtain ⟨S, hS⟩ : ∃ S, sdec L d b n = S := ⟨_, rfl⟩
  rw [hS]
  unfold sdec at hS
  rw [if_neg h0] at hS
  have hlt := htop.lt
  rw [Bt.bitsOf_length] at hlt
  have hlgd := Huf.lgt_le L d
  rw [hlg] at hlgd
  have hd11 := hg.eleven
  have hsl := sbits_length h0
  have hM : sbits b = ((Bt.bitsOf b).take (topOf b)).reverse := rfl
  obtain ⟨t, ht⟩ : ∃ t, topOf b = t := ⟨_, rfl⟩
  rw [ht] at hlt hS hsl htop hM
  obtain ⟨M, hMe⟩ : ∃ M, sbits b = M := ⟨_, rfl⟩
  rw [hMe] at hS hsl hM
  have hlm : ∀ (pos m : Nat) (x : Nat), m ≤ 56 → (last ((Bt.bitsOf b).take ((t : Int) - (pos : Int)).toNat) x (m : Int)).2.2 = Huf.msb M pos m := fun pos m x hm => by
    rw [hM]; exact last_msb _ t pos m x (by rw [Bt.bitsOf_length]; omega) hm
  obtain ⟨a, cap, rfl, -, -, -, -⟩ := hv
  have HNB := Lib.hid hnb; have HTOP := Lib.hid htop; have HS := Lib.hid hS; have HLM := Lib.hid hlm; have HF := Lib.hid hF; have HLG := Lib.hid hlg; have HNN := Lib.hid hNN; have HG := Lib.hid hg
  have hNNb : NN ≤ 2048 := by rw [← hNN]; exact Nat.pow_le_pow_right (n := 2) (by decide) (show lg ≤ 11 by omega)
  clear hnb htop hS hlm hM hMe ht hsl hF hlg hNN hg h0 hne hz
  obtain ⟨H, hH⟩ : ∃ H, w.heap.size = H := ⟨_, rfl⟩
  rw [hH]
  have HH := Lib.hid hH
  go_enter Try.func21, Try.ntmps21
  go_wp2_with fail
  have hon : Only [] w (w.alloc (.cells #[.int .i64 (lg : Nat), .slice (some ⟨F, 0, none⟩) NN NN] 41)) := (Only.refl [] w).alloc _
  have hp : P2 (w.alloc (.cells #[.int .i64 (lg : Nat), .slice (some ⟨F, 0, none⟩) NN NN] 41)) w.heap.size 41 (.int .i64 (lg : Nat)) (.slice (some ⟨F, 0, none⟩) NN NN) := P2.new _ _ _ _
  rw [hH] at hp
  --@1
  refine (HNB.out _ hon).mono ?_
  rintro e w1 ⟨r, t', rfl, htt, hbw, hon1⟩
  have htt' := htt.inj HTOP.out
  rw [htt', World.size_alloc, hH] at hbw
  have hX := hp.only hon1 (by simp)
  have hon2 := hon.then hon1
  have hF1 := HF.out.only hon2 (by simp)
  have hFH : F < H := by have := HF.out.lt; omega
  have HX := Lib.hid hX; have HON := Lib.hid hon2; have HF1 := Lib.hid hF1; have HBW := Lib.hid hbw; have HFH := Lib.hid hFH
  clear hon hp hon1 hX hon2 hF1 hbw hFH htt htt' hH HTOP
  obtain ⟨x0, x1, xf⟩ := P2.cells HX.out
  obtain ⟨C, hC⟩ : ∃ C, w1.heap.size = C := ⟨_, rfl⟩
  rw [hC] at HBW
  have HC := Lib.hid hC
  --@2
  have hmk := fun w => make_u8s w n (by omega)
  go_wp2_with fail
  have ho2 : Only [] w1 (w1.alloc (.cells (madeCells #[.int .u8 0] n) 5)) := (Only.refl [] w1).alloc _
  have hov := OV.made w1 5 (.int .u8 0) n (by omega)
  have hbw2 := HBW.out.only ho2 (by omega)
  have hx2 := HX.out.only ho2 (by simp)
  have hf2 := HF1.out.only ho2 (by simp)
  have hon2 := HON.out.then ho2
  have hCs : C ≤ (w1.alloc (.cells (madeCells #[.int .u8 0] n) 5)).heap.size := by rw [World.size_alloc]; omega
  rw [hC] at hov
  obtain ⟨w2, hw2⟩ : ∃ w2, (w1.alloc (.cells (madeCells #[.int .u8 0] n) 5)) = w2 := ⟨_, rfl⟩
  rw [hw2] at hov hbw2 hx2 hf2 hon2 hCs ⊢
  have HOV2 := Lib.hid hov; have HBW2 := Lib.hid hbw2; have HX2 := Lib.hid hx2; have HF2 := Lib.hid hf2; have HON2 := Lib.hid hon2
  have hrC : H + 1 ≤ r ∧ r < C := ⟨HBW.out.1, HBW.out.2.1⟩
  have HRC := Lib.hid hrC; have HCS := Lib.hid hCs
  clear ho2 hov hbw2 hx2 hf2 hon2 hw2 hmk hC hrC hCs HX HON HF1 HBW HC x0 x1 xf
  --@3
  go_loopw [10, 11, 12, 13, 14, 27] (fun o a th _ _ i wr => ∃ k T : Nat, k ≤ n ∧ i = .int .i64 (k : Int) ∧ T ≤ lg ∧ th = .int .i64 (T : Int) ∧ a = .int .i64 (Huf.msb M (Huf.dec L d M k).2 T : Nat) ∧ OV wr C 5 o ((sv (Huf.dec L d M k).1).map u8v) ∧ BW wr (H + 1) C r ((t : Int) - (((Huf.dec L d M k).2 + T : Nat) : Int)) b ∧
    P2 wr H 41 (.int .i64 (lg : Nat)) (.slice (some ⟨F, 0, none⟩) NN NN) ∧ PB wr F 81 ((Huf.tab L d lg).map fv) ∧ Only [] w wr ∧ C ≤ wr.heap.size) (fun _ _ _ _ _ i _ => n - (intOf i).toNat)
  case atStart => exact ⟨0, 0, Nat.zero_le _, rfl, Nat.zero_le _, rfl, rfl, HOV2.out, by simpa [Huf.dec] using HBW2.out, HX2.out, HF2.out, HON2.out, HCS.out⟩
  case round =>
    obtain ⟨k, T, hk, rfl, hT, rfl, rfl, hov, hbw, hx, hf, hon, hcs⟩ := hrel
    have hdl := Huf.dec_length L d M k
    have hds : Huf.dec L d M (k + 1) = ((Huf.dec L d M k).1 ++ [Huf.sym L (Huf.msb M (Huf.dec L d M k).2 d)], (Huf.dec L d M k).2 + Huf.nb L d (Huf.sym L (Huf.msb M (Huf.dec L d M k).2 d))) := rfl
    have hpl := dec_p_le (l := L) hd11 M k
    obtain ⟨x0, x1, xf⟩ := P2.cells hx
    have HOV3 := Lib.hid hov; have HBW3 := Lib.hid hbw; have HX3 := Lib.hid hx; have HF3 := Lib.hid hf; have HON3 := Lib.hid hon; have HCS3 := Lib.hid hcs
    clear hov hbw hx hf hon hcs HOV2 HBW2 HX2 HF2 HON2 HCS
    by_cases hkn : k < n
    · obtain ⟨p, hp⟩ : ∃ p, (Huf.dec L d M k).2 = p := ⟨_, rfl⟩
      obtain ⟨Y, hY⟩ : ∃ Y, (Huf.dec L d M k).1 = Y := ⟨_, rfl⟩
      rw [hp] at hpl HBW3
      rw [hY] at hdl HOV3
      rw [hp, hY] at hds
      rw [hp]
      have hok := Huf.sym_okay HG.out.deep M p
      have hfn := Huf.fnd_msb HG.out.deep M p
      have hsb := Huf.nb_lgt (d := d) hok
      obtain ⟨s, hs⟩ : ∃ s, Huf.sym L (Huf.msb M p d) = s := ⟨_, rfl⟩
      rw [hs] at hok hfn hsb hds
      have hs256 : s < 256 := Nat.lt_of_lt_of_le hok.1 HG.out.most
      rw [HLG.out] at hfn hsb
      obtain ⟨B, hB⟩ : ∃ B, Huf.nb L d s = B := ⟨_, rfl⟩
      rw [hB] at hfn hsb hds
      obtain ⟨m, hm⟩ : ∃ m, lg - T = m := ⟨_, rfl⟩
      have hmI : (lg : Int) - (T : Int) = (m : Int) := by omega
      have hmore := Huf.msb_more M p T m lg (by omega)
      have hread := HLM.out (p + T) m 0 (by omega)
      have hbgo := bgo_sub t (p + T) m (by omega)
      have hrd := fun wx (ho : Only [] wr wx) => bread_c wx (H + 1) C r 0 ((t : Int) - ((p + T : Nat) : Int)) (m : Int) b (HBW3.out.only ho HCS3.out) (Nat.le_trans HCS3.out ho.size) (by omega) (by omega) (by omega)
      simp only [hread, hbgo] at hrd
      have hXl := Huf.msb_lt M p lg
      rw [HNN.out] at hXl
      obtain ⟨A, hA⟩ : ∃ A, Huf.msb M p T = A := ⟨_, rfl⟩
      obtain ⟨R, hR⟩ : ∃ R, Huf.msb M (p + T) m = R := ⟨_, rfl⟩
      have hrest := Huf.msb_rest M p B (lg - B) lg (by omega)
      obtain ⟨X, hXe⟩ : ∃ X, Huf.msb M p lg = X := ⟨_, rfl⟩
      rw [hA, hR, hXe] at hmore
      rw [hXe] at hXl hfn hrest
      simp only [hR] at hrd
      rw [hA]
      have hA1 : A * 2 ^ m ≤ 4096 := Nat.le_trans (Nat.left_le_or) (by rw [hmore]; omega)
      have hR1 : R ≤ 4096 := Nat.le_trans (Nat.right_le_or) (by rw [hmore]; omega)
      have hor := shl_or' A m X R hmore hA1 hR1
      have hRw : IntKind.i64.wrap (R : Int) = (R : Int) := by rw [IntKind.wrap_i64]; omega
      have HRD := Lib.hid hrd; have HDS := Lib.hid hds; have HFN := Lib.hid hfn; have HREST := Lib.hid hrest; have HOK := Lib.hid hok; have HDL := Lib.hid hdl; have HP := Lib.hid hp; have HY := Lib.hid hY
      clear hrd hds hfn hrest hok hread hbgo hA1 hmore hA hR hXe hs hB hm hdl hp hY
      --@4
      go_upto_region 9 with fail
      --@5
      go_region_with (go_at_call 44; refine (HRD.out _ (by first | exact Only.refl [] wr | exact (Only.refl [] wr).drew)).mono ?_; rintro e w4 ⟨rfl, hbw, ho⟩; have HBW4 := Lib.hid hbw; have HO4 : Hid (Only [r] wr w4) := Lib.hid (by first | exact ho | exact ((Only.refl [r] wr).drew).then ho); clear hbw ho)
      have HOV4 := Lib.hid (HOV3.out.only HO4.out (fun c hc => by have := HOV3.out.lt hc; have := HRC.out; simp; omega))
      have HX4 := Lib.hid (HX3.out.only HO4.out (by have := HRC.out; simp; omega))
      have HF4 := Lib.hid (HF3.out.only HO4.out (by have := HRC.out; have := HFH.out; simp; omega))
      have HON4 := Lib.hid (HON3.out.trans (S := []) HO4.out (by simp) (by have := HRC.out; have := HH.out; simp; omega))
      have HCS4 := Lib.hid (Nat.le_trans HCS3.out HO4.out.size)
      clear HO4 HOV3 HX3 HF3 HON3 HCS3 HRD hor hRw x0 x1 xf HBW3
      obtain ⟨x0, x1, xf⟩ := P2.cells HX4.out
      have hrg := HF4.out.range X (by rw [List.length_map, Huf.tab_length, HNN.out]; exact hXl)
      have hte : ((Huf.tab L d lg).map fv)[X]'(by rw [List.length_map, Huf.tab_length, HNN.out]; exact hXl) = fv (s, B) := by
        rw [List.getElem_map, Huf.tab_get, HFN.out]
      rw [hte] at hrg
      simp only [fv] at hrg
      have HRG := Lib.hid hrg
      rw [Nat.mul_comm] at HRG
      clear hrg hte
      obtain ⟨z0, hz⟩ : ∃ z0, w4.alloc (.cells #[.int .u8 (s : Int), .int .i64 (B : Int)] 81) = z0 := ⟨_, rfl⟩
      have hZ := P2.new w4 81 (.int .u8 (s : Int)) (.int .i64 (B : Int))
      obtain ⟨z1, z2, zf⟩ := P2.cells hZ
      --@6
      go_upto_region 11 with (refine wpList_load_mid rfl 81 _ rfl F (X * 2) rfl [.int .u8 (s : Int), .int .i64 (B : Int)] _ HRG.out Try.underlying81 rfl size_found ?_)
      --@7
      have hoz : Only [] w4 z0 := by rw [← hz]; exact (Only.refl [] w4).alloc _
      rw [hz] at hZ
      have HZ := Lib.hid hZ
      have HOV5 := Lib.hid (HOV4.out.only hoz (by simp)); have HOZ := Lib.hid hoz
      have hown4 : ∀ c, u10.ownBlock = some c → C ≤ c ∧ c < w4.heap.size := fun c hc => HOV4.out.lt hc
      have HOWN4 := Lib.hid hown4
      obtain ⟨Z, hZe⟩ : ∃ Z, w4.heap.size = Z := ⟨_, rfl⟩
      rw [hZe] at HZ HOWN4 ⊢
      have HZE := Lib.hid hZe
      clear hoz hZ z1 z2 zf x0 x1 xf hz hown4 hZe
      obtain ⟨z1, z2, zf⟩ := P2.cells HZ.out
      obtain ⟨i0, hi, hz0, hz1, hz2⟩ := info_parts info_u8
      obtain ⟨v', w5, hrun, hov5, hg5⟩ := run_append_one (P := Try.prog) (ty := 22) (T := 5) (fr := (0, 0)) (u := .int .u8 (s : Int)) Try.underlying22 hi hz0 hz1 hz2 rfl HOV5.out rfl (by simp only [List.length_map, sv_length, HDL.out, maxLen]; omega) (by simp only [List.length_map, sv_length, HDL.out]; omega) (Nat.le_trans HCS4.out HOZ.out.size)
      have HO5 : Hid (Only u10.ownBlock.toList z0 w5) := Lib.hid (((Only.refl _ z0).alloc _).then (Only.of_grown hg5))
      have HIN : Hid (∀ i ∈ u10.ownBlock.toList, C ≤ i ∧ i < Z) := Lib.hid (fun i hi => by
        cases hu : u10.ownBlock with
        | none => rw [hu] at hi; simp at hi
        | some c => rw [hu] at hi; simp at hi; subst hi; exact HOWN4.out _ hu)
      have HRUN := Lib.hid hrun
      rw [← u8v_of s hs256, show (sv Y).map u8v ++ [u8v (UInt8.ofNat s)] = (sv (Y ++ [s])).map u8v by rw [sv_snoc, List.map_append]; rfl] at hov5
      have HOV6 := Lib.hid hov5
      have hN1 : ∀ q, q < C → q ∉ u10.ownBlock.toList := fun q hq hm => by have := (HIN.out q hm).1; omega
      have HX6 := Lib.hid ((HX4.out.only HOZ.out (by simp)).only HO5.out (hN1 H (by have := HRC.out; omega)))
      have HF6 := Lib.hid ((HF4.out.only HOZ.out (by simp)).only HO5.out (hN1 F (by have := HRC.out; have := HFH.out; omega)))
      have HZ6 := Lib.hid (HZ.out.only HO5.out (fun hm => by have := (HIN.out Z hm).2; omega))
      have HBW6 := Lib.hid ((HBW4.out.only HOZ.out HCS4.out).only' HO5.out (Nat.le_trans HCS4.out HOZ.out.size) (fun q hq => .inr (HIN.out q hq).1))
      have HON6 := Lib.hid ((HON4.out.then HOZ.out).trans (S := []) HO5.out (by simp) (fun q hq => .inr (by have := (HIN.out q hq).1; have := HRC.out; have := HH.out; omega)))
      have HCS6 := Lib.hid (Nat.le_trans (Nat.le_trans HCS4.out HOZ.out.size) HO5.out.size)
      clear hrun hov5 hg5 hN1 hi hz0 hz1 hz2 HOV5 HOV4 HX4 HF4 HON4 HCS4 HZ HO5 HOZ HBW4 HIN HOWN4 HZE
      --@8
      go_upto_region 12 with (at_builtin; refine wpList_append_run rfl _ _ _ rfl rfl rfl HRUN.out ?_)
      --@9
      obtain ⟨x0, x1, xf⟩ := P2.cells HX6.out
      obtain ⟨y0, y1, yf⟩ := P2.cells HZ6.out
      obtain ⟨e, he⟩ : ∃ e, lg - B = e := ⟨_, rfl⟩
      rw [he] at HREST
      have heI : (lg : Int) - (B : Int) = (e : Int) := by omega
      have hel : e ≤ lg := by omega
      obtain ⟨Y2, hY2⟩ : ∃ Y2, Huf.msb M (p + B) e = Y2 := ⟨_, rfl⟩
      rw [hY2] at HREST
      have hX4 : X ≤ 4096 := by omega
      have hand := shl_and X e Y2 HREST.out hX4 (Nat.le_trans (Nat.pow_le_pow_right (n := 2) (by decide) (show e ≤ 11 by omega)) (by decide))
      have HEQ : Hid (p + B + e = p + T + m) := Lib.hid (by omega)
      have HY2 := Lib.hid hY2
      have HE2 := Lib.hid he
      clear hY2 he z1 z2 zf
      --@10
      go_wp2
      --@11
      go_roundw
      case rel => exact ⟨k + 1, e, by omega, by go_num, hel, rfl, by rw [HDS.out, HY2.out], by rw [HDS.out]; exact HOV6.out, by rw [HDS.out]; simp only []; rw [HEQ.out]; exact HBW6.out, HX6.out, HF6.out, HON6.out, HCS6.out⟩
      case measure => simp [intOf]; omega
    · obtain rfl : k = n := by omega
      obtain ⟨p, hp⟩ : ∃ p, (Huf.dec L d M k).2 = p := ⟨_, rfl⟩
      have hS := HS.out
      simp only [hp] at hS
      rw [hp] at HBW3 hpl
      have hlf := bleft_c wr (H + 1) C r _ b HBW3.out
      have hon4 := HON3.out
      have hov4 := HOV3.out.mono (show H ≤ C by have := HRC.out; omega)
      obtain ⟨G, hG⟩ : ∃ G : Int, (t : Int) - ((p + T : Nat) : Int) = G := ⟨_, rfl⟩
      rw [hG] at hlf
      have HLF := Lib.hid hlf; have HOV5 := Lib.hid hov4; have HON5 := Lib.hid hon4
      clear hlf hds hdl HS HOV3 hon4 hov4 HBW3 HX3 HF3 HON3 HCS3 hp
      by_cases h1 : t < p
      · rw [if_pos h1] at hS
        subst hS
        go_wp2_with (first | (go_at_call 45; refine (HLF.out).mono ?_; rintro e w' ⟨rfl, rfl⟩))
        go_ret2
        exact ⟨_, rfl, OV.nil _ _ _, HON5.out⟩
      · rw [if_neg h1] at hS
        by_cases h2 : p < t
        · rw [if_pos h2] at hS
          subst hS
          go_wp2_with (first | (go_at_call 45; refine (HLF.out).mono ?_; rintro e w' ⟨rfl, rfl⟩))
          go_ret2
          exact ⟨_, rfl, OV.nil _ _ _, HON5.out⟩
        · rw [if_neg h2] at hS
          subst hS
          go_wp2_with (first | (go_at_call 45; refine (HLF.out).mono ?_; rintro e w' ⟨rfl, rfl⟩))
          go_ret2
          exact ⟨u10, rfl, by have h := HOV5.out; unfold sv at h; rw [List.map_map] at h; exact h, HON5.out⟩
end Go.Proofs.Ytfckokdgmbbheaa.huf

set_option linter.unusedVariables false
set_option linter.unusedSimpArgs false
set_option maxRecDepth 20000
namespace Go.Proofs.Ytfckokdgmbbheaa.huf
open Go Go.RowKit Go.Lm Go.Proofs.Ytfckokdgmbbheaa.bit

theorem decode_c (w : World) (L : List Nat) (d : Nat) (hg : Huf.Good L d) (lg F NN : Nat) (hlg : Huf.lgt L d = lg) (hNN : 2 ^ lg = NN) (hF : PB w F 81 ((Huf.tab L d lg).map fv)) (v : Value) (b : List UInt8) (hv : BS w v b) (hb : b.length ≤ 100000) (n : Nat) (hn : n ≤ 1000) : Calls Try.prog 21 #[.agg #[.int .i64 (lg : Nat), .slice (some ⟨F, 0, none⟩) NN NN], v, .int .i64 (n : Nat)] w fun e w' =>
    ∃ v', e = .returned (.tuple #[v', .int .i64 (sdec L d b n).2]) ∧ OV w' w.heap.size 5 v' ((sdec L d b n).1.map u8v) ∧ Only [] w w' := by
  by_cases h0 : (b.getLastD 0).toNat = 0
  · have hS : sdec L d b n = ([], 11) := by unfold sdec; rw [if_pos h0]
    rw [hS]
    refine (decode_no w lg F NN v b hv hb n h0).mono ?_
    rintro e w' ⟨rfl, ho⟩
    exact ⟨_, rfl, OV.nil _ _ _, ho⟩
  · exact decode_yes w L d hg lg F NN hlg hNN hF v b hv hb n hn h0

/-- What Decode tells of weights, bytes. -/
def hdec (l b : List UInt8) (n : Int) : List UInt8 × Int :=
  if Huf.dep (Huf.ns l) = 0 then ([], 1)
  else if n < 0 ∨ 131072 < n then ([], 1)
  else sdec (Huf.ns l) (Huf.dep (Huf.ns l)) b n.toNat
/-- A number of symbols within what is looked at. -/
def NOk (n : Int) : Prop := n ≤ 1000 ∨ 131072 < n

theorem only_ret {w w1 w' : World} (h : Only [] w w1) (k : Only [] w1 w') : Only [] w w' := h.then k

set_option maxHeartbeats 2000000 in
theorem hdecode_c (w : World) (v u : Value) (l b : List UInt8) (hv : BS w v l) (hl : l.length ≤ 1000) (hu : BS w u b) (hb : b.length ≤ 100000) (n : Int) (hn : NOk n) : Calls Try.prog 11 #[v, u, .int .i64 n] w fun e w' =>
    ∃ v', e = .returned (.tuple #[v', .int .i64 (hdec l b n).2]) ∧ OV w' w.heap.size 5 v' ((hdec l b n).1.map u8v) ∧ Only [] w w' := by
  by_cases h0 : Huf.dep (Huf.ns l) = 0
  · have hS : hdec l b n = ([], 1) := by unfold hdec; rw [if_pos h0]
    rw [hS]
    have HT := Lib.hid (tabled_no w v l hv hl h0)
    obtain ⟨a, cap, rfl, -, -, -, -⟩ := hv
    obtain ⟨a2, cap2, rfl, -, -, -, -⟩ := hu
    clear h0 hS
    go_enter Try.func11, Try.ntmps11
    go_wp2_with fail
    refine HT.out.mono ?_
    rintro e w1 ⟨rfl, ho⟩
    have HO := Lib.hid ho
    clear ho
    go_wp2
    go_ret2
    exact ⟨_, rfl, OV.nil _ _ _, HO.out.alloc _⟩
  obtain ⟨d, hd⟩ : ∃ d, Huf.dep (Huf.ns l) = d := ⟨_, rfl⟩
  have hg := Huf.dep_some hd (by omega)
  have HT := Lib.hid (tabled_yes w v l hv hl d hd (by omega))
  obtain ⟨L, hL⟩ : ∃ L, Huf.ns l = L := ⟨_, rfl⟩
  obtain ⟨S, hS⟩ : ∃ S, hdec l b n = S := ⟨_, rfl⟩
  rw [hS]
  unfold hdec at hS
  rw [if_neg h0] at hS
  rw [hL] at hd
  simp only [hL, hd] at hS hg HT
  obtain ⟨lg, hlg⟩ : ∃ lg, Huf.lgt L d = lg := ⟨_, rfl⟩
  obtain ⟨NN, hNN⟩ : ∃ NN, 2 ^ lg = NN := ⟨_, rfl⟩
  simp only [hlg, hNN] at HT
  have HS := Lib.hid hS; have HU := Lib.hid hu; have HG := Lib.hid hg; have HLG := Lib.hid hlg; have HNN := Lib.hid hNN
  obtain ⟨a, cap, rfl, -, -, -, -⟩ := hv
  obtain ⟨a2, cap2, rfl, -, -, -, -⟩ := hu
  clear h0 hd hL hS hg hlg hNN
  go_enter Try.func11, Try.ntmps11
  go_wp2_with fail
  refine HT.out.mono ?_
  rintro e w1 ⟨F, rfl, hpb, hF, ho⟩
  have HPB := Lib.hid hpb; have HO := Lib.hid ho
  clear hpb ho HT
  by_cases h1 : n < 0
  · have hS := HS.out
    rw [if_pos (.inl h1)] at hS
    subst hS
    go_wp2
    go_ret2
    exact ⟨_, rfl, OV.nil _ _ _, HO.out.alloc _⟩
  by_cases h2 : 131072 < n
  · have hS := HS.out
    rw [if_pos (.inr h2)] at hS
    subst hS
    go_wp2
    go_ret2
    exact ⟨_, rfl, OV.nil _ _ _, HO.out.alloc _⟩
  obtain ⟨n, rfl⟩ := Int.eq_ofNat_of_zero_le (show 0 ≤ n by omega)
  have hS := HS.out
  rw [if_neg (by omega), Int.toNat_natCast] at hS
  subst hS
  have hn2 : n ≤ 1000 := by unfold NOk at hn; omega
  have ho2 : Only [] w (w1.alloc (.cells #[.int .i64 (lg : Nat), .slice (some ⟨F, 0, none⟩) NN NN] 41)) := HO.out.alloc _
  have ho3 : Only [] w1 (w1.alloc (.cells #[.int .i64 (lg : Nat), .slice (some ⟨F, 0, none⟩) NN NN] 41)) := (Only.refl [] w1).alloc _
  have hdc := decode_c (w1.alloc (.cells #[.int .i64 (lg : Nat), .slice (some ⟨F, 0, none⟩) NN NN] 41)) L d HG.out lg F NN HLG.out HNN.out (HPB.out.only ho3 (by simp)) _ b (HU.out.only ho2 (by simp)) hb n hn2
  have HDC := Lib.hid hdc; have HO2 := Lib.hid ho2
  clear hdc ho2 ho3 HPB
  go_wp2_with (first | (go_at_call 21; refine (HDC.out).mono ?_; rintro e w2 ⟨v', rfl, hov, hon⟩; have HOV := Lib.hid hov; have HON := Lib.hid hon; clear hov hon))
  go_ret2
  exact ⟨_, rfl, HOV.out.mono HO2.out.size, HO2.out.then HON.out⟩
end Go.Proofs.Ytfckokdgmbbheaa.huf

