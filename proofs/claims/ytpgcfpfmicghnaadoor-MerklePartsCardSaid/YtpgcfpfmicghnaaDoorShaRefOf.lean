/-
  THE WALK of the reference's Of.
-/
import Derived.Test.YtpgcfpfmicghnaaDoorShaRef
import Derived.Test.YtpgcfpfmicghnaaDoorShaPlain2
set_option linter.unusedVariables false
set_option linter.unusedSimpArgs false
namespace Go.Proofs.YtpgcfpfmicghnaaDoor.sha
open Go Go.RowKit Go.Lm

theorem info_u8 : (Tryd.prog.info? 5).map (fun i => (i.zero, i.size, i.bytes)) = some (some (.int .u8 0), 1, 1) := by kernel_rfl
theorem u8s_snoc (l : List UInt8) (u : UInt8) : l.map u8v ++ [u8v u] = (l ++ [u]).map u8v := by simp

theorem or4 (a b c d : UInt8) : bits .or .u32 (bits .or .u32 (bits .or .u32 (IntKind.u32.wrap ((a.toNat : Int) * 16777216)) (IntKind.u32.wrap ((b.toNat : Int) * 65536))) (IntKind.u32.wrap ((c.toNat : Int) * 256))) (d.toNat : Int) = (Sha.be [a, b, c, d] : Nat) := by
  have ha := a.toNat_lt; have hb := b.toNat_lt; have hc := c.toNat_lt; have hd := d.toNat_lt
  have e1 : IntKind.u32.wrap ((a.toNat : Int) * 16777216) = ((a.toNat * 16777216 : Nat) : Int) := by rw [IntKind.wrap_u32]; omega
  have e2 : IntKind.u32.wrap ((b.toNat : Int) * 65536) = ((b.toNat * 65536 : Nat) : Int) := by rw [IntKind.wrap_u32]; omega
  have e3 : IntKind.u32.wrap ((c.toNat : Int) * 256) = ((c.toNat * 256 : Nat) : Int) := by rw [IntKind.wrap_u32]; omega
  have h1 : a.toNat * 16777216 ||| b.toNat * 65536 < 4294967296 := Nat.or_lt_two_pow (n := 32) (by omega) (by omega)
  have h2 : a.toNat * 16777216 ||| b.toNat * 65536 ||| c.toNat * 256 < 4294967296 := Nat.or_lt_two_pow (n := 32) h1 (by omega)
  rw [e1, e2, e3, u32_or_nat _ _ (by omega) (by omega), u32_or_nat _ _ h1 (by omega), u32_or_nat _ _ h2 (by omega), Sha.be_four]
theorem keep2 {w : World} {wb t a c : Nat} {v x0 x1 : Value} (na : ¬ t = a) (nc : ¬ t = c) (k0 : w.cell? ⟨wb, a, none⟩ = some x0) (k1 : w.cell? ⟨wb, c, none⟩ = some x1) :
    (w.setCell ⟨wb, t, none⟩ v).drew.cell? ⟨wb, a, none⟩ = some x0 ∧ (w.setCell ⟨wb, t, none⟩ v).drew.cell? ⟨wb, c, none⟩ = some x1 := by
  have h : ∀ p, ¬ t = p → (w.setCell ⟨wb, t, none⟩ v).drew.cell? ⟨wb, p, none⟩ = w.cell? ⟨wb, p, none⟩ := fun p hp => by
    rw [World.cell?_drew]; exact World.cell?_setCell_other _ _ _ _ (fun e => by injection e with _ e; exact hp e)
  exact ⟨(h _ na).trans k0, (h _ nc).trans k1⟩
theorem keep4 {w : World} {g wb t p0 p1 p2 p3 : Nat} {v x0 x1 x2 x3 : Value} (hne : g ≠ wb) (k0 : w.cell? ⟨g, p0, none⟩ = some x0) (k1 : w.cell? ⟨g, p1, none⟩ = some x1) (k2 : w.cell? ⟨g, p2, none⟩ = some x2) (k3 : w.cell? ⟨g, p3, none⟩ = some x3) :
    (w.setCell ⟨wb, t, none⟩ v).drew.cell? ⟨g, p0, none⟩ = some x0 ∧ (w.setCell ⟨wb, t, none⟩ v).drew.cell? ⟨g, p1, none⟩ = some x1 ∧ (w.setCell ⟨wb, t, none⟩ v).drew.cell? ⟨g, p2, none⟩ = some x2 ∧ (w.setCell ⟨wb, t, none⟩ v).drew.cell? ⟨g, p3, none⟩ = some x3 := by
  have h : ∀ p, (w.setCell ⟨wb, t, none⟩ v).drew.cell? ⟨g, p, none⟩ = w.cell? ⟨g, p, none⟩ := fun p => by
    rw [World.cell?_drew]; exact World.cell?_setCell_other _ _ _ _ (fun e => by injection e with e _; exact hne e.symm)
  exact ⟨(h _).trans k0, (h _).trans k1, (h _).trans k2, (h _).trans k3⟩

set_option maxRecDepth 100000 in
set_option maxHeartbeats 8000000 in
theorem ref_c (s : ByteArray) (w : World) (hs : s.size ≤ 1000000) :
    Calls Tryd.prog 26 #[.string s] w fun e w' => e = .returned (dv (Sha.sum s.data.toList)) ∧ Only [] w w' := by
  obtain ⟨i0, hi, hz0, hz1, hz2⟩ := info_parts info_u8
  have HI := Lib.hid hi; have HZ0 := Lib.hid hz0; have HZ1 := Lib.hid hz1; have HZ2 := Lib.hid hz2
  clear hi hz0 hz1 hz2
  obtain ⟨l, hl⟩ : ∃ l, s.data.toList = l := ⟨_, rfl⟩
  have hll : l.length = s.size := by rw [← hl]; exact len_data s
  rw [hl]
  have HL := Lib.hid hl; have HLL := Lib.hid hll; have HS := Lib.hid hs
  obtain ⟨n, hn⟩ : ∃ n, s.size = n := ⟨_, rfl⟩
  have HN := Lib.hid hn
  clear hl hll hs hn
  go_enter Tryd.func26, Tryd.ntmps26
  go_upto_region 1 with fail
  generalize hg : World.alloc w _ = w1
  have hres : ∃ z : Array Value, z.size = 32 ∧ w1.heap[w.heap.size]? = some (.cells z 25 (0, 0)) :=
    ⟨(List.replicate 32 (Value.int .u8 0)).toArray, by simp, by rw [← hg]; exact (heap_alloc_new w _).trans rfl⟩
  have ho1 : Only [] w w1 := hg ▸ (Only.refl [] w).alloc _
  have hs1 : w1.heap.size = w.heap.size + 1 := by rw [← hg]; simp
  obtain ⟨z, hz, hzr⟩ := hres
  have HZ := Lib.hid hz; have HZR := Lib.hid hzr; have HO1 := Lib.hid ho1; have HS1 := Lib.hid hs1
  clear hg hz hzr ho1 hs1
  obtain ⟨v0, w2, hrun0, hcv0, ho2⟩ := run_new_cv (P := Tryd.prog) (w := w1) (B := w1.heap.size) s Tryd.underlying9 Tryd.underlying23 Tryd.underlying5 (by have := HS.out; unfold maxLen; omega) (Nat.le_refl _)
  rw [HL.out] at hcv0
  have HCV0 := Lib.hid hcv0; have HO2 := Lib.hid ho2
  clear hcv0 ho2
  go_upto_region 2 with fail
  clear hrun0
  obtain ⟨v1, w3, hrun1, hcv1, ho3⟩ := run_append_cv (P := Tryd.prog) (ty := 23) (T := 5) (fr := (0, 0)) (u := .int .u8 128) Tryd.underlying23 HI.out HZ0.out HZ1.out HZ2.out rfl HCV0.out rfl (by have := HLL.out; have := HS.out; unfold maxLen; simp; omega) (by have := HLL.out; have := HS.out; simp; omega) HO2.out.size
  rw [show Value.int .u8 128 = u8v 128 from rfl, u8s_snoc] at hcv1
  have HCV1 := Lib.hid hcv1; have HO3 : Hid (Only [] w1 w3) := HO2.out.trans ho3 (by simp) (fun i hi => .inr (by have := HCV0.out.lt i (by simpa using hi); omega)); have HRUN1 := Lib.hid hrun1
  clear hcv1 ho3 hrun1
  go_upto_region 3 with ((at_builtin; refine wpList_append_run rfl _ _ _ rfl rfl rfl HRUN1.out ?_))
  clear HRUN1 HCV0 HO2
  go_loopw [3] (fun x wr => ∃ j : Nat, j ≤ Sha.zs l.length ∧ CV wr w1.heap.size 5 x ((l ++ [128] ++ List.replicate j 0).map u8v) ∧ Only [] w1 wr) (fun x _ => l.length + 1 + Sha.zs l.length - slen x)
  case atStart => exact ⟨0, by omega, by simpa using HCV1.out, HO3.out⟩
  case round =>
    obtain ⟨j, hj, hcv, hor⟩ := hrel
    have HCV := Lib.hid hcv; have HOR := Lib.hid hor
    obtain ⟨g, cap, rfl, hgB, hgl, hc1, hc2⟩ := hcv.slice
    have hlen : ((l ++ [128] ++ List.replicate j 0).map u8v).length = l.length + 1 + j := by simp; omega
    rw [hlen] at hc1 HCV ⊢
    have hzl := Sha.zs_lt l.length
    have hll := HLL.out; have hs := HS.out
    obtain ⟨q, hq⟩ : ∃ q, l.length + 1 + j = q := ⟨_, rfl⟩
    rw [hq] at hc1 HCV ⊢
    have z1 : (0 : Int) ≤ (q : Int) := by omega
    have z2 : (q : Int) ≤ 2000000 := by omega
    by_cases hlt : j < Sha.zs l.length
    · have hne := Sha.zs_go l.length j hlt
      rw [hq] at hne
      have t1 : (((q : Int) + 8) % 64 == 0) = false := by rw [beq_eq_false_iff_ne]; omega
      have t2 : (((q : Int) + 8) % 64 != 0) = true := by rw [bne_iff_ne]; omega
      obtain ⟨v2, w4, hrun2, hcv2, ho4⟩ := run_append_cv (P := Tryd.prog) (ty := 23) (T := 5) (fr := (0, 0)) (u := .int .u8 0) Tryd.underlying23 HI.out HZ0.out HZ1.out HZ2.out rfl HCV.out rfl (by rw [hlen, hq]; unfold maxLen; omega) (by rw [hlen, hq]; omega) HOR.out.size
      rw [show Value.int .u8 0 = u8v 0 from rfl, u8s_snoc, List.append_assoc, ← List.replicate_succ'] at hcv2
      have HCV2 := Lib.hid hcv2; have HO4 : Hid (Only [] w1 w4) := HOR.out.trans ho4 (by simp) (fun i hi => .inr (by have := HCV.out.lt i (by simpa using hi); omega)); have HRUN2 := Lib.hid hrun2
      have HJ := Lib.hid hlt; have HQ := Lib.hid hq
      clear hcv2 ho4 hrun2 hne hlt hq hcv hor hlen hzl hll hs hc1 hc2 hgB hgl hj
      go_wp2_with ((at_builtin; refine wpList_append_run rfl _ _ _ rfl rfl rfl HRUN2.out ?_))
      go_roundw
      case rel => exact ⟨j + 1, by have := HJ.out; omega, HCV2.out, HO4.out⟩
      case measure =>
        obtain ⟨g2, cap2, rfl, -⟩ := HCV2.out.slice
        have h1 := HJ.out; have h2 := HQ.out
        simp [slen]; omega
    · obtain rfl : j = Sha.zs l.length := by omega
      have hne := Sha.zs_end l.length
      rw [hq] at hne
      have t1 : (((q : Int) + 8) % 64 == 0) = true := by rw [beq_iff_eq]; omega
      have t2 : (((q : Int) + 8) % 64 != 0) = false := by rw [bne_eq_false_iff_eq]; omega
      obtain ⟨P, hP⟩ : ∃ P, P = l ++ [128] ++ List.replicate (Sha.zs l.length) 0 := ⟨_, rfl⟩
      have hPl : P.length = q := by rw [hP, ← hq]; simp; omega
      rw [← hP] at HCV hlen
      have hval := be8_val n
      have hnn : l.length = n := by rw [HLL.out, HN.out]
      have hn0 : n ≤ 1000000 := by rw [← HN.out]; exact hs
      obtain ⟨W4, hW4⟩ : ∃ W4, W4 = wr := ⟨_, rfl⟩
      subst hW4
      have HP := Lib.hid hP; have HPL := Lib.hid hPl; have HNN := Lib.hid hnn; have HVAL := Lib.hid hval
      have hsn : (s.size : Int) = (n : Int) := by rw [HN.out]
      have hw8 : IntKind.u64.wrap (n : Int) = (n : Int) := by rw [IntKind.wrap_u64]; omega
      have HQ := Lib.hid hq; have HQ2 : Hid (q ≤ 1000100) := by show _ ≤ _; omega
      have HN0 := Lib.hid hn0
      clear hP hPl hnn hlen hne hq hcv hor hzl hll hs hc1 hc2 hgl hgB hj hlt hval HLL
      go_upto_region 7 with fail
      --@a
      clear t1 t2 hsn hw8
      go_loopw [3, 5] (fun x y wr => ∃ i : Nat, i ≤ 8 ∧ y = .int .i64 i ∧ CV wr w1.heap.size 5 x ((P ++ (Sha.be8 (8 * n % 18446744073709551616)).take i).map u8v) ∧ Only [] w1 wr) (fun _ y _ => (8 - intOf y).toNat)
      case atStart => exact ⟨0, by omega, rfl, by simpa using HCV.out, HOR.out⟩
      case round =>
        obtain ⟨i, hi, rfl, hcv, hor⟩ := hrel
        have HCVi := Lib.hid hcv; have HORi := Lib.hid hor
        obtain ⟨g2, cap2, rfl, hgB, hgl, hc1, hc2⟩ := hcv.slice
        by_cases hlt : i < 8
        · have hlen : ((P ++ (Sha.be8 (8 * n % 18446744073709551616)).take i).map u8v).length ≤ 1001000 := by
            have := HPL.out; have := HQ2.out; simp [Sha.be8_length]; omega
          obtain ⟨c, hc⟩ : ∃ c, c = (Sha.be8 (8 * n % 18446744073709551616))[i]'(by rw [Sha.be8_length]; exact hlt) := ⟨_, rfl⟩
          obtain ⟨v2, w4, hrun2, hcv2, ho4⟩ := run_append_cv (P := Tryd.prog) (ty := 23) (T := 5) (fr := (0, 0)) (u := u8v c) Tryd.underlying23 HI.out HZ0.out HZ1.out HZ2.out rfl HCVi.out rfl (by unfold maxLen; omega) (by omega) HORi.out.size
          have hsn : P ++ (Sha.be8 (8 * n % 18446744073709551616)).take i ++ [c] = P ++ (Sha.be8 (8 * n % 18446744073709551616)).take (i + 1) := by
            rw [List.append_assoc, hc]; congr 1; exact (List.take_succ_eq_append_getElem _).symm
          rw [u8s_snoc, hsn] at hcv2
          obtain ⟨N, hN⟩ : ∃ N, ((P ++ (Sha.be8 (8 * n % 18446744073709551616)).take i).map u8v).length = N := ⟨_, rfl⟩
          rw [hN] at hrun2 ⊢
          have HCV2 := Lib.hid hcv2; have HO4 : Hid (Only [] w1 w4) := HORi.out.trans ho4 (by simp) (fun i hi => .inr (by have := HCVi.out.lt i (by simpa using hi); omega)); have HRUN2 := Lib.hid hrun2
          have hn0 := HN0.out
          have hv := fun d h1 => HVAL.out i d hlt h1
          rw [← hc] at hv
          have HLT8 := Lib.hid hlt
          have hcases : i = 0 ∨ i = 1 ∨ i = 2 ∨ i = 3 ∨ i = 4 ∨ i = 5 ∨ i = 6 ∨ i = 7 := by omega
          clear hcv2 ho4 hrun2 hsn hcv hor hlen hc1 hc2 hgB hgl hN hc hlt
          obtain ⟨U, hU⟩ : ∃ U : Value, U = u8v c := ⟨_, rfl⟩
          rcases hcases with rfl | rfl | rfl | rfl | rfl | rfl | rfl | rfl
          · have hv' := hv 72057594037927936 (by omega) rfl
            have HV := Lib.hid (hv'.trans hU.symm)
            have HRUN3 := Lib.hid HRUN2.out
            rw [← hU] at HRUN3
            clear hv hv' hU
            go_upto_region 8 with ((at_builtin; (generalize hvv : Value.int IntKind.u8 _ = uv); (have hue : uv = U := (hvv.symm.trans (by first | rfl | (congr 1; omega))).trans HV.out); (subst hue); refine wpList_append_run rfl _ _ _ rfl rfl rfl HRUN3.out ?_))
            go_wp2_with fail
            go_roundw
            case rel => exact ⟨1, by omega, by go_num, HCV2.out, HO4.out⟩
            case measure => simp [intOf]
          · have hv' := hv 281474976710656 (by omega) rfl
            have HV := Lib.hid (hv'.trans hU.symm)
            have HRUN3 := Lib.hid HRUN2.out
            rw [← hU] at HRUN3
            clear hv hv' hU
            go_upto_region 8 with ((at_builtin; (generalize hvv : Value.int IntKind.u8 _ = uv); (have hue : uv = U := (hvv.symm.trans (by first | rfl | (congr 1; omega))).trans HV.out); (subst hue); refine wpList_append_run rfl _ _ _ rfl rfl rfl HRUN3.out ?_))
            go_wp2_with fail
            go_roundw
            case rel => exact ⟨2, by omega, by go_num, HCV2.out, HO4.out⟩
            case measure => simp [intOf]
          · have hv' := hv 1099511627776 (by omega) rfl
            have HV := Lib.hid (hv'.trans hU.symm)
            have HRUN3 := Lib.hid HRUN2.out
            rw [← hU] at HRUN3
            clear hv hv' hU
            go_upto_region 8 with ((at_builtin; (generalize hvv : Value.int IntKind.u8 _ = uv); (have hue : uv = U := (hvv.symm.trans (by first | rfl | (congr 1; omega))).trans HV.out); (subst hue); refine wpList_append_run rfl _ _ _ rfl rfl rfl HRUN3.out ?_))
            go_wp2_with fail
            go_roundw
            case rel => exact ⟨3, by omega, by go_num, HCV2.out, HO4.out⟩
            case measure => simp [intOf]
          · have hv' := hv 4294967296 (by omega) rfl
            have HV := Lib.hid (hv'.trans hU.symm)
            have HRUN3 := Lib.hid HRUN2.out
            rw [← hU] at HRUN3
            clear hv hv' hU
            go_upto_region 8 with ((at_builtin; (generalize hvv : Value.int IntKind.u8 _ = uv); (have hue : uv = U := (hvv.symm.trans (by first | rfl | (congr 1; omega))).trans HV.out); (subst hue); refine wpList_append_run rfl _ _ _ rfl rfl rfl HRUN3.out ?_))
            go_wp2_with fail
            go_roundw
            case rel => exact ⟨4, by omega, by go_num, HCV2.out, HO4.out⟩
            case measure => simp [intOf]
          · have hv' := hv 16777216 (by omega) rfl
            have HV := Lib.hid (hv'.trans hU.symm)
            have HRUN3 := Lib.hid HRUN2.out
            rw [← hU] at HRUN3
            clear hv hv' hU
            go_upto_region 8 with ((at_builtin; (generalize hvv : Value.int IntKind.u8 _ = uv); (have hue : uv = U := (hvv.symm.trans (by first | rfl | (congr 1; omega))).trans HV.out); (subst hue); refine wpList_append_run rfl _ _ _ rfl rfl rfl HRUN3.out ?_))
            go_wp2_with fail
            go_roundw
            case rel => exact ⟨5, by omega, by go_num, HCV2.out, HO4.out⟩
            case measure => simp [intOf]
          · have hv' := hv 65536 (by omega) rfl
            have HV := Lib.hid (hv'.trans hU.symm)
            have HRUN3 := Lib.hid HRUN2.out
            rw [← hU] at HRUN3
            clear hv hv' hU
            go_upto_region 8 with ((at_builtin; (generalize hvv : Value.int IntKind.u8 _ = uv); (have hue : uv = U := (hvv.symm.trans (by first | rfl | (congr 1; omega))).trans HV.out); (subst hue); refine wpList_append_run rfl _ _ _ rfl rfl rfl HRUN3.out ?_))
            go_wp2_with fail
            go_roundw
            case rel => exact ⟨6, by omega, by go_num, HCV2.out, HO4.out⟩
            case measure => simp [intOf]
          · have hv' := hv 256 (by omega) rfl
            have HV := Lib.hid (hv'.trans hU.symm)
            have HRUN3 := Lib.hid HRUN2.out
            rw [← hU] at HRUN3
            clear hv hv' hU
            go_upto_region 8 with ((at_builtin; (generalize hvv : Value.int IntKind.u8 _ = uv); (have hue : uv = U := (hvv.symm.trans (by first | rfl | (congr 1; omega))).trans HV.out); (subst hue); refine wpList_append_run rfl _ _ _ rfl rfl rfl HRUN3.out ?_))
            go_wp2_with fail
            go_roundw
            case rel => exact ⟨7, by omega, by go_num, HCV2.out, HO4.out⟩
            case measure => simp [intOf]
          · have hv' := hv 1 (by omega) rfl
            have HV := Lib.hid (hv'.trans hU.symm)
            have HRUN3 := Lib.hid HRUN2.out
            rw [← hU] at HRUN3
            clear hv hv' hU
            go_upto_region 8 with ((at_builtin; (generalize hvv : Value.int IntKind.u8 _ = uv); (have hue : uv = U := (hvv.symm.trans (by first | rfl | (congr 1; omega))).trans HV.out); (subst hue); refine wpList_append_run rfl _ _ _ rfl rfl rfl HRUN3.out ?_))
            go_wp2_with fail
            go_roundw
            case rel => exact ⟨8, by omega, by go_num, HCV2.out, HO4.out⟩
            case measure => simp [intOf]
        · obtain rfl : i = 8 := by omega
          obtain ⟨M, hM⟩ : ∃ M, Sha.pad l = M := ⟨_, rfl⟩
          have hpm : P ++ (Sha.be8 (8 * n % 18446744073709551616)).take 8 = M := by
            rw [List.take_of_length_le (by rw [Sha.be8_length]; omega), HP.out, ← hM, ← HNN.out]; rfl
          rw [hpm] at HCVi hc1 ⊢
          have hm64 : M.length % 64 = 0 := by rw [← hM]; exact Sha.pad_length l
          have hml : M.length ≤ 1001000 := by rw [← hpm]; have := HPL.out; have := HQ2.out; simp [Sha.be8_length]; omega
          obtain ⟨ml, hmll⟩ : ∃ ml, M.length = ml := ⟨_, rfl⟩
          have hN : (M.map u8v).length = ml := by rw [List.length_map, hmll]
          rw [hN] at HCVi hc1 ⊢
          have hvs : VS wr (.slice (some ⟨g2, 0, none⟩) ml cap2) (M.map u8v) := HCVi.out.vs
          obtain ⟨W5, hW5⟩ : ∃ W5, W5 = wr := ⟨_, rfl⟩
          subst hW5
          have HVS := Lib.hid hvs; have HM := Lib.hid hM; have HM64 := Lib.hid hm64; have HML := Lib.hid hml; have HMLL := Lib.hid hmll; have HGL := Lib.hid hgl; have HGB := Lib.hid hgB
          have HO5 : Hid (Only [] w1 W5) := hor
          have HZR5 := Lib.hid (hor.heap HZR.out (by simp))
          clear hpm hm64 hml hN hvs hM hmll hgl hgB hc1 hc2 hcv hor hlt hi HORi HCVi HOR HCV HCV1 HO3 HZR HQ HQ2 HPL HP HNN HVAL
          go_upto_region 11 with fail
          generalize hg : World.alloc W5 _ = W6
          have hh : Wds W6 W5.heap.size 71 (Sha.hsN M 0) := by unfold Wds; rw [← hg]; exact (heap_alloc_new W5 _).trans rfl
          have ho6 : Only [] W5 W6 := hg ▸ (Only.refl [] W5).alloc _
          have hs6 : W6.heap.size = W5.heap.size + 1 := by rw [← hg]; simp
          obtain ⟨hb, hhb⟩ : ∃ hb, W5.heap.size = hb := ⟨_, rfl⟩
          rw [hhb] at hh hs6 ⊢
          have HH := Lib.hid hh; have HO6 := Lib.hid ho6; have HS6 := Lib.hid hs6; have HHB := Lib.hid hhb
          clear hg hh ho6 hs6 hhb
          go_wp2_with fail
          refine (words_c W6).mono ?_
          rintro e w7 ⟨rfl, ho7⟩
          obtain ⟨KC, hKC⟩ : ∃ KC, (Sha.K.map u32v).toArray = KC := ⟨_, rfl⟩
          rw [hKC]
          have hks : KC.size = 64 := by rw [← hKC]; rfl
          have hki : (Tryd.prog.info? 72).map (·.size) = some KC.size := by rw [hks]; kernel_rfl
          have hk1 : KC.all (·.oneCell') = true := by rw [← hKC]; exact u32vs_one _
          have HKC := Lib.hid hKC; have HKS := Lib.hid hks; have HKI := Lib.hid hki; have HK1 := Lib.hid hk1; have HO7 := Lib.hid ho7
          clear hKC hks hki hk1 ho7
          go_upto_region 12 with (refine wpList_store_row rfl 72 _ _ rfl w7.heap.size KC rfl rfl _ _ (heap_alloc_new w7 _) HKI.out (by rw [HKS.out]; rfl) HK1.out ?_)
          try simp only [Act.put]
          have hx : ∀ z : Array Value, ((w7.alloc (.cells z 72)).setRow w7.heap.size KC).heap[w7.heap.size]? = some (.cells KC 72 (0, 0)) := fun z => setRow_heap _ _ z KC _ _ (heap_alloc_new w7 _)
          have hox : ∀ z : Obj, Only [] w7 ((w7.alloc z).setRow w7.heap.size KC) := fun z => ((Only.refl [] w7).alloc _).setRow (.inr (Nat.le_refl _)) KC
          generalize hg : World.setRow _ _ _ = W8
          have hx8 := hg ▸ hx _
          have hox8 := hg ▸ hox _
          obtain ⟨kb, hkb⟩ : ∃ kb, w7.heap.size = kb := ⟨_, rfl⟩
          rw [hkb] at hx8 ⊢
          have hk8 : Wds W8 kb 72 Sha.K := by unfold Wds; rw [HKC.out]; exact hx8
          have ho68 : Only [] W6 W8 := HO7.out.then hox8
          have hh8 : Wds W8 hb 71 (Sha.hsN M 0) := HH.out.only ho68 (by simp)
          have hvs8 : VS W8 (.slice (some ⟨g2, 0, none⟩) ml cap2) (M.map u8v) := HVS.out.only (HO6.out.then ho68) (by simp)
          have hzr8 := ho68.heap (HO6.out.heap HZR5.out (by simp)) (by simp)
          have ho8 : Only [] w W8 := ((HO1.out.then HO5.out).then HO6.out).then ho68
          have hhk : hb < kb := by have h1 := HO7.out.size; have h2 := HS6.out; omega
          have hgh : g2 < hb := by have := HGL.out; have := HHB.out; omega
          have hwr : w.heap.size < g2 := by have := HGB.out; have := HS1.out; omega
          have hk8l := hk8.lt
          have HK8 := Lib.hid hk8; have HH8 := Lib.hid hh8; have HVS8 := Lib.hid hvs8; have HZR8 := Lib.hid hzr8; have HO8 := Lib.hid ho8; have HHK := Lib.hid hhk; have HGH := Lib.hid hgh; have HWR := Lib.hid hwr; have HK8L := Lib.hid hk8l
          clear hx hox hg hx8 hox8 hkb hk8 ho68 hh8 hvs8 hzr8 ho8 hhk hgh hwr hk8l HKC HKS HKI HK1 HO7 HH HO6 HS6 HHB HVS HZR5 HO5 HGL HGB
          go_upto_region 13 with fail
          go_loopw [8] (fun x wr => ∃ k : Nat, k ≤ ml / 64 ∧ x = .int .i64 ((64 * k : Nat) : Int) ∧ Wds wr hb 71 (Sha.hsN M k) ∧ Only [hb] W8 wr) (fun x _ => ml - (intOf x).toNat)
          case atStart => exact ⟨0, by omega, rfl, HH8.out, Only.refl _ _⟩
          case round =>
            obtain ⟨k, hk, rfl, hh, hor⟩ := hrel
            obtain ⟨W9, hW9⟩ : ∃ W9, W9 = wr := ⟨_, rfl⟩
            subst hW9
            have HH9 := Lib.hid hh; have HOR9 := Lib.hid hor
            have hml := HML.out
            have hmll := HMLL.out
            have hm64 := HM64.out
            clear hh hor
            by_cases hlt : k < ml / 64
            · obtain ⟨A, hA⟩ : ∃ A, 64 * k = A := ⟨_, rfl⟩
              have hA1 : A + 64 ≤ ml := by rw [hmll] at hm64; omega
              rw [hA]
              obtain ⟨blk, hblk⟩ : ∃ blk, (M.drop (64 * k)).take 64 = blk := ⟨_, rfl⟩
              have hbl : blk.length = 64 := by rw [← hblk]; simp; omega
              have hnext : Sha.hsN M (k + 1) = Sha.comp (Sha.hsN M k) blk := by rw [← hblk]; rfl
              have hby : ∀ j (hj : j < 64), blk[j]? = M[A + j]? := fun j hj => by rw [← hblk, List.getElem?_take, if_pos hj, List.getElem?_drop, hA]
              have hAi : (A : Int) < (ml : Int) := by omega
              have hA0 : (0 : Int) ≤ (A : Int) := by omega
              have hAm : (A : Int) ≤ 1001000 := by omega
              have HA := Lib.hid hA; have HA1 := Lib.hid hA1; have HBL := Lib.hid hbl; have HNX := Lib.hid hnext; have HBY := Lib.hid hby; have HKL := Lib.hid hlt
              clear hblk hbl hnext hby hA hA1 hlt hk hm64
              go_upto_region 16 with fail
              generalize hg : World.alloc W9 _ = W10
              have hw : Wds W10 W9.heap.size 72 (Sha.wz (Sha.wl blk 0)) := by unfold Wds; rw [← hg]; exact (heap_alloc_new W9 _).trans rfl
              have ho10 : Only [] W9 W10 := hg ▸ (Only.refl [] W9).alloc _
              obtain ⟨wb, hwb⟩ : ∃ wb, W9.heap.size = wb := ⟨_, rfl⟩
              rw [hwb] at hw ⊢
              have hwb2 : kb < wb := by have := HK8L.out; have := HOR9.out.size; omega
              have HW10 := Lib.hid hw; have HO10 := Lib.hid ho10; have HWB := Lib.hid hwb; have HWB2 := Lib.hid hwb2
              have HVS10 : Hid (VS W10 (.slice (some ⟨g2, 0, none⟩) ml cap2) (M.map u8v)) := (HVS8.out.only HOR9.out (fun c hc _ => by simp [Value.ownBlock] at hc; have := HGH.out; simp; omega)).only ho10 (by simp)
              clear hg hw ho10 hwb hwb2
              go_upto_region 17 with fail
              go_loopw [10] (fun x wr => ∃ t : Nat, t ≤ 64 ∧ x = .int .i64 t ∧ Wds wr wb 72 (Sha.wz (Sha.wl blk t)) ∧ Only [wb] W10 wr) (fun x _ => 64 - (intOf x).toNat)
              case atStart => exact ⟨0, by omega, rfl, HW10.out, Only.refl _ _⟩
              case round =>
                obtain ⟨t, ht, rfl, hw, hor⟩ := hrel
                have HWt := Lib.hid hw; have HORt := Lib.hid hor
                have hfr := hw.free t
                have hlen := Sha.wl_length blk t ht
                by_cases h16 : t < 16
                · have hlo := Sha.wl_lo blk t h16
                  have hvt := HVS10.out.only hor (fun c hc _ => by simp [Value.ownBlock] at hc; have := HGH.out; have := HHK.out; have := HWB2.out; simp; omega)
                  have hbt : BS wr (.slice (some ⟨g2, 0, none⟩) ml cap2) M := BS.of_vs hvt
                  have hct := hw.cell t (by rw [Sha.wz_length _ (by omega)]; omega)
                  obtain ⟨old, hold⟩ : ∃ old, wr.cell? ⟨wb, t, none⟩ = some old := ⟨_, hct⟩
                  obtain ⟨p, hp⟩ : ∃ p, A + 4 * t = p := ⟨_, rfl⟩
                  have hA1 := HA1.out
                  obtain ⟨c0, hc0⟩ : ∃ c, c = M[p]'(by omega) := ⟨_, rfl⟩
                  obtain ⟨c1, hc1⟩ : ∃ c, c = M[p + 1]'(by omega) := ⟨_, rfl⟩
                  obtain ⟨c2, hc2⟩ : ∃ c, c = M[p + 2]'(by omega) := ⟨_, rfl⟩
                  obtain ⟨c3, hc3⟩ : ∃ c, c = M[p + 3]'(by omega) := ⟨_, rfl⟩
                  have hcell : ∀ j (hj : j < M.length), wr.cell? ⟨g2, j, none⟩ = some (.int .u8 (M[j].toNat : Int)) := by
                    intro j hj
                    obtain ⟨a', cap', he, _, _, _, hcc⟩ := hbt
                    simp only [Value.slice.injEq] at he
                    obtain ⟨rfl, _, rfl⟩ := he
                    obtain ⟨b', off', he2, hcl⟩ := hcc j hj
                    obtain ⟨rfl, rfl⟩ : g2 = b' ∧ 0 = off' := by simpa using he2
                    rwa [Nat.zero_add] at hcl
                  have k0 := hcell p (by omega)
                  have k1 := hcell (p + 1) (by omega)
                  have k2 := hcell (p + 2) (by omega)
                  have k3 := hcell (p + 3) (by omega)
                  rw [← hc0] at k0; rw [← hc1] at k1; rw [← hc2] at k2; rw [← hc3] at k3
                  have hbe : (blk.drop (4 * t)).take 4 = [c0, c1, c2, c3] := by
                    have hb := HBY.out
                    have hbl := HBL.out
                    apply List.ext_getElem?
                    intro j
                    rw [List.getElem?_take]
                    by_cases hj : j < 4
                    · rw [if_pos hj, List.getElem?_drop, hb _ (by omega)]
                      have : j = 0 ∨ j = 1 ∨ j = 2 ∨ j = 3 := by omega
                      rcases this with rfl | rfl | rfl | rfl
                      · rw [show A + (4 * t + 0) = p by omega, List.getElem?_eq_getElem (by omega), ← hc0]; rfl
                      · rw [show A + (4 * t + 1) = p + 1 by omega, List.getElem?_eq_getElem (by omega), ← hc1]; rfl
                      · rw [show A + (4 * t + 2) = p + 2 by omega, List.getElem?_eq_getElem (by omega), ← hc2]; rfl
                      · rw [show A + (4 * t + 3) = p + 3 by omega, List.getElem?_eq_getElem (by omega), ← hc3]; rfl
                    · rw [if_neg hj, List.getElem?_eq_none (by simp; omega)]
                  rw [hbe] at hlo
                  have hbf := Sha.be_four c0 c1 c2 c3
                  have u0 := c0.toNat_lt; have u1 := c1.toNat_lt; have u2 := c2.toNat_lt; have u3 := c3.toNat_lt
                  obtain ⟨p1, hp1⟩ : ∃ x, p + 1 = x := ⟨_, rfl⟩
                  obtain ⟨p2, hp2⟩ : ∃ x, p + 2 = x := ⟨_, rfl⟩
                  obtain ⟨p3, hp3⟩ : ∃ x, p + 3 = x := ⟨_, rfl⟩
                  rw [hp1] at k1; rw [hp2] at k2; rw [hp3] at k3
                  have e0 : (A : Int) + 4 * (t : Int) = (p : Int) := by omega
                  have e0' : (A : Int) + (t : Int) * 4 = (p : Int) := by omega
                  have e1 : IntKind.i64.wrap ((p : Int) + 1) = (p1 : Int) := by rw [IntKind.wrap_i64]; omega
                  have e2 : IntKind.i64.wrap ((p : Int) + 2) = (p2 : Int) := by rw [IntKind.wrap_i64]; omega
                  have e3 : IntKind.i64.wrap ((p : Int) + 3) = (p3 : Int) := by rw [IntKind.wrap_i64]; omega
                  have z0 : (0 : Int) ≤ (p : Int) := by omega
                  have z1 : (0 : Int) ≤ (p1 : Int) := by omega
                  have z2' : (0 : Int) ≤ (p2 : Int) := by omega
                  have z3 : (0 : Int) ≤ (p3 : Int) := by omega
                  have y0 : (p : Int) < (ml : Int) := by omega
                  have y1 : (p1 : Int) < (ml : Int) := by omega
                  have y2 : (p2 : Int) < (ml : Int) := by omega
                  have y3 : (p3 : Int) < (ml : Int) := by omega
                  have zt : (0 : Int) ≤ (t : Int) := by omega
                  have zt2 : (t : Int) < 16 := by omega
                  have zt3 : (t : Int) < 64 := by omega
                  have hne : g2 ≠ wb := by have := HGH.out; have := HHK.out; have := HWB2.out; omega
                  have HLO := Lib.hid hlo; have HBF := Lib.hid hbf
                  have u0' : (c0.toNat : Int) < 256 := by omega
                  have u1' : (c1.toNat : Int) < 256 := by omega
                  have u2' : (c2.toNat : Int) < 256 := by omega
                  have u3' : (c3.toNat : Int) < 256 := by omega
                  have v0' : IntKind.u32.wrap (c0.toNat : Int) = (c0.toNat : Int) := by rw [IntKind.wrap_u32]; omega
                  have v1' : IntKind.u32.wrap (c1.toNat : Int) = (c1.toNat : Int) := by rw [IntKind.wrap_u32]; omega
                  have v2' : IntKind.u32.wrap (c2.toNat : Int) = (c2.toNat : Int) := by rw [IntKind.wrap_u32]; omega
                  have v3' : IntKind.u32.wrap (c3.toNat : Int) = (c3.toNat : Int) := by rw [IntKind.wrap_u32]; omega
                  clear hvt hbt hct hlo hbe hbf hcell hc0 hc1 hc2 hc3 hp hp1 hp2 hp3 hw hor hlen h16 hA1 ht
                  go_upto_region 21 with fail
                  clear e0 e0'
                  go_region_held3 (fun w' => w'.cell? ⟨g2, p, none⟩ = some (.int .u8 (c0.toNat : Int)) ∧ w'.cell? ⟨g2, p1, none⟩ = some (.int .u8 (c1.toNat : Int)) ∧ w'.cell? ⟨g2, p2, none⟩ = some (.int .u8 (c2.toNat : Int)) ∧ w'.cell? ⟨g2, p3, none⟩ = some (.int .u8 (c3.toNat : Int)))
                    (first | exact keep4 hne k0 k1 k2 k3 | go_keep) (fail)
                  rw [or4]
                  have hs1 : Wds ((wr.setCell ⟨wb, t, none⟩ (.int .u32 (Sha.be [c0, c1, c2, c3] : Nat))).drew) wb 72 (Sha.wz (Sha.wl blk (t + 1))) := by rw [← HLO.out]; exact HWt.out.set t _
                  have ho1 : Only [wb] W10 ((wr.setCell ⟨wb, t, none⟩ (.int .u32 (Sha.be [c0, c1, c2, c3] : Nat))).drew) := (HORt.out.setCell (.inl (by simp)) _).drew
                  generalize World.drew _ = w11 at *
                  have HS1' := Lib.hid hs1; have HO1' := Lib.hid ho1
                  clear hs1 ho1 k0 k1 k2 k3 e1 e2 e3 v0' v1' v2' v3' hfr hold
                  go_wp2_with fail
                  go_roundw
                  case rel => exact ⟨t + 1, by omega, by go_num, HS1'.out, HO1'.out⟩
                  case measure => simp [intOf]; omega
                · by_cases hlt : t < 64
                  · have hhi := Sha.wl_hi blk t (by omega)
                    have hslt := Sha.wl_lt blk t
                    obtain ⟨ws, hws⟩ : ∃ ws, Sha.wl blk t = ws := ⟨_, rfl⟩
                    rw [hws] at HWt hlen hslt hhi hw
                    obtain ⟨a, ha⟩ : ∃ a : Nat, (t : Int) - 16 = (a : Int) := ⟨t - 16, by omega⟩
                    obtain ⟨b, hb'⟩ : ∃ b : Nat, (t : Int) - 15 = (b : Int) := ⟨t - 15, by omega⟩
                    obtain ⟨c, hc⟩ : ∃ c : Nat, (t : Int) - 7 = (c : Int) := ⟨t - 7, by omega⟩
                    obtain ⟨d, hd⟩ : ∃ d : Nat, (t : Int) - 2 = (d : Int) := ⟨t - 2, by omega⟩
                    have ca := hw.cell a (by rw [Sha.wz_length _ (by omega)]; omega)
                    have cb := hw.cell b (by rw [Sha.wz_length _ (by omega)]; omega)
                    have cc := hw.cell c (by rw [Sha.wz_length _ (by omega)]; omega)
                    have cd := hw.cell d (by rw [Sha.wz_length _ (by omega)]; omega)
                    have hct := hw.cell t (by rw [Sha.wz_length _ (by omega)]; omega)
                    obtain ⟨old, hold⟩ : ∃ old, wr.cell? ⟨wb, t, none⟩ = some old := ⟨_, hct⟩
                    rw [Sha.wz_get _ _ (by omega)] at ca cb cc cd
                    have hset := Sha.wz_set ws ((ws.getD a 0 + Sha.sml (ws.getD b 0) 7 18 3 + ws.getD c 0 + Sha.sml (ws.getD d 0) 17 19 10) % 4294967296) (by omega)
                    have hset' : (Sha.wz ws).set t ((ws.getD a 0 + Sha.sml (ws.getD b 0) 7 18 3 + ws.getD c 0 + Sha.sml (ws.getD d 0) 17 19 10) % 4294967296) = Sha.wz (Sha.wl blk (t + 1)) := by
                      rw [hhi, Sha.ext, show ws.length - 16 = a by omega, show ws.length - 15 = b by omega, show ws.length - 7 = c by omega, show ws.length - 2 = d by omega, ← hset]
                      congr 1; exact hlen.symm
                    have ha64 : (a : Int) < 64 := by omega
                    have hb64 : (b : Int) < 64 := by omega
                    have hc64 : (c : Int) < 64 := by omega
                    have hd64 : (d : Int) < 64 := by omega
                    have lB := Sha.getD_lt hslt b; have lD := Sha.getD_lt hslt d
                    have wa : IntKind.i64.wrap ((t : Int) - 16) = (a : Int) := by rw [IntKind.wrap_i64]; omega
                    have wc : IntKind.i64.wrap ((t : Int) - 7) = (c : Int) := by rw [IntKind.wrap_i64]; omega
                    have za : (0 : Int) ≤ (a : Int) := by omega
                    have zb : (0 : Int) ≤ (b : Int) := by omega
                    have zc : (0 : Int) ≤ (c : Int) := by omega
                    have zd : (0 : Int) ≤ (d : Int) := by omega
                    have zt : (0 : Int) ≤ (t : Int) := by omega
                    have zt2 : (t : Int) < 64 := by omega
                    have zt3 : ¬ ((t : Int) < 16) := by omega
                    have na : ¬ t = a := by omega
                    have nc : ¬ t = c := by omega
                    have HSET := Lib.hid hset'; have HLT := Lib.hid hlt
                    obtain ⟨xa, hxa⟩ : ∃ x, ws.getD a 0 = x := ⟨_, rfl⟩
                    obtain ⟨xb, hxb⟩ : ∃ x, ws.getD b 0 = x := ⟨_, rfl⟩
                    obtain ⟨xc, hxc⟩ : ∃ x, ws.getD c 0 = x := ⟨_, rfl⟩
                    obtain ⟨xd, hxd⟩ : ∃ x, ws.getD d 0 = x := ⟨_, rfl⟩
                    rw [hxa, hxb, hxc, hxd] at HSET
                    rw [hxa] at ca; rw [hxb] at cb lB; rw [hxc] at cc; rw [hxd] at cd lD
                    have y1 := u32_xor_nat (Sha.rr 7 xb) (Sha.rr 18 xb) (Sha.rr_lt lB) (Sha.rr_lt lB)
                    have y2 : bits .xor .u32 ((Sha.rr 7 xb ^^^ Sha.rr 18 xb : Nat) : Int) ((xb : Int) / 8) = (Sha.sml xb 7 18 3 : Nat) := by
                      rw [show (xb : Int) / 8 = ((xb / 8 : Nat) : Int) by omega]
                      exact u32_xor_nat _ _ (Nat.xor_lt_two_pow (n := 32) (Sha.rr_lt lB) (Sha.rr_lt lB)) (by omega)
                    have y3 := u32_xor_nat (Sha.rr 17 xd) (Sha.rr 19 xd) (Sha.rr_lt lD) (Sha.rr_lt lD)
                    have y4 : bits .xor .u32 ((Sha.rr 17 xd ^^^ Sha.rr 19 xd : Nat) : Int) ((xd : Int) / 1024) = (Sha.sml xd 17 19 10 : Nat) := by
                      rw [show (xd : Int) / 1024 = ((xd / 1024 : Nat) : Int) by omega]
                      exact u32_xor_nat _ _ (Nat.xor_lt_two_pow (n := 32) (Sha.rr_lt lD) (Sha.rr_lt lD)) (by omega)
                    clear hset hset' hhi hslt hlen hlt h16 ha hc hct hw hor ht hxa hxb hxc hxd hws
                    go_upto_region 24 with fail
                    clear hb' hd
                    go_region_held3 (fun w' => w'.cell? ⟨wb, a, none⟩ = some (.int .u32 xa) ∧ w'.cell? ⟨wb, c, none⟩ = some (.int .u32 xc)) (first | exact keep2 na nc ca cc | go_keep)
                      (first
                        | (go_at_call 43; (with_reducible refine (right_7 xb lB _).mono ?_); rintro e w' ⟨rfl, rfl⟩)
                        | (go_at_call 43; (with_reducible refine (right_18 xb lB _).mono ?_); rintro e w' ⟨rfl, rfl⟩)
                        | (go_at_call 43; (with_reducible refine (right_17 xd lD _).mono ?_); rintro e w' ⟨rfl, rfl⟩)
                        | (go_at_call 43; (with_reducible refine (right_19 xd lD _).mono ?_); rintro e w' ⟨rfl, rfl⟩))
                    rw [sum4]
                    have hs1 : Wds ((wr.setCell ⟨wb, t, none⟩ (.int .u32 ((xa + Sha.sml xb 7 18 3 + xc + Sha.sml xd 17 19 10) % 4294967296 : Nat))).drew) wb 72 (Sha.wz (Sha.wl blk (t + 1))) := by rw [← HSET.out]; exact HWt.out.set t _
                    have ho1 : Only [wb] W10 ((wr.setCell ⟨wb, t, none⟩ (.int .u32 ((xa + Sha.sml xb 7 18 3 + xc + Sha.sml xd 17 19 10) % 4294967296 : Nat))).drew) := (HORt.out.setCell (.inl (by simp)) _).drew
                    generalize World.drew _ = w11 at *
                    have HS1' := Lib.hid hs1; have HO1' := Lib.hid ho1
                    clear hs1 ho1 ca cb cc cd wa wc y1 y2 y3 y4 hfr hold na nc zt3
                    go_wp2_with fail
                    go_roundw
                    case rel => exact ⟨t + 1, by have := HLT.out; omega, by go_num, HS1'.out, HO1'.out⟩
                    case measure => have := HLT.out; simp [intOf]; omega
                  · obtain rfl : t = 64 := by omega
                    rw [Sha.wl_all] at hlen hw
                    have hfull : Sha.wz (Sha.sch blk 48) = Sha.sch blk 48 := by simp [Sha.wz, hlen]
                    rw [hfull] at hw
                    obtain ⟨W12, hW12⟩ : ∃ W12, W12 = wr := ⟨_, rfl⟩
                    subst hW12
                    obtain ⟨WS, hWS⟩ : ∃ WS, Sha.sch blk 48 = WS := ⟨_, rfl⟩
                    rw [hWS] at hw hlen
                    obtain ⟨h, hh⟩ : ∃ h, Sha.hsN M k = h := ⟨_, rfl⟩
                    have h8 : Sha.W8 h := by rw [← hh]; exact Sha.W8.hsN M k
                    have hcomp : Sha.hsN M (k + 1) = List.zipWith (fun v s => (v + s) % 4294967296) h (Sha.rnds WS h 64) := by rw [HNX.out, hh, ← Sha.comp_comm, hWS]
                    have hhb : Wds W12 hb 71 h := by
                      rw [← hh]; exact (HH9.out.only HO10.out (by simp)).only hor (by have := HHK.out; have := HWB2.out; simp; omega)
                    have hkk : Wds W12 kb 72 Sha.K := ((HK8.out.only HOR9.out (by have := HHK.out; simp; omega)).only HO10.out (by simp)).only hor (by have := HWB2.out; simp; omega)
                    have ho12 : Only [hb] W8 W12 := (HOR9.out.then (HO10.out.mono (by simp))).trans hor (by simp) (by have := HWB2.out; have := HK8L.out; have := HOR9.out.size; have := HWB.out; simp; omega)
                    have hwlt := hw.lt
                    obtain ⟨CA, hCA⟩ : ∃ CA, (h.map u32v).toArray = CA := ⟨_, rfl⟩
                    have hcs : CA.size = 8 := by rw [← hCA]; simp [h8.1]
                    have hci : (Tryd.prog.info? 71).map (·.size) = some CA.size := by rw [hcs]; kernel_rfl
                    have hc1 : CA.all (·.oneCell') = true := by rw [← hCA]; exact u32vs_one _
                    have hhb' : W12.heap[hb]? = some (.cells CA 71 (0, 0)) := by rw [← hCA]; exact hhb
                    have HCA := Lib.hid hCA; have HCS := Lib.hid hcs; have HCI := Lib.hid hci; have HC1 := Lib.hid hc1; have HHB' := Lib.hid hhb'
                    have HW12 := Lib.hid hw; have HHH := Lib.hid hh; have H8 := Lib.hid h8; have HCOMP := Lib.hid hcomp; have HHB := Lib.hid hhb; have HKK := Lib.hid hkk; have HO12 := Lib.hid ho12; have HWLT := Lib.hid hwlt; have HWL := Lib.hid hlen
                    clear hfull hWS hh h8 hcomp hhb hkk ho12 hwlt hCA hcs hci hc1 hhb' hw hor hfr hlen ht hlt h16 HWt HORt HVS10 HW10 HO10 HH9 HBY HBL HNX HA1
                    go_upto_region 26 with (first
                      | (refine wpList_load_row rfl 71 _ rfl hb rfl _ CA _ _ HHB'.out Tryd.underlying71 rfl HCI.out ?_)
                      | (refine wpList_store_row rfl 71 _ _ rfl W12.heap.size CA rfl rfl _ _ (heap_alloc_new W12 _) HCI.out (by rw [HCS.out]; rfl) HC1.out ?_))
                    try simp only [Act.put]
                    have hx : ∀ z : Array Value, ((W12.alloc (.cells z 71)).setRow W12.heap.size CA).heap[W12.heap.size]? = some (.cells CA 71 (0, 0)) := fun z => setRow_heap _ _ z CA _ _ (heap_alloc_new W12 _)
                    have hox : ∀ z : Obj, Only [] W12 ((W12.alloc z).setRow W12.heap.size CA) := fun z => ((Only.refl [] W12).alloc _).setRow (.inr (Nat.le_refl _)) CA
                    generalize hg : World.setRow _ _ _ = W13
                    have hx13 := hg ▸ hx _
                    have hox13 := hg ▸ hox _
                    obtain ⟨vb, hvb⟩ : ∃ vb, W12.heap.size = vb := ⟨_, rfl⟩
                    rw [hvb] at hx13 ⊢
                    have hv13 : Wds W13 vb 71 h := by unfold Wds; rw [HCA.out]; exact hx13
                    have hwv : wb < vb := by have := HWLT.out; omega
                    have HV13 := Lib.hid hv13; have HWV := Lib.hid hwv; have HVBE := Lib.hid hvb
                    have HW13 := Lib.hid (HW12.out.only hox13 (by simp)); have HHB13 := Lib.hid (HHB.out.only hox13 (by simp)); have HKK13 := Lib.hid (HKK.out.only hox13 (by simp))
                    have HO13 : Hid (Only [hb] W8 W13) := HO12.out.then (hox13.mono (by simp))
                    clear hx hox hg hx13 hox13 hvb hv13 hwv HW12 HHB HKK HO12 HHB'
                    go_upto_region 27 with fail
                    go_loopw [15] (fun x wr => ∃ r : Nat, r ≤ 64 ∧ x = .int .i64 r ∧ Wds wr vb 71 (Sha.rnds WS h r) ∧ Only [vb] W13 wr) (fun x _ => 64 - (intOf x).toNat)
                    case atStart => exact ⟨0, by omega, rfl, HV13.out, Only.refl _ _⟩
                    case round =>
                      obtain ⟨r, hr, rfl, hv, hov⟩ := hrel
                      have HVr := Lib.hid hv; have HOVr := Lib.hid hov
                      by_cases hlt : r < 64
                      · have h8r := H8.out.rnds WS r
                        have hnx : Sha.rnds WS h (r + 1) = Sha.rnd (Sha.rnds WS h r) (Sha.K.getD r 0) (WS.getD r 0) := rfl
                        obtain ⟨st, hst⟩ : ∃ st, Sha.rnds WS h r = st := ⟨_, rfl⟩
                        rw [hst] at h8r hnx hv
                        have ck := (HKK13.out.only hov (by have := HWB2.out; have := HWV.out; simp; omega)).cell r (by simpa [Sha.K] using hlt)
                        have cw := (HW13.out.only hov (by have := HWV.out; simp; omega)).cell r (by rw [HWL.out]; omega)
                        obtain ⟨kt, hkt⟩ : ∃ kt, Sha.K.getD r 0 = kt := ⟨_, rfl⟩
                        obtain ⟨wt, hwt⟩ : ∃ wt, WS.getD r 0 = wt := ⟨_, rfl⟩
                        rw [hkt] at ck hnx
                        rw [hwt] at cw hnx
                        obtain ⟨S, hS⟩ : ∃ S, st.map u32v = S := ⟨_, rfl⟩
                        have lS : S.length = 8 := by rw [← hS]; simpa using h8r.1
                        have iS : (Tryd.prog.info? 71).map (·.size) = some S.length := by rw [lS]; kernel_rfl
                        have hvS : wr.heap[vb]? = some (.cells S.toArray 71 (0, 0)) := by rw [← hS]; exact hv
                        have hrg : wr.rangeAt vb 0 S := range_of_block hvS 0 S (fun j v hj => by rw [Nat.zero_add]; exact hj)
                        have hround := fun W => round_c W st h8r kt wt
                        rw [hS, ← hnx] at hround
                        have h8n : Sha.W8 (Sha.rnds WS h (r + 1)) := H8.out.rnds WS (r + 1)
                        obtain ⟨S2, hS2⟩ : ∃ S2, ((Sha.rnds WS h (r + 1)).map u32v).toArray = S2 := ⟨_, rfl⟩
                        rw [hS2] at hround
                        have lS2 : S2.size = 8 := by rw [← hS2]; simpa using h8n.1
                        have iS2 : (Tryd.prog.info? 71).map (·.size) = some S2.size := by rw [lS2]; kernel_rfl
                        have oS2 : S2.all (·.oneCell') = true := by rw [← hS2]; exact u32vs_one _
                        have zr : (0 : Int) ≤ (r : Int) := by omega
                        have zr2 : (r : Int) < 64 := by omega
                        have HS := Lib.hid hS; have HLS := Lib.hid lS; have HIS := Lib.hid iS; have HVSr := Lib.hid hvS; have HRG := Lib.hid hrg; have HROUND := Lib.hid hround; have HS2 := Lib.hid hS2; have HLS2 := Lib.hid lS2; have HIS2 := Lib.hid iS2; have HOS2 := Lib.hid oS2; have HLTr := Lib.hid hlt
                        clear h8r hnx hst hkt hwt hS lS iS hvS hrg hround h8n hS2 lS2 iS2 oS2 hv hov hr hlt
                        go_upto_region 29 with fail
                        refine wp_region_still_tail 7 (by kernel_rfl) (by kernel_rfl) ?_
                        simp only [List.take_succ_cons, List.take_zero, List.drop_succ_cons, List.drop_zero]
                        refine wpStill_step (fun K hK => ?_)
                        refine still_load_mid rfl 71 _ rfl vb 0 rfl S _ HRG.out Tryd.underlying71 rfl HIS.out (hK _ ?_)
                        try simp only [Act.put, List.setIfInBounds_toArray, List.set_cons_zero, List.set_cons_succ]
                        clear hK K
                        iterate 6 still_step
                        refine wpStill_nil ?_
                        change wpList _ _ _ _ _ wr.drew
                        have hvd : wr.drew.heap[vb]? = some (.cells S.toArray 71 (0, 0)) := HVSr.out
                        have hod : Only [vb] W13 wr.drew := HOVr.out.drew
                        have HVD := Lib.hid hvd; have HOD := Lib.hid hod
                        generalize wr.drew = wd at *
                        clear hvd hod ck cw HVSr HRG HVr HOVr
                        go_wp2_with fail
                        refine (HROUND.out _).mono ?_
                        rintro e we ⟨rfl, hoe⟩
                        have hve := hoe.heap HVD.out (by simp)
                        have HVE := Lib.hid hve; have HOE := Lib.hid hoe
                        clear hve hoe
                        go_upto_region 28 with (refine wpList_store_row rfl 71 _ _ rfl vb S2 rfl rfl _ _ HVE.out HIS2.out (by rw [HLS2.out, List.size_toArray, HLS.out]) HOS2.out ?_)
                        try simp only [Act.put]
                        have hv9 : Wds (we.setRow vb S2) vb 71 (Sha.rnds WS h (r + 1)) := by unfold Wds; rw [HS2.out]; exact setRow_heap _ _ _ S2 _ _ HVE.out
                        have ho9 : Only [vb] W13 (we.setRow vb S2) := (HOD.out.then (HOE.out.mono (by simp))).setRow (.inl (by simp)) S2
                        generalize World.setRow _ _ _ = w9 at *
                        have HV9 := Lib.hid hv9; have HO9 := Lib.hid ho9
                        clear hv9 ho9
                        go_wp2_with fail
                        go_roundw
                        case rel => exact ⟨r + 1, by have := HLTr.out; omega, by go_num, HV9.out, HO9.out⟩
                        case measure => have := HLTr.out; simp [intOf]; omega
                      · obtain rfl : r = 64 := by omega
                        obtain ⟨R, hR⟩ : ∃ R, Sha.rnds WS h 64 = R := ⟨_, rfl⟩
                        have hR8 : R.length = 8 := by rw [← hR]; exact (H8.out.rnds WS 64).1
                        have hh8 := H8.out.1
                        have hcomp := HCOMP.out
                        rw [hR] at hv hcomp
                        rw [← Sha.sumTo_all h R hh8 hR8] at hcomp
                        obtain ⟨W14, hW14⟩ : ∃ W14, W14 = wr := ⟨_, rfl⟩
                        subst hW14
                        have HR8 := Lib.hid hR8; have HH8L := Lib.hid hh8; have HCOMP2 := Lib.hid hcomp; have HV14 := Lib.hid hv
                        have hvb8 : W8.heap.size ≤ vb := by have h1 := HWV.out; have h2 := HWB.out; have h3 := HOR9.out.size; omega
                        have HHB14 : Hid (Wds W14 hb 71 h) := HHB13.out.only hov (by have := HHK.out; have := HWB2.out; have := HWV.out; simp; omega)
                        have HO14 : Hid (Only [hb] W8 W14) := HO13.out.trans hov (by simp) (by simp; exact .inr hvb8)
                        have hhv : hb ≠ vb := by have := HHK.out; have := HWB2.out; have := HWV.out; omega
                        have HHV := Lib.hid hhv
                        clear hR hR8 hh8 hcomp hv hov hlt hr HVr HOVr HV13 HHB13 HKK13 HW13 HO13 hvb8 hhv
                        go_upto_region 31 with fail
                        go_loopw [16] (fun x wr => ∃ t : Nat, t ≤ 8 ∧ x = .int .i64 t ∧ Wds wr hb 71 (Sha.sumTo h R t) ∧ Only [hb] W14 wr) (fun x _ => 8 - (intOf x).toNat)
                        case atStart => exact ⟨0, by omega, rfl, by rw [Sha.sumTo_zero]; exact HHB14.out, Only.refl _ _⟩
                        case round =>
                          obtain ⟨t, ht, rfl, hv, hov⟩ := hrel
                          by_cases hlt : t < 8
                          · have hget := Sha.sumTo_get h R t HH8L.out HR8.out hlt
                            have hsucc := Sha.sumTo_succ h R t HH8L.out HR8.out hlt
                            have c1 := hv.cell t (by rw [Sha.sumTo_length h R t HH8L.out HR8.out ht]; exact hlt)
                            have c2 := (HV14.out.only hov (by have := HHV.out; simp; omega)).cell t (by rw [HR8.out]; exact hlt)
                            have hf := hv.free t
                            rw [hget] at c1
                            have zt : (0 : Int) ≤ (t : Int) := by omega
                            have zt2 : (t : Int) < 8 := by omega
                            obtain ⟨x, hx⟩ : ∃ x, h.getD t 0 = x := ⟨_, rfl⟩
                            obtain ⟨y, hy⟩ : ∃ y, R.getD t 0 = y := ⟨_, rfl⟩
                            rw [hx] at c1 hsucc
                            rw [hy] at c2 hsucc
                            have HSU := Lib.hid hsucc; have HV5 := Lib.hid hv; have HOV5 := Lib.hid hov
                            clear hget hsucc hx hy hv hov
                            go_upto_region 33 with fail
                            go_region
                            rw [sum_two x y]
                            have hs6 : Wds ((wr.setCell ⟨hb, t, none⟩ (.int .u32 ((x + y) % 4294967296 : Nat))).drew) hb 71 (Sha.sumTo h R (t + 1)) := by
                              rw [← HSU.out]; exact (HV5.out.set t _)
                            have ho6 : Only [hb] W14 ((wr.setCell ⟨hb, t, none⟩ (.int .u32 ((x + y) % 4294967296 : Nat))).drew) := (HOV5.out.setCell (.inl (by simp)) _).drew
                            generalize World.drew _ = w6 at *
                            have HS6' := Lib.hid hs6; have HO6' := Lib.hid ho6
                            clear hs6 ho6 c1 c2 hf HV5 HOV5 HSU
                            go_wp2_with fail
                            go_roundw
                            case rel => exact ⟨t + 1, by omega, by go_num, HS6'.out, HO6'.out⟩
                            case measure => simp [intOf]; omega
                          · obtain rfl : t = 8 := by omega
                            rw [← HCOMP2.out] at hv
                            have HVF := Lib.hid hv
                            have HOF := Lib.hid (HO14.out.then hov)
                            have e64 : (A : Int) + 64 = ((64 * (k + 1) : Nat) : Int) := by have := HA.out; omega
                            have HE64 := Lib.hid e64
                            clear hv hov hlt ht e64
                            go_wp2_with fail
                            go_roundw
                            case rel => exact ⟨k + 1, by have := HKL.out; omega, by have := HE64.out; first | (congr 1; done) | go_num | (rw [this]), HVF.out, HOF.out⟩
                            case measure => have := HKL.out; have := HA.out; simp [intOf]; omega
            · obtain rfl : k = ml / 64 := by omega
              have hat : 64 * (ml / 64) = ml := by rw [hmll] at hm64; omega
              rw [hat]
              obtain ⟨D, hD⟩ : ∃ D, Sha.hsN M (ml / 64) = D := ⟨_, rfl⟩
              have hsum : Sha.sum l = Sha.dig D := by rw [← hD, ← hmll, ← HM.out]; rfl
              have hh9 := HH9.out
              rw [hD] at hh9
              have hD8 : D.length = 8 := by rw [← hD]; exact (Sha.W8.hsN M _).1
              have hcell : ∀ i, i < 8 → W9.cell? ⟨hb, i, none⟩ = some (.int .u32 (D.getD i 0 : Nat)) := fun i hi => hh9.cell i (by omega)
              have hhl := hh9.lt
              have hrs := HOR9.out.heap HZR8.out (by have := HWR.out; have := HGH.out; simp; omega)
              have ho9 : Only [] w W9 := only_own HO8.out HOR9.out (by have := HWR.out; have := HGH.out; omega)
              have HSUM := Lib.hid hsum; have HCELL := Lib.hid hcell; have HHL := Lib.hid hhl; have HRS := Lib.hid hrs; have HO9 := Lib.hid ho9
              clear hat hD hsum hh9 hD8 hcell hhl hrs ho9 hk hlt hml hmll hm64 HH9 HOR9 HVS8 HK8 HO8 HZR8 HH8 HM HMLL HM64 HML
              go_upto_region 35 with fail
              generalize hg : World.alloc W9 _ = W6'
              have hB : Blk W6' W9.heap.size 25 (Sha.dz (Sha.dig D) 0) := by rw [Sha.dz_zero]; unfold Blk; rw [← hg]; exact (heap_alloc_new W9 _).trans rfl
              have ho6 : Only [] W9 W6' := hg ▸ (Only.refl [] W9).alloc _
              obtain ⟨o, ho⟩ : ∃ o, W9.heap.size = o := ⟨_, rfl⟩
              rw [ho] at hB HHL ⊢
              have HB6 := Lib.hid hB; have HO6' := Lib.hid ho6
              have HOW : Hid (w.heap.size ≤ o) := by have := HO9.out.size; show _ ≤ _; omega
              have HRLT : Hid (w.heap.size < o) := by have := lt_of_block HRS.out; show _ < _; omega
              clear hg hB ho6 ho
              go_upto_region 36 with fail
              go_loopw [18] (fun v wr => ∃ i : Nat, i ≤ 32 ∧ v = .int .i64 i ∧ Blk wr o 25 (Sha.dz (Sha.dig D) i) ∧ Only [o] W6' wr) (fun v _ => (32 - intOf v).toNat)
              case atStart => exact ⟨0, by omega, rfl, HB6.out, Only.refl _ _⟩
              case round =>
                obtain ⟨i, hi, rfl, hbr, hor⟩ := hrel
                by_cases hlt : i < 32
                · have hfr := hbr.free i
                  obtain ⟨vv, hcl⟩ : ∃ vv, wr.cell? ⟨o, i, none⟩ = some vv := ⟨_, hbr.cell i (by rw [Sha.dz_length _ _ (Sha.dig_length D) hi]; exact hlt)⟩
                  have hxc := hor.cell (HO6'.out.cell (HCELL.out (i / 4) (by omega)) (by simp)) (by have := HHL.out; simp; omega)
                  have hsucc := Sha.dz_succ (Sha.dig D) i (Sha.dig_length D) hlt
                  rw [Sha.dig_get D i hlt] at hsucc
                  obtain ⟨S, hS⟩ : ∃ S, D.getD (i / 4) 0 = S := ⟨_, rfl⟩
                  rw [hS] at hxc hsucc
                  have hval := dig_val S
                  have HBR := Lib.hid hbr; have HOR := Lib.hid hor
                  have z1 : (0 : Int) ≤ (i : Int) := by omega
                  have z2 : (i : Int) < 32 := by omega
                  have hm : i % 4 = 0 ∨ i % 4 = 1 ∨ i % 4 = 2 ∨ i % 4 = 3 := by omega
                  clear hS hbr hor hi
                  rcases hm with hm | hm | hm | hm
                  · rw [hm] at hsucc
                    have hmi : (i : Int) % 4 = 0 := by omega
                    have hv := hval 16777216
                    have HV := Lib.hid hv; have HSU := Lib.hid hsucc
                    clear hval hv hsucc hm
                    go_upto_region 37 with fail
                    generalize hvv : Value.int IntKind.u8 _ = uv
                    have hue : uv = _ := (hvv.symm.trans (by first | rfl | (congr 1; omega))).trans HV.out
                    rw [hue]
                    clear hvv hue
                    have hs7 := HBR.out.set i (UInt8.ofNat (S / 16777216))
                    rw [HSU.out] at hs7
                    have ho7 := HOR.out.setCell (p := ⟨o, i, none⟩) (.inl (by simp)) (u8v (UInt8.ofNat (S / 16777216)))
                    generalize World.setCell _ _ _ = w7' at *
                    have HS7 := Lib.hid hs7; have HO7 := Lib.hid ho7
                    clear hs7 ho7 hxc hcl hfr
                    go_wp2_with fail
                    go_roundw
                    case rel => exact ⟨i + 1, by omega, by go_num, HS7.out, HO7.out⟩
                    case measure => simp [intOf]; omega
                  · rw [hm] at hsucc
                    have hmi : (i : Int) % 4 = 1 := by omega
                    have hv := hval 65536
                    have HV := Lib.hid hv; have HSU := Lib.hid hsucc
                    clear hval hv hsucc hm
                    go_upto_region 37 with fail
                    generalize hvv : Value.int IntKind.u8 _ = uv
                    have hue : uv = _ := (hvv.symm.trans (by first | rfl | (congr 1; omega))).trans HV.out
                    rw [hue]
                    clear hvv hue
                    have hs7 := HBR.out.set i (UInt8.ofNat (S / 65536))
                    rw [HSU.out] at hs7
                    have ho7 := HOR.out.setCell (p := ⟨o, i, none⟩) (.inl (by simp)) (u8v (UInt8.ofNat (S / 65536)))
                    generalize World.setCell _ _ _ = w7' at *
                    have HS7 := Lib.hid hs7; have HO7 := Lib.hid ho7
                    clear hs7 ho7 hxc hcl hfr
                    go_wp2_with fail
                    go_roundw
                    case rel => exact ⟨i + 1, by omega, by go_num, HS7.out, HO7.out⟩
                    case measure => simp [intOf]; omega
                  · rw [hm] at hsucc
                    have hmi : (i : Int) % 4 = 2 := by omega
                    have hv := hval 256
                    have HV := Lib.hid hv; have HSU := Lib.hid hsucc
                    clear hval hv hsucc hm
                    go_upto_region 37 with fail
                    generalize hvv : Value.int IntKind.u8 _ = uv
                    have hue : uv = _ := (hvv.symm.trans (by first | rfl | (congr 1; omega))).trans HV.out
                    rw [hue]
                    clear hvv hue
                    have hs7 := HBR.out.set i (UInt8.ofNat (S / 256))
                    rw [HSU.out] at hs7
                    have ho7 := HOR.out.setCell (p := ⟨o, i, none⟩) (.inl (by simp)) (u8v (UInt8.ofNat (S / 256)))
                    generalize World.setCell _ _ _ = w7' at *
                    have HS7 := Lib.hid hs7; have HO7 := Lib.hid ho7
                    clear hs7 ho7 hxc hcl hfr
                    go_wp2_with fail
                    go_roundw
                    case rel => exact ⟨i + 1, by omega, by go_num, HS7.out, HO7.out⟩
                    case measure => simp [intOf]; omega
                  · rw [hm] at hsucc
                    have hmi : (i : Int) % 4 = 3 := by omega
                    have hv := hval 1
                    have HV := Lib.hid hv; have HSU := Lib.hid hsucc
                    clear hval hv hsucc hm
                    go_upto_region 37 with fail
                    generalize hvv : Value.int IntKind.u8 _ = uv
                    have hue : uv = _ := (hvv.symm.trans (by first | rfl | (congr 1; omega))).trans HV.out
                    rw [hue]
                    clear hvv hue
                    have hs7 := HBR.out.set i (UInt8.ofNat (S / 1))
                    rw [HSU.out] at hs7
                    have ho7 := HOR.out.setCell (p := ⟨o, i, none⟩) (.inl (by simp)) (u8v (UInt8.ofNat (S / 1)))
                    generalize World.setCell _ _ _ = w7' at *
                    have HS7 := Lib.hid hs7; have HO7 := Lib.hid ho7
                    clear hs7 ho7 hxc hcl hfr
                    go_wp2_with fail
                    go_roundw
                    case rel => exact ⟨i + 1, by omega, by go_num, HS7.out, HO7.out⟩
                    case measure => simp [intOf]; omega
                · obtain rfl : i = 32 := by omega
                  rw [Sha.dz_all _ (Sha.dig_length D)] at hbr
                  obtain ⟨C2, hC2⟩ : ∃ C2, ((Sha.dig D).map u8v).toArray = C2 := ⟨_, rfl⟩
                  have hcs : C2.size = 32 := by rw [← hC2]; simp [Sha.dig_length]
                  have hci : (Tryd.prog.info? 25).map (·.size) = some C2.size := by rw [hcs]; kernel_rfl
                  have hc1 : C2.all (·.oneCell') = true := by rw [← hC2]; exact u8vs_one _
                  have hb7 : wr.heap[o]? = some (.cells C2 25 (0, 0)) := by rw [← hC2]; exact hbr
                  have hg2 := hor.heap (HO6'.out.heap HRS.out (by simp)) (by have := HRLT.out; simp; omega)
                  have hofin : Only [] w wr := only_own (HO9.out.then HO6'.out) hor HOW.out
                  have HB7 := Lib.hid hb7; have HG2 := Lib.hid hg2; have HCI2 := Lib.hid hci; have HC12 := Lib.hid hc1; have HOF := Lib.hid hofin; have HCC := Lib.hid hC2; have HCS2 := Lib.hid hcs
                  clear hbr hor hcs hci hc1 hb7 hg2 hofin hC2 hi hlt HRS HO9 HO6' HB6
                  go_wp2_with (first
                    | (refine wpList_load_row rfl 25 _ rfl o rfl _ C2 _ _ HB7.out Tryd.underlying25 rfl HCI2.out ?_)
                    | (refine wpList_store_row rfl 25 _ _ rfl w.heap.size C2 rfl rfl _ _ HG2.out HCI2.out (HZ.out.trans HCS2.out.symm) HC12.out ?_))
                  have hres : (wr.setRow w.heap.size C2).heap[w.heap.size]? = some (.cells C2 25 (0, 0)) := setRow_heap _ _ _ C2 _ _ HG2.out
                  have hof : Only [] w (wr.setRow w.heap.size C2) := HOF.out.setRow (.inr (Nat.le_refl _)) C2
                  generalize World.setRow _ _ _ = w8 at *
                  refine bodyPost_ret (v := .agg C2) (results_cell_row rfl _ _ w.heap.size 25 C2 (0, 0) _ rfl hres Tryd.underlying25 rfl HCI2.out) rfl ⟨by rw [HSUM.out, dv, HCC.out], hof⟩
end Go.Proofs.YtpgcfpfmicghnaaDoor.sha
