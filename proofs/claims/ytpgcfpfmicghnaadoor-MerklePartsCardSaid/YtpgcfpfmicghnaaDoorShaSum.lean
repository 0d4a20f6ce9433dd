/-
  THE WALK of Sum.
-/
import Derived.Test.YtpgcfpfmicghnaaDoorShaWrite
set_option linter.unusedVariables false
set_option linter.unusedSimpArgs false
namespace Go.Proofs.YtpgcfpfmicghnaaDoor.sha
open Go Go.RowKit Go.Lm

/-- How many noughts lack. -/
def lack (w : World) (x : Nat) : Nat :=
  match w.cell? ⟨x, 72, none⟩ with
  | some (.int _ n) => (120 - n.toNat) % 64
  | _ => 0
theorem HB.n {w : World} {b : Nat} {l : List UInt8} (h : HB w b l) : w.cell? ⟨b, 72, none⟩ = some (.int .i64 (l.length % 64 : Nat)) := by
  obtain ⟨K, h1, h2, h3⟩ := h
  exact h3.cell 72 _ (hcs_n _ K _ _ (Sha.W8.hsN l _).1 h1)
theorem HB.all {w : World} {b : Nat} {l : List UInt8} (h : HB w b l) : w.cell? ⟨b, 73, none⟩ = some (.int .u64 (l.length : Nat)) := by
  obtain ⟨K, h1, h2, h3⟩ := h
  exact h3.cell 73 _ (hcs_all _ K _ _ (Sha.W8.hsN l _).1 h1)
theorem HB.s {w : World} {b : Nat} {l : List UInt8} (h : HB w b l) (i : Nat) (hi : i < 8) : w.cell? ⟨b, i, none⟩ = some (.int .u32 ((Sha.hsN l (l.length / 64)).getD i 0 : Nat)) := by
  obtain ⟨K, h1, h2, h3⟩ := h
  have h8 := (Sha.W8.hsN l (l.length / 64)).1
  rw [h3.cell i _ (hcs_s _ K _ _ i (by omega)), u32v]
  simp [List.getD_eq_getElem?_getD, List.getElem?_eq_getElem (show i < (Sha.hsN l (l.length / 64)).length by omega)]
theorem lack_eq {w : World} {b : Nat} {l : List UInt8} (h : HB w b l) : lack w b = (120 - l.length % 64) % 64 := by
  unfold lack; rw [h.n]; simp; omega

/-- One byte, in a new block, is laid behind. -/
theorem write_one (x : Nat) (w2 : World) (L : List UInt8) (h : HB w2 x L) (hT : Tab w2) (hx0 : x ≠ 2) (u : UInt8) (hl : L.length ≤ 900000000) (fr : Nat × Nat) :
    Calls Tryd.prog 46 #[.pointer (some ⟨x, 0, none⟩), .slice (some ⟨w2.heap.size, 0, none⟩) 1 1] (w2.alloc (.cells #[u8v u] 5 fr)) fun e w' => e = .returned (.tuple #[]) ∧ HB w' x (L ++ [u]) ∧ Only [x] w2 w' := by
  have hal : Only [x] w2 (w2.alloc (.cells #[u8v u] 5 fr)) := (Only.refl _ _).alloc _
  have hal0 : Only [] w2 (w2.alloc (.cells #[u8v u] 5 fr)) := (Only.refl _ _).alloc _
  refine (write_c x _ L (h.only hal0 (by simp)) (hT.only hal0 (by simp)) hx0 _ [u] (BS.lit w2 #[u8v u] 5 fr 1 [u] rfl rfl (by simp [maxLen])) ?_ (by simp; omega)).mono ?_
  · intro c hc _
    simp [Value.ownBlock] at hc
    have := h.lt; omega
  · rintro e w' ⟨he, hb, ho⟩
    exact ⟨he, hb, hal.then ho⟩
theorem be8_val (len i d : Nat) (hi : i < 8) (hl : len ≤ 100000000) (hd : 2 ^ (56 - 8 * i) = d) : Value.int .u8 ((len : Int) * 8 / (d : Int) % 256) = u8v ((Sha.be8 (8 * len % 18446744073709551616))[i]'(by rw [Sha.be8_length]; exact hi)) := by
  rw [Sha.be8_get _ _ hi, hd, u8v]
  congr 1
  have e : 8 * len % 18446744073709551616 = len * 8 := by omega
  rw [e]
  simp
theorem dig_val (S d : Nat) : Value.int .u8 ((S : Int) / (d : Int) % 256) = u8v (UInt8.ofNat (S / d)) := by
  rw [u8v]; simp
theorem zero_hash : ∃ Z : Array Value, Z.size = 74 ∧ ∀ w, (zeroValue 88).run Tryd.prog w = .ok (.agg Z) w :=
  ⟨(hcs (List.replicate 8 0) (List.replicate 64 0) 0 0).toArray, by decide, fun w => by kernel_rfl⟩

set_option maxRecDepth 100000 in
set_option maxHeartbeats 4000000 in
theorem sum_c (b : Nat) (w : World) (l : List UInt8) (hb : HB w b l) (hT : Tab w) (hl : l.length ≤ 100000000) :
    Calls Tryd.prog 47 #[.pointer (some ⟨b, 0, none⟩)] w fun e w' => e = .returned (.agg ((Sha.sum l).map u8v).toArray) ∧ Only [] w w' := by
  have HT := Lib.hid hT; have HBb := Lib.hid hb
  have h0 : 0 < w.heap.size := by have := hb.lt; omega
  obtain ⟨K, hK, hKt, hr⟩ := hb
  obtain ⟨C, hC⟩ : ∃ C, C = (hcs (Sha.hsN l (l.length / 64)) K (l.length % 64) l.length).toArray := ⟨_, rfl⟩
  have hCs : C.size = 74 := by rw [hC, List.size_toArray]; exact hcs_length _ _ _ _ (Sha.W8.hsN l _).1 hK
  have hCi : (Tryd.prog.info? 88).map (·.size) = some C.size := by rw [hCs]; kernel_rfl
  have hC1 : C.all (·.oneCell') = true := by
    rw [hC, Array.all_eq_true_iff_forall_mem]
    intro x hx
    simp only [hcs, List.mem_toArray, List.mem_append, List.mem_map, List.mem_cons, List.not_mem_nil, or_false] at hx
    rcases hx with ⟨n, _, rfl⟩ | ⟨n, _, rfl⟩ | rfl | rfl <;> rfl
  have hr' : w.heap[b]? = some (.cells C 88 (0, 0)) := by rw [hC]; exact hr
  have hlt : b < w.heap.size := lt_of_block hr'
  have HK := Lib.hid hK; have HKT := Lib.hid hKt; have HC := Lib.hid hC; have HCS := Lib.hid hCs; have HCI := Lib.hid hCi; have HC1 := Lib.hid hC1; have HR := Lib.hid hr'; have HL := Lib.hid hl; have HLT := Lib.hid hlt; have HH0 := Lib.hid h0
  clear hT hK hKt hr hC hCs hCi hC1 hr' hl hlt h0
  go_enter Tryd.func47, Tryd.ntmps47
  go_upto_region 3 with fail
  generalize hg : World.alloc w _ = w1
  have hr1 : w1.heap[b]? = some (.cells C 88 (0, 0)) := by rw [← hg, Below.heap_alloc _ _ _ HLT.out]; exact HR.out
  have hres : ∃ z : Array Value, z.size = 32 ∧ w1.heap[w.heap.size]? = some (.cells z 25 (0, 0)) :=
    ⟨(List.replicate 32 (Value.int .u8 0)).toArray, by simp, by rw [← hg]; exact (heap_alloc_new w _).trans rfl⟩
  have ho1 : Only [] w w1 := hg ▸ (Only.refl [] w).alloc _
  have hs1 : w1.heap.size = w.heap.size + 1 := by rw [← hg]; simp
  have HR1 := Lib.hid hr1; have HRES := Lib.hid hres; have HO1 := Lib.hid ho1; have HS1 := Lib.hid hs1
  clear hg hr1 hres ho1 hs1
  obtain ⟨Z, hZ, hzv⟩ := zero_hash
  have HZ := Lib.hid hZ; clear hZ
  go_upto_region 4 with (first
    | (refine wpList_load_row rfl 88 _ rfl b rfl _ C _ _ HR1.out Tryd.underlying88 rfl HCI.out ?_)
    | (refine wpList_store_row rfl 88 _ _ rfl w1.heap.size C rfl rfl _ _ (heap_alloc_new w1 _) HCI.out (HZ.out.trans HCS.out.symm) HC1.out ?_))
  try simp only [Act.put]
  clear hzv
  have hx : ∀ z : Array Value, ((w1.alloc (.cells z 88)).setRow w1.heap.size C).heap[w1.heap.size]? = some (.cells C 88 (0, 0)) := fun z => setRow_heap _ _ z C _ _ (heap_alloc_new w1 _)
  have hox : ∀ z : Obj, Only [] w1 ((w1.alloc z).setRow w1.heap.size C) := fun z => ((Only.refl [] w1).alloc _).setRow (.inr (Nat.le_refl _)) C
  generalize hg : World.setRow _ _ _ = w2
  have hx2 := hg ▸ hx _
  have hox2 := hg ▸ hox _
  have hX : HB w2 w1.heap.size l := ⟨K, HK.out, HKT.out, by show _ = _; rw [← HC.out]; exact hx2⟩
  obtain ⟨x, hxx⟩ : ∃ x, w1.heap.size = x := ⟨_, rfl⟩
  rw [hxx] at hX
  have HX := Lib.hid hX
  have HO2 := Lib.hid (HO1.out.then hox2)
  obtain ⟨z, hz32, hzr⟩ := HRES.out
  have hxw : x = w.heap.size + 1 := by rw [← hxx]; exact HS1.out
  have HXW := Lib.hid hxw
  have HRS := Lib.hid (hox2.heap hzr (by simp))
  have HZ32 := Lib.hid hz32
  have HT2 : Hid (Tab w2) := HT.out.only HO2.out (by simp)
  have HG0 : Hid (2 < w.heap.size) := Lib.hid (World.block_lt_of_cell? w _ (HT.out 0 (by decide)))
  rw [hxx]
  clear hx hox hg hx2 hox2 hX hz32 hzr hxw hxx HR1 HRES HO1 HS1 HC HCS HCI HC1 HR HK HKT HZ HT
  have hx0 : x ≠ 2 := by have := HXW.out; have := HG0.out; omega
  go_wp2_with fail
  refine (write_one x w2 l HX.out HT2.out hx0 128 (by have := HL.out; omega) _).mono ?_
  rintro e w3 ⟨rfl, hb3, ho3⟩
  have HX3 := Lib.hid hb3
  have HO3 : Hid (Only [] w w3) := only_own HO2.out ho3 (by have := HXW.out; omega)
  have HRS3 := Lib.hid (ho3.heap HRS.out (by have := HXW.out; simp; omega))
  have HT3 : Hid (Tab w3) := HT2.out.only ho3 (by simpa using fun e => hx0 e.symm)
  clear hb3 ho3 HX HO2 HRS HT2
  go_upto_region 5 with fail
  go_loopw [] (fun wr => ∃ j : Nat, j ≤ Sha.zs l.length ∧ HB wr x (l ++ [128] ++ List.replicate j 0) ∧ Only [x] w3 wr) (fun wr => lack wr x)
  case atStart => exact ⟨0, by omega, by simpa using HX3.out, Only.refl _ _⟩
  case round =>
    obtain ⟨j, hj, hxr, hor⟩ := hrel
    by_cases hlt : j < Sha.zs l.length
    · have hn := hxr.n
      have hlk := lack_eq hxr
      have hlen : (l ++ [128] ++ List.replicate j 0).length = l.length + 1 + j := by simp; omega
      have hz := Sha.zs_go l.length j hlt
      rw [hlen] at hn hlk
      obtain ⟨q, hq⟩ : ∃ q, (l.length + 1 + j) % 64 = q := ⟨_, rfl⟩
      rw [hq] at hn hlk hz
      have hne : ((q : Int) == 56) = false := by rw [beq_eq_false_iff_ne]; omega
      have hne2 : ((q : Int) != 56) = true := by rw [bne_iff_ne]; omega
      have HXR := Lib.hid hxr; have HOR := Lib.hid hor; have HQ := Lib.hid hq; have HLK := Lib.hid hlk; have HLEN := Lib.hid hlen; have HZ := Lib.hid hz; have HJ := Lib.hid hlt
      clear hxr hor hq hlk hlen hz hlt hj
      go_wp2_with fail
      refine (write_one x wr _ HXR.out (HT3.out.only HOR.out (by simpa using fun e => hx0 e.symm)) hx0 0 (by have := HLEN.out; have := HL.out; have := Sha.zs_lt l.length; have := HJ.out; omega) _).mono ?_
      rintro e w4 ⟨rfl, hb4, ho4⟩
      have HX4 := Lib.hid hb4; have HO4 := Lib.hid (HOR.out.then ho4)
      clear hb4 ho4 hn
      go_wp2_with fail
      go_roundw
      case rel => exact ⟨j + 1, by have := HJ.out; omega, by have := HX4.out; rwa [List.append_assoc, ← List.replicate_succ'] at this, HO4.out⟩
      case measure =>
        rw [HLK.out, lack_eq HX4.out]
        have h1 := HLEN.out; have h2 := HQ.out; have h3 := HZ.out
        rw [List.length_append, h1]
        simp
        omega
    · have hj' : j = Sha.zs l.length := by omega
      subst hj'
      obtain ⟨W4, hW4⟩ : ∃ W4, W4 = wr := ⟨_, rfl⟩
      subst hW4
      have hn := hxr.n
      have hlen : (l ++ [128] ++ List.replicate (Sha.zs l.length) 0).length = l.length + 1 + Sha.zs l.length := by simp; omega
      have hz := Sha.zs_end l.length
      rw [hlen, hz] at hn
      obtain ⟨P, hP⟩ : ∃ P, P = l ++ [128] ++ List.replicate (Sha.zs l.length) 0 := ⟨_, rfl⟩
      rw [← hP] at hxr hlen
      have HXR := Lib.hid hxr; have HOR := Lib.hid hor; have HP := Lib.hid hP
      have HO4 : Hid (Only [] w W4) := only_own HO3.out hor (by have := HXW.out; omega)
      have HRS4 := Lib.hid (hor.heap HRS3.out (by have := HXW.out; simp; omega))
      have HT4 : Hid (Tab W4) := HT3.out.only hor (by simpa using fun e => hx0 e.symm)
      have HPL : Hid (P.length ≤ 200000000) := by have h1 := hlen; have h2 := HL.out; have h3 := Sha.zs_lt l.length; show _ ≤ _; omega
      clear hxr hor hP hlen hz hlt hj HRS3 HT3 HO3
      go_upto_region 8 with fail
      clear hn
      go_loopw [4] (fun v wr => ∃ i : Nat, i ≤ 8 ∧ v = .int .i64 (56 - 8 * (i : Int)) ∧ HB wr x (P ++ (Sha.be8 (8 * l.length % 18446744073709551616)).take i) ∧ Only [x] W4 wr) (fun v _ => (intOf v + 8).toNat)
      case atStart => exact ⟨0, by omega, rfl, by simpa using HXR.out, Only.refl _ _⟩
      case round =>
        obtain ⟨i, hi, rfl, hxr, hor⟩ := hrel
        have hall := ((HBb.out.only HO4.out (by simp)).only hor (by have := HXW.out; have := HLT.out; simp; omega)).all
        have HXR' := Lib.hid hxr; have HOR' := Lib.hid hor
        clear hxr hor
        by_cases hlt : i < 8
        · have hll := HL.out
          have hstep : Hid (HB wr x (P ++ (Sha.be8 (8 * l.length % 18446744073709551616)).take i)) := HXR'.out
          obtain ⟨s, hs⟩ : ∃ s : Int, 56 - 8 * (i : Int) = s := ⟨_, rfl⟩
          rw [hs]
          have hnx : s - 8 = 56 - 8 * ((i + 1 : Nat) : Int) := by omega
          have HNX := Lib.hid hnx
          have HMS : Hid (0 ≤ s) := by show _ ≤ _; omega
          have hcases : i = 0 ∨ i = 1 ∨ i = 2 ∨ i = 3 ∨ i = 4 ∨ i = 5 ∨ i = 6 ∨ i = 7 := by omega
          have hval := be8_val l.length i
          obtain ⟨len, hlen⟩ : ∃ len, l.length = len := ⟨_, rfl⟩
          rw [hlen] at hall hll hval hstep
          have HHLEN := Lib.hid hlen
          clear hnx hlen
          rcases hcases with rfl | rfl | rfl | rfl | rfl | rfl | rfl | rfl
          · obtain rfl : s = 56 := by omega
            have hv := hval 72057594037927936 (by omega) hll rfl
            have HV := Lib.hid hv
            clear hval hv hs
            go_wp2_with fail
            generalize hvv : Value.int IntKind.u8 _ = uv
            have huv := HV.out
            have hue : uv = _ := (hvv.symm.trans (by congr 1; omega)).trans huv
            rw [hue]
            clear hvv huv hue
            refine (write_one x wr _ hstep.out (HT4.out.only HOR'.out (by simpa using fun e => hx0 e.symm)) hx0 _ (by have := HPL.out; simp [Sha.be8_length]; omega) _).mono ?_
            rintro e w5 ⟨rfl, hb5, ho5⟩
            have HX5 := Lib.hid hb5; have HO5 := Lib.hid (HOR'.out.then ho5)
            clear hb5 ho5 hall hll
            go_wp2_with fail
            go_roundw
            case rel => exact ⟨1, by omega, by have := HNX.out; go_num, by rw [HHLEN.out, List.take_succ_eq_append_getElem (by rw [Sha.be8_length]; omega), ← List.append_assoc]; exact HX5.out, HO5.out⟩
            case measure => simp [intOf]
          · obtain rfl : s = 48 := by omega
            have hv := hval 281474976710656 (by omega) hll rfl
            have HV := Lib.hid hv
            clear hval hv hs
            go_wp2_with fail
            generalize hvv : Value.int IntKind.u8 _ = uv
            have huv := HV.out
            have hue : uv = _ := (hvv.symm.trans (by congr 1; omega)).trans huv
            rw [hue]
            clear hvv huv hue
            refine (write_one x wr _ hstep.out (HT4.out.only HOR'.out (by simpa using fun e => hx0 e.symm)) hx0 _ (by have := HPL.out; simp [Sha.be8_length]; omega) _).mono ?_
            rintro e w5 ⟨rfl, hb5, ho5⟩
            have HX5 := Lib.hid hb5; have HO5 := Lib.hid (HOR'.out.then ho5)
            clear hb5 ho5 hall hll
            go_wp2_with fail
            go_roundw
            case rel => exact ⟨2, by omega, by have := HNX.out; go_num, by rw [HHLEN.out, List.take_succ_eq_append_getElem (by rw [Sha.be8_length]; omega), ← List.append_assoc]; exact HX5.out, HO5.out⟩
            case measure => simp [intOf]
          · obtain rfl : s = 40 := by omega
            have hv := hval 1099511627776 (by omega) hll rfl
            have HV := Lib.hid hv
            clear hval hv hs
            go_wp2_with fail
            generalize hvv : Value.int IntKind.u8 _ = uv
            have huv := HV.out
            have hue : uv = _ := (hvv.symm.trans (by congr 1; omega)).trans huv
            rw [hue]
            clear hvv huv hue
            refine (write_one x wr _ hstep.out (HT4.out.only HOR'.out (by simpa using fun e => hx0 e.symm)) hx0 _ (by have := HPL.out; simp [Sha.be8_length]; omega) _).mono ?_
            rintro e w5 ⟨rfl, hb5, ho5⟩
            have HX5 := Lib.hid hb5; have HO5 := Lib.hid (HOR'.out.then ho5)
            clear hb5 ho5 hall hll
            go_wp2_with fail
            go_roundw
            case rel => exact ⟨3, by omega, by have := HNX.out; go_num, by rw [HHLEN.out, List.take_succ_eq_append_getElem (by rw [Sha.be8_length]; omega), ← List.append_assoc]; exact HX5.out, HO5.out⟩
            case measure => simp [intOf]
          · obtain rfl : s = 32 := by omega
            have hv := hval 4294967296 (by omega) hll rfl
            have HV := Lib.hid hv
            clear hval hv hs
            go_wp2_with fail
            generalize hvv : Value.int IntKind.u8 _ = uv
            have huv := HV.out
            have hue : uv = _ := (hvv.symm.trans (by congr 1; omega)).trans huv
            rw [hue]
            clear hvv huv hue
            refine (write_one x wr _ hstep.out (HT4.out.only HOR'.out (by simpa using fun e => hx0 e.symm)) hx0 _ (by have := HPL.out; simp [Sha.be8_length]; omega) _).mono ?_
            rintro e w5 ⟨rfl, hb5, ho5⟩
            have HX5 := Lib.hid hb5; have HO5 := Lib.hid (HOR'.out.then ho5)
            clear hb5 ho5 hall hll
            go_wp2_with fail
            go_roundw
            case rel => exact ⟨4, by omega, by have := HNX.out; go_num, by rw [HHLEN.out, List.take_succ_eq_append_getElem (by rw [Sha.be8_length]; omega), ← List.append_assoc]; exact HX5.out, HO5.out⟩
            case measure => simp [intOf]
          · obtain rfl : s = 24 := by omega
            have hv := hval 16777216 (by omega) hll rfl
            have HV := Lib.hid hv
            clear hval hv hs
            go_wp2_with fail
            generalize hvv : Value.int IntKind.u8 _ = uv
            have huv := HV.out
            have hue : uv = _ := (hvv.symm.trans (by congr 1; omega)).trans huv
            rw [hue]
            clear hvv huv hue
            refine (write_one x wr _ hstep.out (HT4.out.only HOR'.out (by simpa using fun e => hx0 e.symm)) hx0 _ (by have := HPL.out; simp [Sha.be8_length]; omega) _).mono ?_
            rintro e w5 ⟨rfl, hb5, ho5⟩
            have HX5 := Lib.hid hb5; have HO5 := Lib.hid (HOR'.out.then ho5)
            clear hb5 ho5 hall hll
            go_wp2_with fail
            go_roundw
            case rel => exact ⟨5, by omega, by have := HNX.out; go_num, by rw [HHLEN.out, List.take_succ_eq_append_getElem (by rw [Sha.be8_length]; omega), ← List.append_assoc]; exact HX5.out, HO5.out⟩
            case measure => simp [intOf]
          · obtain rfl : s = 16 := by omega
            have hv := hval 65536 (by omega) hll rfl
            have HV := Lib.hid hv
            clear hval hv hs
            go_wp2_with fail
            generalize hvv : Value.int IntKind.u8 _ = uv
            have huv := HV.out
            have hue : uv = _ := (hvv.symm.trans (by congr 1; omega)).trans huv
            rw [hue]
            clear hvv huv hue
            refine (write_one x wr _ hstep.out (HT4.out.only HOR'.out (by simpa using fun e => hx0 e.symm)) hx0 _ (by have := HPL.out; simp [Sha.be8_length]; omega) _).mono ?_
            rintro e w5 ⟨rfl, hb5, ho5⟩
            have HX5 := Lib.hid hb5; have HO5 := Lib.hid (HOR'.out.then ho5)
            clear hb5 ho5 hall hll
            go_wp2_with fail
            go_roundw
            case rel => exact ⟨6, by omega, by have := HNX.out; go_num, by rw [HHLEN.out, List.take_succ_eq_append_getElem (by rw [Sha.be8_length]; omega), ← List.append_assoc]; exact HX5.out, HO5.out⟩
            case measure => simp [intOf]
          · obtain rfl : s = 8 := by omega
            have hv := hval 256 (by omega) hll rfl
            have HV := Lib.hid hv
            clear hval hv hs
            go_wp2_with fail
            generalize hvv : Value.int IntKind.u8 _ = uv
            have huv := HV.out
            have hue : uv = _ := (hvv.symm.trans (by congr 1; omega)).trans huv
            rw [hue]
            clear hvv huv hue
            refine (write_one x wr _ hstep.out (HT4.out.only HOR'.out (by simpa using fun e => hx0 e.symm)) hx0 _ (by have := HPL.out; simp [Sha.be8_length]; omega) _).mono ?_
            rintro e w5 ⟨rfl, hb5, ho5⟩
            have HX5 := Lib.hid hb5; have HO5 := Lib.hid (HOR'.out.then ho5)
            clear hb5 ho5 hall hll
            go_wp2_with fail
            go_roundw
            case rel => exact ⟨7, by omega, by have := HNX.out; go_num, by rw [HHLEN.out, List.take_succ_eq_append_getElem (by rw [Sha.be8_length]; omega), ← List.append_assoc]; exact HX5.out, HO5.out⟩
            case measure => simp [intOf]
          · obtain rfl : s = 0 := by omega
            have hv := hval 1 (by omega) hll rfl
            have HV := Lib.hid hv
            clear hval hv hs
            go_wp2_with fail
            generalize hvv : Value.int IntKind.u8 _ = uv
            have huv := HV.out
            have hue : uv = _ := (hvv.symm.trans (by congr 1; omega)).trans huv
            rw [hue]
            clear hvv huv hue
            refine (write_one x wr _ hstep.out (HT4.out.only HOR'.out (by simpa using fun e => hx0 e.symm)) hx0 _ (by have := HPL.out; simp [Sha.be8_length]; omega) _).mono ?_
            rintro e w5 ⟨rfl, hb5, ho5⟩
            have HX5 := Lib.hid hb5; have HO5 := Lib.hid (HOR'.out.then ho5)
            clear hb5 ho5 hall hll
            go_wp2_with fail
            go_roundw
            case rel => exact ⟨8, by omega, by have := HNX.out; go_num, by rw [HHLEN.out, List.take_succ_eq_append_getElem (by rw [Sha.be8_length]; omega), ← List.append_assoc]; exact HX5.out, HO5.out⟩
            case measure => simp [intOf]
        · obtain rfl : i = 8 := by omega
          have hpad : HB wr x (Sha.pad l) := by
            have := HXR'.out
            rw [List.take_of_length_le (by rw [Sha.be8_length]; omega), HP.out] at this
            exact this
          have ho5 : Only [] w wr := only_own HO4.out HOR'.out (by have := HXW.out; omega)
          have hrs5 := HOR'.out.heap HRS4.out (by have := HXW.out; simp; omega)
          have hT5 : Tab wr := HT4.out.only HOR'.out (by simpa using fun e => hx0 e.symm)
          obtain ⟨W5, hW5⟩ : ∃ W5, W5 = wr := ⟨_, rfl⟩
          subst hW5
          obtain ⟨D, hD⟩ : ∃ D, Sha.hsN (Sha.pad l) ((Sha.pad l).length / 64) = D := ⟨_, rfl⟩
          have hsum : Sha.sum l = Sha.dig D := by rw [← hD]; rfl
          have hcell : ∀ i, i < 8 → W5.cell? ⟨x, i, none⟩ = some (.int .u32 (D.getD i 0 : Nat)) := fun i hi => by rw [← hD]; exact hpad.s i hi
          have hxlt := hpad.lt
          have HSUM := Lib.hid hsum; have HCELL := Lib.hid hcell; have HO5 := Lib.hid ho5; have HRS5 := Lib.hid hrs5; have HXLT := Lib.hid hxlt
          clear hpad ho5 hrs5 hT5 hD hsum hcell hall HXR' HOR' hlt hi HXR HOR HP HO4 HRS4 HT4 HPL hxlt
          go_upto_region 12 with fail
          generalize hg : World.alloc W5 _ = W6
          have hout : Blk W6 W5.heap.size 5 (Sha.dz (Sha.dig D) 0) ∨ W6.heap[W5.heap.size]? = some (.cells ((Sha.dz (Sha.dig D) 0).map u8v).toArray 25 (0, 0)) := by
            right; rw [Sha.dz_zero, ← hg]; exact (heap_alloc_new W5 _).trans rfl
          have ho6 : Only [] W5 W6 := hg ▸ (Only.refl [] W5).alloc _
          have hB : Blk W6 W5.heap.size 25 (Sha.dz (Sha.dig D) 0) := by rw [Sha.dz_zero]; unfold Blk; rw [← hg]; exact (heap_alloc_new W5 _).trans rfl
          have HB6 := Lib.hid hB; have HO6 := Lib.hid ho6
          obtain ⟨o, ho⟩ : ∃ o, W5.heap.size = o := ⟨_, rfl⟩
          rw [ho] at HB6 HXLT ⊢
          have HOW : Hid (w.heap.size ≤ o) := by have := HO5.out.size; show _ ≤ _; omega
          have HRLT : Hid (w.heap.size < o) := by have := lt_of_block HRS5.out; show _ < _; omega
          clear hg hout ho6 hB ho
          go_upto_region 13 with fail
          go_loopw [34] (fun v wr => ∃ i : Nat, i ≤ 32 ∧ v = .int .i64 i ∧ Blk wr o 25 (Sha.dz (Sha.dig D) i) ∧ Only [o] W6 wr) (fun v _ => (32 - intOf v).toNat)
          case atStart => exact ⟨0, by omega, rfl, HB6.out, Only.refl _ _⟩
          case round =>
            obtain ⟨i, hi, rfl, hbr, hor⟩ := hrel
            by_cases hlt : i < 32
            · have hfr := hbr.free i
              obtain ⟨vv, hcl⟩ : ∃ vv, wr.cell? ⟨o, i, none⟩ = some vv := ⟨_, hbr.cell i (by rw [Sha.dz_length _ _ (Sha.dig_length D) hi]; exact hlt)⟩
              have hxc := hor.cell (HO6.out.cell (HCELL.out (i / 4) (by omega)) (by simp)) (by have := HXLT.out; simp; omega)
              have hsucc := Sha.dz_succ (Sha.dig D) i (Sha.dig_length D) hlt
              rw [Sha.dig_get D i hlt] at hsucc
              obtain ⟨S, hS⟩ : ∃ S, D.getD (i / 4) 0 = S := ⟨_, rfl⟩
              rw [hS] at hxc hsucc
              have hval := dig_val S
              have HBR := Lib.hid hbr; have HOR := Lib.hid hor
              have z1 : (0 : Int) ≤ (i : Int) := by omega
              have z2 : (i : Int) < 32 := by omega
              have hm : i % 4 = 0 ∨ i % 4 = 1 ∨ i % 4 = 2 ∨ i % 4 = 3 := by omega
              clear hS hbr hor hi
              rcases hm with hm | hm | hm | hm
              · rw [hm] at hsucc
                have hmi : (i : Int) % 4 = 0 := by omega
                have hv := hval 16777216
                have HV := Lib.hid hv; have HSU := Lib.hid hsucc
                clear hval hv hsucc hm
                go_upto_region 16 with fail
                generalize hvv : Value.int IntKind.u8 _ = uv
                have hue : uv = _ := (hvv.symm.trans (by first | rfl | (congr 1; omega))).trans HV.out
                rw [hue]
                clear hvv hue
                have hs7 := HBR.out.set i (UInt8.ofNat (S / 16777216))
                rw [HSU.out] at hs7
                have ho7 := HOR.out.setCell (p := ⟨o, i, none⟩) (.inl (by simp)) (u8v (UInt8.ofNat (S / 16777216)))
                generalize World.setCell _ _ _ = w7 at *
                have HS7 := Lib.hid hs7; have HO7 := Lib.hid ho7
                clear hs7 ho7 hxc hcl hfr
                go_wp2_with fail
                go_roundw
                case rel => exact ⟨i + 1, by omega, by go_num, HS7.out, HO7.out⟩
                case measure => simp [intOf]; omega
              · rw [hm] at hsucc
                have hmi : (i : Int) % 4 = 1 := by omega
                have hv := hval 65536
                have HV := Lib.hid hv; have HSU := Lib.hid hsucc
                clear hval hv hsucc hm
                go_upto_region 16 with fail
                generalize hvv : Value.int IntKind.u8 _ = uv
                have hue : uv = _ := (hvv.symm.trans (by first | rfl | (congr 1; omega))).trans HV.out
                rw [hue]
                clear hvv hue
                have hs7 := HBR.out.set i (UInt8.ofNat (S / 65536))
                rw [HSU.out] at hs7
                have ho7 := HOR.out.setCell (p := ⟨o, i, none⟩) (.inl (by simp)) (u8v (UInt8.ofNat (S / 65536)))
                generalize World.setCell _ _ _ = w7 at *
                have HS7 := Lib.hid hs7; have HO7 := Lib.hid ho7
                clear hs7 ho7 hxc hcl hfr
                go_wp2_with fail
                go_roundw
                case rel => exact ⟨i + 1, by omega, by go_num, HS7.out, HO7.out⟩
                case measure => simp [intOf]; omega
              · rw [hm] at hsucc
                have hmi : (i : Int) % 4 = 2 := by omega
                have hv := hval 256
                have HV := Lib.hid hv; have HSU := Lib.hid hsucc
                clear hval hv hsucc hm
                go_upto_region 16 with fail
                generalize hvv : Value.int IntKind.u8 _ = uv
                have hue : uv = _ := (hvv.symm.trans (by first | rfl | (congr 1; omega))).trans HV.out
                rw [hue]
                clear hvv hue
                have hs7 := HBR.out.set i (UInt8.ofNat (S / 256))
                rw [HSU.out] at hs7
                have ho7 := HOR.out.setCell (p := ⟨o, i, none⟩) (.inl (by simp)) (u8v (UInt8.ofNat (S / 256)))
                generalize World.setCell _ _ _ = w7 at *
                have HS7 := Lib.hid hs7; have HO7 := Lib.hid ho7
                clear hs7 ho7 hxc hcl hfr
                go_wp2_with fail
                go_roundw
                case rel => exact ⟨i + 1, by omega, by go_num, HS7.out, HO7.out⟩
                case measure => simp [intOf]; omega
              · rw [hm] at hsucc
                have hmi : (i : Int) % 4 = 3 := by omega
                have hv := hval 1
                have HV := Lib.hid hv; have HSU := Lib.hid hsucc
                clear hval hv hsucc hm
                go_upto_region 16 with fail
                generalize hvv : Value.int IntKind.u8 _ = uv
                have hue : uv = _ := (hvv.symm.trans (by first | rfl | (congr 1; omega))).trans HV.out
                rw [hue]
                clear hvv hue
                have hs7 := HBR.out.set i (UInt8.ofNat (S / 1))
                rw [HSU.out] at hs7
                have ho7 := HOR.out.setCell (p := ⟨o, i, none⟩) (.inl (by simp)) (u8v (UInt8.ofNat (S / 1)))
                generalize World.setCell _ _ _ = w7 at *
                have HS7 := Lib.hid hs7; have HO7 := Lib.hid ho7
                clear hs7 ho7 hxc hcl hfr
                go_wp2_with fail
                go_roundw
                case rel => exact ⟨i + 1, by omega, by go_num, HS7.out, HO7.out⟩
                case measure => simp [intOf]; omega
            · obtain rfl : i = 32 := by omega
              rw [Sha.dz_all _ (Sha.dig_length D)] at hbr
              obtain ⟨C2, hC2⟩ : ∃ C2, ((Sha.dig D).map u8v).toArray = C2 := ⟨_, rfl⟩
              have hcs : C2.size = 32 := by rw [← hC2]; simp [Sha.dig_length]
              have hci : (Tryd.prog.info? 25).map (·.size) = some C2.size := by rw [hcs]; kernel_rfl
              have hc1 : C2.all (·.oneCell') = true := by
                rw [← hC2, Array.all_eq_true_iff_forall_mem]
                intro y hy
                simp only [List.mem_toArray, List.mem_map] at hy
                obtain ⟨n, _, rfl⟩ := hy
                rfl
              have hb7 : wr.heap[o]? = some (.cells C2 25 (0, 0)) := by rw [← hC2]; exact hbr
              have hg2 := hor.heap (HO6.out.heap HRS5.out (by simp)) (by have := HRLT.out; simp; omega)
              have hofin : Only [] w wr := only_own (HO5.out.then HO6.out) hor HOW.out
              have HB7 := Lib.hid hb7; have HG2 := Lib.hid hg2; have HCI2 := Lib.hid hci; have HC12 := Lib.hid hc1; have HOF := Lib.hid hofin; have HCC := Lib.hid hC2; have HCS2 := Lib.hid hcs
              clear hbr hor hcs hci hc1 hb7 hg2 hofin hC2 hi hlt HRS5 HO5 HO6 HB6
              go_wp2_with (first
                | (refine wpList_load_row rfl 25 _ rfl o rfl _ C2 _ _ HB7.out Tryd.underlying25 rfl HCI2.out ?_)
                | (refine wpList_store_row rfl 25 _ _ rfl w.heap.size C2 rfl rfl _ _ HG2.out HCI2.out (HZ32.out.trans HCS2.out.symm) HC12.out ?_))
              have hres : (wr.setRow w.heap.size C2).heap[w.heap.size]? = some (.cells C2 25 (0, 0)) := setRow_heap _ _ _ C2 _ _ HG2.out
              have hof : Only [] w (wr.setRow w.heap.size C2) := HOF.out.setRow (.inr (Nat.le_refl _)) C2
              generalize World.setRow _ _ _ = w8 at *
              refine bodyPost_ret (v := .agg C2) (results_cell_row rfl _ _ w.heap.size 25 C2 (0, 0) _ rfl hres Tryd.underlying25 rfl HCI2.out) rfl ⟨by rw [HSUM.out, HCC.out], hof⟩
end Go.Proofs.YtpgcfpfmicghnaaDoor.sha
