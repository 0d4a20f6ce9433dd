/-
  THE WALK of package huff: Encode4.
-/
import Derived.Test.YtfckokdgmbbheaaHufFourD
import Derived.Test.YtfckokdgmbbheaaGen7
import Derived.Deep.DeepCutAuto
set_option linter.unusedVariables false
set_option linter.unusedSimpArgs false
set_option maxRecDepth 20000
namespace Go.Proofs.Ytfckokdgmbbheaa.huf
open Go Go.RowKit Go.Lm Go.Proofs.Ytfckokdgmbbheaa.bit Go.Proofs.Ytfckokdgmbbheaa.cur

theorem cnewwriter_e (w : World) : Calls Try.prog 23 #[] w fun e w' => e = .returned (.pointer (some ⟨w.heap.size, 0, none⟩)) ∧ WR w' w.heap.size w.heap.size [] ∧ wown w' w.heap.size = [] ∧ Only [] w w' := by
  go_enter Try.func23, Try.ntmps23
  go_wp2
  go_ret
  exact ⟨rfl, ⟨Nat.le_refl _, _, heap_alloc_new w _, OV.nil _ _ _⟩, by rw [wown_one (heap_alloc_new w _)]; rfl, (Only.refl _ _).alloc _⟩
theorem WR.keep {S : List Nat} {w w' : World} {B r : Nat} {l : List UInt8} (h : WR w B r l) (ho : Only S w w') (h1 : r ∉ S) (h2 : ∀ c ∈ wown w r, c ∉ S) : WR w' B r l ∧ wown w' r = wown w r := by
  obtain ⟨k1, v, k2, k3⟩ := h
  have k2' := ho.heap k2 h1
  rw [wown_one k2] at h2
  exact ⟨⟨k1, v, k2', k3.only ho fun c hc => h2 c (by simp [hc])⟩, by rw [wown_one k2, wown_one k2']⟩
theorem WR.own_lt {w : World} {B r : Nat} {l : List UInt8} (h : WR w B r l) : ∀ c ∈ wown w r, B ≤ c ∧ c < w.heap.size := by
  obtain ⟨k1, v, k2, k3⟩ := h
  rw [wown_one k2]
  intro c hc
  exact k3.lt (by simpa using hc)

set_option maxRecDepth 100000 in
set_option maxHeartbeats 8000000 in
theorem hencode4_c (w : World) (v u : Value) (l q : List UInt8) (hv : BS w v l) (hl : l.length ≤ 1000) (hu : BS w u q) (hq : q.length ≤ 1000) : Calls Try.prog 12 #[v, u] w fun e w' =>
    ∃ v', e = .returned (.tuple #[v', .int .i64 (henc4 l q).2]) ∧ OV w' w.heap.size 5 v' ((henc4 l q).1.map u8v) ∧ Only [] w w' := by
  by_cases h0 : Huf.dep (Huf.ns l) = 0
  · have hS : henc4 l q = ([], 1) := by unfold henc4; rw [if_pos h0]
    rw [hS]
    have HT := Lib.hid (codes_no w v l hv hl h0)
    obtain ⟨a, cap, rfl, -, -, -, -⟩ := hv
    obtain ⟨a2, cap2, rfl, -, -, -, -⟩ := hu
    clear h0 hS
    go_enter Try.func12, Try.ntmps12
    go_wp2_with fail
    refine HT.out.mono ?_
    rintro e w2 ⟨rfl, rfl⟩
    go_wp2_with fail
    go_ret2
    exact ⟨_, rfl, OV.nil _ _ _, Only.refl _ _⟩
  obtain ⟨d, hd⟩ : ∃ d, Huf.dep (Huf.ns l) = d := ⟨_, rfl⟩
  have hg := Huf.dep_some hd (by omega)
  have hT := codes_yes w v l hv hl d hd (by omega)
  have hLl : (Huf.ns l).length = l.length := by rw [Huf.ns_length]
  obtain ⟨S, hS⟩ : ∃ S, henc4 l q = S := ⟨_, rfl⟩
  rw [hS]
  unfold henc4 at hS
  rw [if_neg h0, hd] at hS
  obtain ⟨L, hL⟩ : ∃ L, Huf.ns l = L := ⟨_, rfl⟩
  simp only [hL] at hS hg hT hLl
  have HU := Lib.hid hu
  obtain ⟨a, cap, rfl, -, -, -, -⟩ := hv
  obtain ⟨N, hN⟩ : ∃ N, l.length = N := ⟨_, rfl⟩
  rw [hN] at hT hLl ⊢
  obtain ⟨a2, cap2, rfl, k1, k2, -, -⟩ := hu
  unfold maxLen at k2
  obtain ⟨n, hn⟩ : ∃ n, q.length = n := ⟨_, rfl⟩
  rw [hn] at hS hq k1 HU ⊢
  have hcn := fun i (h : 3 * qk q.length ≤ q.length) (hi : i < 4) => cut_next h hi
  have hpl := fun i (h : 3 * qk q.length ≤ q.length) (hi : i < 4) => prt_length h hi
  simp only [hn] at hcn hpl
  have hpn : pnA n = #[.int .i64 (qk n : Nat), .int .i64 (qk n : Nat), .int .i64 (qk n : Nat), .int .i64 ((n : Int) - 3 * (qk n : Int))] := rfl
  have hpg := pnA_get n
  have hpc := fun w => parts_c w n (by omega)
  have hkn : qk n ≤ 1000 := by unfold qk; omega
  have hbl := bd4_length L d hg.eleven q
  have hel := e4_length L d hg.eleven q
  rw [hn] at hbl
  simp only [hpn] at hpg hpc
  obtain ⟨k, hk⟩ : ∃ k, qk n = k := ⟨_, rfl⟩
  simp only [hk] at hS hpc hpg hkn hcn hpl hbl
  have HS := Lib.hid hS; have HG := Lib.hid hg; have HLL := Lib.hid hLl; have HPC := Lib.hid hpc; have HPG := Lib.hid hpg; have HCN := Lib.hid hcn; have HPL := Lib.hid hpl; have HT := Lib.hid hT; have HQL := Lib.hid hn; have HBL := Lib.hid hbl; have HEL := Lib.hid hel
  have HK := Lib.hid hk
  clear h0 hd hL hS hg hLl hN hl hpc hpg hcn hpl hT hn hpn hk hbl hel
  obtain ⟨H, hH⟩ : ∃ H, w.heap.size = H := ⟨_, rfl⟩
  rw [hH]
  have HH := Lib.hid hH
  clear hH
  go_enter Try.func12, Try.ntmps12
  go_wp2_with fail
  refine HT.out.mono ?_
  rintro e w1 ⟨g, rfl, hpb, hF, ho⟩
  have HPB := Lib.hid hpb; have HO := Lib.hid ho
  clear hpb ho HT
  --@1
  go_wp2_with fail
  refine (HPC.out w1).mono ?_
  rintro e w2 ⟨rfl, ho2⟩
  have HO2 := Lib.hid (HO.out.then ho2); have HPB2 := Lib.hid (HPB.out.only ho2 (by simp))
  clear ho2 HO HPB
  by_cases hmay : 3 * k ≤ n
  · rw [decide_eq_true hmay]
    --@2
    go_wp2_with fail
    --@3
    have hO3 : Only [] w (w2.alloc (.cells #[.int .i64 (k : Nat), .int .i64 (k : Nat), .int .i64 (k : Nat), .int .i64 ((n : Int) - 3 * (k : Int))] 45)) := HO2.out.alloc _
    have hb3 := heap_alloc_new w2 (.cells #[.int .i64 (k : Nat), .int .i64 (k : Nat), .int .i64 (k : Nat), .int .i64 ((n : Int) - 3 * (k : Int))] 45)
    have hpb3 := HPB2.out.only ((Only.refl [] w2).alloc (.cells #[.int .i64 (k : Nat), .int .i64 (k : Nat), .int .i64 (k : Nat), .int .i64 ((n : Int) - 3 * (k : Int))] 45)) (by simp)
    refine (cnewwriter_e _).mono ?_
    rintro e w4 ⟨rfl, hwr, hown, ho4⟩
    have hb4 := ho4.heap hb3 (by simp)
    have hpb4 := hpb3.only ho4 (by simp)
    have hO4 := hO3.then ho4
    obtain ⟨r, hr⟩ : ∃ r, (w2.alloc (.cells #[.int .i64 (k : Nat), .int .i64 (k : Nat), .int .i64 (k : Nat), .int .i64 ((n : Int) - 3 * (k : Int))] 45)).heap.size = r := ⟨_, rfl⟩
    have hr2 : w2.heap.size + 1 = r := by rw [← hr, World.size_alloc]
    rw [hr] at hwr hown
    simp only [hr2, hr]
    have hgr : g < r := by have := HPB2.out.lt; omega
    have hHr : H < r := by have := HO2.out.size; have := HH.out; omega
    have c0 := cell_of_row _ _ 0 _ _ _ hb4
    have c1 := cell_of_row _ _ 1 _ _ _ hb4
    have c2 := cell_of_row _ _ 2 _ _ _ hb4
    have c3 := cell_of_row _ _ 3 _ _ _ hb4
    simp only [List.getElem?_toArray, List.getElem?_cons_zero, List.getElem?_cons_succ] at c0 c1 c2 c3
    have HWR := Lib.hid hwr; have HOWN := Lib.hid hown; have HPB4 := Lib.hid hpb4; have HO4 := Lib.hid hO4
    clear hwr hown ho4 hb3 hb4 hpb3 hpb4 hO3 hO4 hr
    --@5
    go_wp2_with fail
    --@6
    clear c0 c1 c2 c3 hr2
    have HGR : Hid (g < r) := Lib.hid hgr
    have HHR : Hid (H < r) := Lib.hid hHr
    clear hgr hHr
    go_loopw [1, 11, 12, 13, 14, 15, 39] (fun v1 al _ _ _ _ i wr => ∃ (j m : Nat) (a1 : Option Addr) (c1 : Nat), j ≤ 4 ∧ i = .int .i64 (j : Int) ∧ v1 = .slice a1 m c1 ∧ cut n j + m = n ∧ BS w (.slice a1 m c1) (q.drop (cut n j)) ∧
      WR wr r r (hd4 L d q (min j 3)) ∧ OV wr r 5 al ((bd4 L d q j).map u8v) ∧ (∀ c, al.ownBlock = some c → c ≠ r ∧ c ∉ wown wr r) ∧ (∀ x, x < j → ∀ s ∈ prt q x, Huf.Okay L s.toNat) ∧ Only [] w wr ∧ PB wr g 74 ((Huf.cods L d).map cv) ∧ r < wr.heap.size) (fun _ _ _ _ _ _ i _ => 4 - (intOf i).toNat)
    case atStart => exact ⟨0, n, a2, cap2, by omega, rfl, rfl, by rw [cut_zero]; omega, by rw [cut_zero]; exact HU.out, HWR.out, OV.nil _ _ _, fun c hc => by simp [Value.ownBlock] at hc, fun x hx => absurd hx (Nat.not_lt_zero _), HO4.out, HPB4.out, HWR.out.lt⟩
    case round =>
      obtain ⟨j, m, a1, c1, hj, rfl, rfl, hcm, hbs, hwr, hov, hdis, hall, hon, hpb, hrs⟩ := hrel
      --<B
      by_cases hj4 : j < 4
      · obtain ⟨hc1, hc2, hc3⟩ := HCN.out j hmay hj4
        have hplj := HPL.out j hmay hj4
        obtain ⟨ni, hni⟩ : ∃ ni, cut n (j + 1) - cut n j = ni := ⟨_, rfl⟩
        rw [hni] at hc3 hplj
        have hmle : m ≤ c1 := by
          obtain ⟨_, _, he, h1, _⟩ := hbs
          simp only [Value.slice.injEq] at he
          omega
        have hm2 : m = (q.drop (cut n j)).length := by
          obtain ⟨_, _, he, h1, _⟩ := hbs
          simp only [Value.slice.injEq] at he
          omega
        have hix : ∀ w, (Instr.index 45 (.agg #[.int .i64 (k : Nat), .int .i64 (k : Nat), .int .i64 (k : Nat), .int .i64 ((n : Int) - 3 * (k : Int))]) (.int .i64 (j : Nat))).run Try.prog w = .ok (.int .i64 (ni : Nat)) w := fun w =>
          run_index_agg (kd' := .i64) (i := j) Try.underlying45 Try.underlying3 (by kernel_rfl) hj4 (by rw [HPG.out j hj4, hc3]) w
        have hs1 := fun w => run_sub_h (P := Try.prog) (t := 22) Try.underlying22 bit.size_u8 a1 m c1 ni (by omega) w
        have hs2 := fun w => run_sub_l (P := Try.prog) (t := 22) Try.underlying22 bit.size_u8 a1 m c1 ni (by omega) w
        have hb1 := hbs.sub 0 ni (Nat.zero_le _) (by omega)
        have hb2 := hbs.sub ni m (by omega) (by omega)
        have hpe : ((q.drop (cut n j)).take ni).drop 0 = prt q j := by rw [List.drop_zero, ← hni, ← HQL.out]; rfl
        have hre : ((q.drop (cut n j)).take m).drop ni = q.drop (cut n (j + 1)) := by
          rw [hm2, List.take_length, List.drop_drop]; congr 1; omega
        rw [hpe] at hb1
        rw [hre] at hb2
        obtain ⟨m', hm'⟩ : ∃ m', m - ni = m' := ⟨_, rfl⟩
        obtain ⟨A1, C1, hV1⟩ : ∃ A C, subv a1 c1 0 ni = .slice A ni C := ⟨_, _, rfl⟩
        obtain ⟨A2, C2, hV2⟩ : ∃ A C, subv a1 c1 ni m = .slice A m' C := ⟨_, _, by unfold subv; rw [hm']⟩
        rw [hV1] at hs1 hb1
        rw [hV2] at hs2 hb2
        have hec := fun wx (ho : Only [] wr wx) => encode_c wx L d HG.out g N HLL.out (hpb.only ho (by simp)) _ (prt q j) (hb1.only (hon.then ho) (by simp)) (by omega)
        have HEC := Lib.hid hec; have HBS2 := Lib.hid hb2; have HM' : Hid (cut n (j + 1) + m' = n) := Lib.hid (by omega)
        have HWRa := Lib.hid hwr; have HOVa := Lib.hid hov; have HDISa := Lib.hid hdis; have HALLa := Lib.hid hall; have HONa := Lib.hid hon; have HPBa := Lib.hid hpb; have HRSa := Lib.hid hrs
        have hnib : ni ≤ 1000 := by omega
        have HPLJ := Lib.hid hplj
        have hblj := HBL.out hmay j (by omega)
        have helj := HEL.out j
        have hcjn : cut n j ≤ 1000 := by omega
        clear hec hb1 hb2 hV1 hV2 hpe hre hbs hwr hov hdis hall hon hpb hrs hc3 hplj hni hm2 HWR HOWN HPB4 HO4
        by_cases hok : ∀ s ∈ prt q j, Huf.Okay L s.toNat
        · have hse := senc_okay (d := d) hok
          have hel : (senc L d (prt q j)).1 = e4 L d q j := rfl
          rw [HPLJ.out] at helj
          have hlb : (e4 L d q j).length ≤ 2001 := by omega
          obtain ⟨E, hE⟩ : ∃ E, e4 L d q j = E := ⟨_, rfl⟩
          have HE := Lib.hid hE
          have HEC2 := HEC.out
          rw [hse, hel, hE] at HEC2
          rw [hE] at hlb helj
          have HEC3 := Lib.hid HEC2
          have HALL2 : Hid (∀ x, x < j + 1 → ∀ s ∈ prt q x, Huf.Okay L s.toNat) := Lib.hid fun x hx => by
            rcases Nat.lt_or_ge x j with h1 | h1
            · exact HALLa.out x h1
            · obtain rfl : x = j := by omega
              exact hok
          clear HEC HEC2 hse hel hE HALLa
          --@8
          go_wp2_with fail
          refine (HEC3.out wr (Only.refl _ _)).mono ?_
          rintro e w5 ⟨v', rfl, hov5, ho5⟩
          obtain ⟨sa, sc, rfl, hsc1, hsc2⟩ := hov5.slice
          rw [List.length_map] at hov5 hsc1 ⊢
          obtain ⟨el, hel⟩ : ∃ el, E.length = el := ⟨_, rfl⟩
          rw [hel] at hov5 hlb hsc1 helj ⊢
          obtain ⟨hwr5, hwn5⟩ := WR.keep HWRa.out ho5 (by simp) (by simp)
          have hdis5 : ∀ c, u11.ownBlock = some c → c ≠ r ∧ c ∉ wown w5 r := by rw [hwn5]; exact HDISa.out
          have hovA5 := HOVa.out.only ho5 (by simp)
          have hon5 := HONa.out.then ho5
          have hpb5 := HPBa.out.only ho5 (by simp)
          have hrs5 := Nat.lt_of_lt_of_le HRSa.out ho5.size
          have hsown : ∀ c, (Value.slice sa el sc).ownBlock = some c → c ∉ r :: wown w5 r := fun c hc hm => by
            have h1 := (hov5.lt hc).1
            rcases List.mem_cons.1 hm with h2 | h2
            · have := HRSa.out; omega
            · rw [hwn5] at h2
              have := (WR.own_lt HWRa.out c h2).2
              omega
          by_cases hj3 : j < 3
          · have hj3I : (j : Int) < 3 := by omega
            have hmin : min j 3 = j := by omega
            rw [hmin] at hwr5
            have hnum := wnumber_o w5 r r (hd4 L d q j) hwr5 el 2 (by omega) (by rw [hd4_length]; omega)
            rw [if_pos (by decide)] at hnum
            have HNUM := Lib.hid hnum; have HWR5 := Lib.hid hwr5; have HDIS5 := Lib.hid hdis5; have HOVA5 := Lib.hid hovA5; have HON5 := Lib.hid hon5; have HPB5 := Lib.hid hpb5; have HRS5 := Lib.hid hrs5; have HSV5 := Lib.hid hov5; have HSOWN := Lib.hid hsown
            have hcw : IntKind.u64.wrap (el : Int) = (el : Int) := by rw [IntKind.wrap_u64]; omega
            have hsz5 := ho5.size
            have h65 : decide ((65536 : Int) ≤ (el : Int)) = false := by rw [decide_eq_false_iff_not]; omega
            have h65' : decide (65536 ≤ el) = false := by rw [decide_eq_false_iff_not]; omega
            have HLB := Lib.hid hlb; have HELJ := Lib.hid helj
            clear hlb helj hmin hnum hwr5 hdis5 hovA5 hon5 hpb5 hrs5 hov5 hsown HWRa HOVa HDISa HONa HPBa hwn5 ho5
            --@9
            go_wp2_with fail
            refine HNUM.out.mono ?_
            have hlb := HLB.out
            rintro e w6 ⟨rfl, hwr6, how6⟩
            have hput : hd4 L d q j ++ Cur.put el (Int.toNat 2) = hd4 L d q (min (j + 1) 3) := by
              rw [show min (j + 1) 3 = j + 1 by omega, hd4_succ, HE.out, hel]; rfl
            rw [hput] at hwr6
            have hown5 : ∀ c, u11.ownBlock = some c → c ∉ r :: wown w5 r := fun c hc hm => by
              rcases List.mem_cons.1 hm with h2 | h2
              · exact (HDIS5.out c hc).1 h2
              · exact (HDIS5.out c hc).2 h2
            have hov6 := HOVA5.out.only how6.only hown5
            have hsv6 := HSV5.out.only how6.only HSOWN.out
            have hdis6 : ∀ c, u11.ownBlock = some c → c ≠ r ∧ c ∉ wown w6 r := fun c hc => ⟨(HDIS5.out c hc).1, fun hm => by
              rcases how6.own c hm with h1 | h1
              · exact (HDIS5.out c hc).2 h1
              · have := (HOVA5.out.lt hc).2
                omega⟩
            have hS6 : ∀ c ∈ r :: wown w5 r, r ≤ c := fun c hc => by
              rcases List.mem_cons.1 hc with h2 | h2
              · omega
              · exact (WR.own_lt HWR5.out c h2).1
            have hpb6 := HPB5.out.only how6.only (fun hm => by have := hS6 g hm; have := HGR.out; omega)
            have hon6 := HON5.out.trans (S := []) how6.only (by simp) (fun c hc => .inr (by have := hS6 c hc; have := HHR.out; have := HH.out; omega))
            have hrs6 := Nat.lt_of_lt_of_le HRS5.out how6.only.size
            have hb6 : r ≤ w6.heap.size := by omega
            rw [← HE.out] at hsv6
            have hel2 : (e4 L d q j).length = el := by rw [HE.out]; exact hel
            clear hput hown5 hS6 HNUM HWR5 HDIS5 HOVA5 HON5 HPB5 HRS5 HSV5 HSOWN how6
            obtain ⟨i0, hi, hz0, hz1, hz2⟩ := info_parts bit.info_u8
            obtain ⟨al', w7, hrun, hov7, hg7⟩ := run_append_vs (P := Try.prog) (ty := 22) Try.underlying22 hi hz0 hz1 hz2 rfl hov6 hsv6.vs (bit.u8s_one _) (by simp only [List.length_map, maxLen]; omega) (by simp only [List.length_map]; omega) hb6
            have hnew := append_block (P := Try.prog) Try.underlying22 hi hz0 hz1 hz2 rfl hov6 hsv6.vs (bit.u8s_one _) (by simp only [List.length_map, maxLen]; omega) (by simp only [List.length_map]; omega) hrun
            have ho7 : Only u11.ownBlock.toList w6 w7 := Only.of_grown hg7
            have hmem : ∀ c, c ∈ u11.ownBlock.toList → u11.ownBlock = some c := fun c hc => by simpa using hc
            obtain ⟨hwr7, hwn7⟩ := WR.keep hwr6 ho7 (fun hc => (hdis6 r (hmem r hc)).1 rfl) (fun c hc hc2 => (hdis6 c (hmem c hc2)).2 hc)
            have hpb7 := hpb6.only ho7 (fun hc => by have := (hov6.lt (hmem g hc)).1; have := HGR.out; omega)
            have hon7 := hon6.trans (S := []) ho7 (by simp) (fun c hc => .inr (by have := (hov6.lt (hmem c hc)).1; have := HHR.out; have := HH.out; omega))
            have hdis7 : ∀ c, al'.ownBlock = some c → c ≠ r ∧ c ∉ wown w7 r := fun c hc => by
              rw [hwn7]
              rcases hnew c hc with h1 | h1
              · exact hdis6 c h1
              · refine ⟨by have := hwr6.lt; omega, fun hm => ?_⟩
                have := (WR.own_lt hwr6 c hm).2
                omega
            rw [← List.map_append, ← bd4_succ] at hov7
            have hrs7 := Nat.lt_of_lt_of_le hrs6 ho7.size
            have HWR7 := Lib.hid hwr7; have HPB7 := Lib.hid hpb7; have HON7 := Lib.hid hon7; have HDIS7 := Lib.hid hdis7; have HOV7 := Lib.hid hov7; have HRS7 := Lib.hid hrs7; have HRUN := Lib.hid hrun
            clear hwr7 hpb7 hon7 hdis7 hov7 hrs7 hrun hg7 hnew ho7 hmem hwn7 hi hz0 hz1 hz2 hov6 hsv6 hb6 hwr6 hpb6 hon6 hdis6 hrs6
            go_wp2_with (at_builtin; refine wpList_append_run rfl _ _ _ rfl rfl rfl HRUN.out ?_)
            go_roundw
            case rel => exact ⟨j + 1, m', A2, C2, by omega, by go_num, rfl, HM'.out, HBS2.out, HWR7.out, HOV7.out, HDIS7.out, HALL2.out, HON7.out, HPB7.out, HRS7.out⟩
            case measure => simp [intOf]; omega
          · have hj3e : j = 3 := by omega
            have hj3I : ¬ ((j : Int) < 3) := by omega
            have hmin : hd4 L d q (min j 3) = hd4 L d q (min (j + 1) 3) := by subst hj3e; rfl
            rw [hmin] at hwr5
            have hwr6 := hwr5; have hdis6 := hdis5; have hov6 := hovA5; have hon6 := hon5; have hpb6 := hpb5; have hrs6 := hrs5; have hsv6 := hov5
            obtain ⟨w6, hw6⟩ : ∃ w6, w5 = w6 := ⟨_, rfl⟩
            rw [hw6] at hwr6 hdis6 hov6 hon6 hpb6 hrs6 hsv6 ⊢
            have hb6 : r ≤ w6.heap.size := by omega
            rw [← HE.out] at hsv6
            have hel2 : (e4 L d q j).length = el := by rw [HE.out]; exact hel
            clear hwr5 hdis5 hovA5 hon5 hpb5 hrs5 hov5 hsown HWRa HOVa HDISa HONa HPBa hwn5 ho5 hj3e hmin
            obtain ⟨i0, hi, hz0, hz1, hz2⟩ := info_parts bit.info_u8
            obtain ⟨al', w7, hrun, hov7, hg7⟩ := run_append_vs (P := Try.prog) (ty := 22) Try.underlying22 hi hz0 hz1 hz2 rfl hov6 hsv6.vs (bit.u8s_one _) (by simp only [List.length_map, maxLen]; omega) (by simp only [List.length_map]; omega) hb6
            have hnew := append_block (P := Try.prog) Try.underlying22 hi hz0 hz1 hz2 rfl hov6 hsv6.vs (bit.u8s_one _) (by simp only [List.length_map, maxLen]; omega) (by simp only [List.length_map]; omega) hrun
            have ho7 : Only u11.ownBlock.toList w6 w7 := Only.of_grown hg7
            have hmem : ∀ c, c ∈ u11.ownBlock.toList → u11.ownBlock = some c := fun c hc => by simpa using hc
            obtain ⟨hwr7, hwn7⟩ := WR.keep hwr6 ho7 (fun hc => (hdis6 r (hmem r hc)).1 rfl) (fun c hc hc2 => (hdis6 c (hmem c hc2)).2 hc)
            have hpb7 := hpb6.only ho7 (fun hc => by have := (hov6.lt (hmem g hc)).1; have := HGR.out; omega)
            have hon7 := hon6.trans (S := []) ho7 (by simp) (fun c hc => .inr (by have := (hov6.lt (hmem c hc)).1; have := HHR.out; have := HH.out; omega))
            have hdis7 : ∀ c, al'.ownBlock = some c → c ≠ r ∧ c ∉ wown w7 r := fun c hc => by
              rw [hwn7]
              rcases hnew c hc with h1 | h1
              · exact hdis6 c h1
              · refine ⟨by have := hwr6.lt; omega, fun hm => ?_⟩
                have := (WR.own_lt hwr6 c hm).2
                omega
            rw [← List.map_append, ← bd4_succ] at hov7
            have hrs7 := Nat.lt_of_lt_of_le hrs6 ho7.size
            have HWR7 := Lib.hid hwr7; have HPB7 := Lib.hid hpb7; have HON7 := Lib.hid hon7; have HDIS7 := Lib.hid hdis7; have HOV7 := Lib.hid hov7; have HRS7 := Lib.hid hrs7; have HRUN := Lib.hid hrun
            clear hwr7 hpb7 hon7 hdis7 hov7 hrs7 hrun hg7 hnew ho7 hmem hwn7 hi hz0 hz1 hz2 hov6 hsv6 hb6 hwr6 hpb6 hon6 hdis6 hrs6
            go_wp2_with (at_builtin; refine wpList_append_run rfl _ _ _ rfl rfl rfl HRUN.out ?_)
            go_roundw
            case rel => exact ⟨j + 1, m', A2, C2, by omega, by go_num, rfl, HM'.out, HBS2.out, HWR7.out, HOV7.out, HDIS7.out, HALL2.out, HON7.out, HPB7.out, HRS7.out⟩
            case measure => simp [intOf]; omega
        · have hse := senc_not (d := d) hok
          have HEC2 := HEC.out
          rw [hse] at HEC2
          have HEC3 := Lib.hid HEC2
          have hS := HS.out
          rw [if_pos (.inr (fun hall => hok (fun s hs => hall s (List.mem_of_mem_drop (List.mem_of_mem_take hs)))))] at hS
          subst hS
          clear HEC HEC2 hse
          --@10
          go_wp2_with fail
          refine (HEC3.out wr (Only.refl _ _)).mono ?_
          rintro e w5 ⟨v', rfl, hov5, ho5⟩
          have HON5 := Lib.hid (HONa.out.then ho5)
          obtain ⟨sa, sc, rfl, hsc1, hsc2⟩ := hov5.slice
          clear hov5 ho5
          go_wp2_with fail
          go_ret2
          exact ⟨_, rfl, OV.nil _ _ _, HON5.out⟩
      · obtain rfl : j = 4 := by omega
        have hS := HS.out
        have hallq := (all_prt (P := fun s => Huf.Okay L s.toNat) (q := q) (by rw [HQL.out, HK.out]; exact hmay)).2 hall
        rw [if_neg (by rintro (h | h); omega; exact h hallq)] at hS
        subst hS
        have hblj := HBL.out hmay 4 (Nat.le_refl _)
        rw [cut_four] at hblj
        have hcm' : n ≤ 1000 := hq
        have hbs6 := BS.of_vs hov.vs
        obtain ⟨sa, sc, hse, hsc1, hsc2⟩ := hov.slice
        rw [List.length_map] at hse
        obtain ⟨el, hel⟩ : ∃ el, (bd4 L d q 4).length = el := ⟨_, rfl⟩
        rw [hel] at hse hblj
        subst hse
        have hwb := wbytes_c wr r r (hd4 L d q (min 4 3)) (bd4 L d q 4) hwr _ hbs6 (by rw [hd4_length, hel]; omega)
        have HWB := Lib.hid hwb; have HBE := Lib.hid (fun w' (hb : Below r wr w') => Lm.only_below hon hb (by have := HHR.out; have := HH.out; omega))
        clear hwb hwr hov hdis hall hon hpb hrs hbs hbs6 hallq hel hblj HWR HOWN HPB4 HO4
        --@11
        go_wp2_with fail
        refine HWB.out.mono ?_
        rintro e w6 ⟨rfl, hwr6, hb6⟩
        have hout := out_c w6 r r _ hwr6 (by rw [List.length_append, hd4_length]; have := HBL.out hmay 4 (Nat.le_refl _); rw [cut_four] at this; omega)
        have HOUT := Lib.hid hout; have HON6 := Lib.hid (HBE.out w6 hb6)
        clear hout hwr6 hb6
        --@12
        go_wp2_with fail
        refine HOUT.out.mono ?_
        rintro e w7 ⟨v', rfl, hov7, ho7⟩
        have HOV7 := Lib.hid hov7; have HON7 := Lib.hid (HON6.out.then ho7)
        clear hov7 ho7
        go_wp2_with fail
        go_ret2
        refine ⟨v', rfl, ?_, HON7.out⟩
        have h1 := HOV7.out.mono (show H ≤ w6.heap.size by have := HON6.out.size; have := HH.out; omega)
        rw [show min 4 3 = 3 from rfl] at h1
        first | exact h1 | (rw [List.map_append] at h1; exact h1)
      --B>
  · have hS := HS.out
    rw [if_pos (.inl (by omega))] at hS
    subst hS
    rw [decide_eq_false hmay]
    --@4
    go_wp2_with fail
    go_ret2
    exact ⟨_, rfl, OV.nil _ _ _, HO2.out.alloc _⟩
end Go.Proofs.Ytfckokdgmbbheaa.huf
