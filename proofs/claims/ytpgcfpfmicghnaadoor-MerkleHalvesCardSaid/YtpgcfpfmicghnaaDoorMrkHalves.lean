/-
  MerkleHalves, walked.
-/
import Derived.Test.YtpgcfpfmicghnaaDoorMrkAwake
import Derived.Test.YtpgcfpfmicghnaaDoorGenH
set_option linter.unusedVariables false
set_option linter.unusedSimpArgs false
namespace Go.Proofs.YtpgcfpfmicghnaaDoor.mrk
open Go Go.RowKit Go.Lm Go.ChangeShapes Go.WideShapes Go.Proofs.YtpgcfpfmicghnaaDoor.sha

theorem dcells_cells {w : World} {b off : Nat} {T : List (List UInt8)} (h32 : D32 T) (h : ∀ i (h : i < T.length), w.rangeAt b (off + 32 * i) (T[i].map u8v)) (j : Nat) (u : Value) (hj : (dcells T)[j]? = some u) : w.cell? ⟨b, off + j, none⟩ = some u := by
  have hlt : j < T.length * 32 := by
    have := (List.getElem?_eq_some_iff.1 hj).1
    rwa [dcells_length _ h32] at this
  have hi : j / 32 < T.length := by omega
  have hr : j % 32 < (T[j / 32].map u8v).length := by rw [List.length_map, h32 _ (List.getElem_mem hi)]; omega
  have hg := dcells_get T h32 (j / 32) hi (j % 32) _ (List.getElem?_eq_getElem hr)
  rw [show 32 * (j / 32) + j % 32 = j from Nat.div_add_mod j 32] at hg
  rw [hg] at hj
  injection hj with hj
  subst hj
  have := h (j / 32) hi (j % 32) _ (List.getElem?_eq_getElem hr)
  rwa [Nat.add_assoc, Nat.div_add_mod j 32] at this
/-- 'append(v, u...)' of digests. -/
theorem app_digs {x : World} {B : Nat} {v u : Value} {S T : List (List UInt8)} (hown : OD x B v S) (hu : DS x u T) (hT : T ≠ []) (hn : S.length + T.length ≤ 1000000) (hB : B ≤ x.heap.size) {ty : TypeId} :
    ∃ v' x', (Builtin.append_ #[22, 22] ty #[v, u]).run Tryd.prog x = .ok v' x' ∧ OD x' B v' (S ++ T) ∧ x.grownBy x' v.ownBlock := by
  obtain ⟨i, z, hi, hz, hzs, hsz, hby⟩ := info_sum'
  have h32 := hu.d32
  obtain ⟨a, cap, rfl, h1, h2, h3, h4, h5⟩ := hu
  obtain ⟨b, off, rfl, -⟩ := h5 0 (by cases T with | nil => exact absurd rfl hT | cons _ _ => simp)
  have h6 : ∀ i (h : i < T.length), x.rangeAt b (off + 32 * i) (T[i].map u8v) := fun i h => by
    obtain ⟨b', off', he, hr⟩ := h5 i h
    injection he with he
    injection he with e1 e2
    subst e1; subst e2
    exact hr
  obtain ⟨v', w', hrun, ho, hg, _⟩ := run_append_own (P := Tryd.prog) x B 22 ty 25 i z 32 32 Tryd.underlying22 hi hz hsz hby hzs (by decide) v S.length (dcells S) hown.1 ⟨b, off, none⟩ T.length cap (dcells T) (dcells_length _ h32)
    (fun j u hj => by rw [Addr.add_mid]; exact dcells_cells h32 h6 j u hj)
    (fun u hu => by obtain ⟨d, _, hd⟩ := List.mem_flatMap.1 hu; obtain ⟨x, _, rfl⟩ := List.mem_map.1 hd; rfl) (by unfold maxLen; omega) (by omega) hB
  refine ⟨v', w', hrun, ⟨?_, fun d hd => ?_⟩, hg⟩
  · rw [dcells_append, List.length_append]; exact ho
  · rcases List.mem_append.1 hd with h | h
    · exact hown.2 d h
    · exact h32 d h
/-- It lies in the same block, or in a new one. -/
theorem dig_block {x : World} {B g : Nat} {v : Value} {S : List (List UInt8)} {d : List UInt8} (hown : OD x B v S) (hd : d.length = 32) (hn : S.length ≤ 1000000) {C : Array Value} (hC : C = (d.map u8v).toArray) {t : TypeId} {fr : Nat × Nat} (hg : x.heap[g]? = some (.cells C t fr)) {ty : TypeId}
    {v' : Value} {x' : World} (hrun : (Builtin.append_ #[22, 22] ty #[v, .slice (some ⟨g, 0, none⟩) 1 1]).run Tryd.prog x = .ok v' x') : ∀ k, v'.ownBlock = some k → v.ownBlock = some k ∨ x.heap.size ≤ k := by
  obtain ⟨i, z, hi, hz, hzs, hsz, hby⟩ := info_sum'
  have hnews : ∀ j u, (d.map u8v)[j]? = some u → x.cell? ((⟨g, 0, none⟩ : Addr).add j) = some u := fun j u hj => by
    rw [Addr.add_mid, Nat.zero_add, cell_of_row _ _ _ C _ _ hg, hC]
    simpa using hj
  have h1 : ∀ u ∈ d.map u8v, u.oneCell' = true := fun u hu => by obtain ⟨x, _, rfl⟩ := List.mem_map.1 hu; rfl
  rcases hown.1.2 with ⟨rfl, h0⟩ | ⟨k, cap', cur, rfl, hbg, hgk, hnc, hcm, hcs, htake⟩
  · have hS : S = [] := List.eq_nil_of_length_eq_zero h0
    subst hS
    obtain ⟨v2, w2, hr2, ho2, _, _⟩ := run_append_own (P := Tryd.prog) x x.heap.size 22 ty 25 i z 32 32 Tryd.underlying22 hi hz hsz hby hzs (by decide) (.slice none 0 0) 0 [] (World.ownsRow_nil x x.heap.size _ 32) ⟨g, 0, none⟩ 1 1 (d.map u8v) (by simp [hd]) hnews h1 (by unfold maxLen; omega) (by omega) (Nat.le_refl _)
    rw [hr2] at hrun
    have : v2 = v' := by injection hrun
    subst this
    exact fun g hg => .inr (World.ownsRow.lt ho2 g hg).1
  · by_cases hroom : S.length + 1 ≤ cap'
    · have hr := run_append_room (P := Tryd.prog) x 22 ty 25 i Tryd.underlying22 hi k S.length cap' cur hgk ⟨g, 0, none⟩ 1 1 (d.map u8v) (by rw [hsz]; simp [hd]) hnews h1 hroom (by rw [hsz, hcs, List.length_map, hd]; omega)
      rw [hr] at hrun
      injection hrun with e1 _
      subst e1
      exact fun k hk => .inl hk
    · have holds : ∀ j u, (dcells S)[j]? = some u → x.cell? ((⟨k, 0, none⟩ : Addr).add j) = some u := World.ownsRow.cells hown.1 (g := k) rfl
      have hr := run_append_grow (P := Tryd.prog) x 22 ty 25 i z Tryd.underlying22 hi hz ⟨k, 0, none⟩ S.length cap' (dcells S) (by rw [hsz]; exact dcells_length _ hown.2) holds ⟨g, 0, none⟩ 1 1 (d.map u8v) (by rw [hsz]; simp [hd]) hnews (by omega) (by omega) (by rw [hby]; exact growslice_fits (by omega) (by omega))
      rw [hr] at hrun
      injection hrun with e1 _
      subst e1
      intro k' hk
      simp only [Value.ownBlock, Option.some.injEq] at hk
      exact .inr (by omega)
theorem root_halves (xs ys : List (List UInt8)) (k : Nat) (hx : xs.length = 2 ^ k) (hy : ys.length = 2 ^ k) : rootD (xs ++ ys) = nodeD (rootD xs) (rootD ys) := by
  have hp : 0 < 2 ^ k := Nat.pow_pos (by decide)
  have hl : (xs ++ ys).length = 2 ^ k + 2 ^ k := by rw [List.length_append, hx, hy]
  rw [root_split (xs ++ ys) (by omega), hl, Mrk.top_eq (2 ^ k + 2 ^ k) k (by omega) (by omega), ← hx, List.take_left', List.drop_left'] <;> rfl
theorem root_more (cs : List (List UInt8)) (d : List UInt8) (k : Nat) (hc : cs.length = 2 ^ (k + 1)) : rootD (cs ++ [d]) = nodeD (rootD cs) d := by
  have hp : 0 < 2 ^ (k + 1) := Nat.pow_pos (by decide)
  have hl : (cs ++ [d]).length = 2 ^ (k + 1) + 1 := by rw [List.length_append, hc]; rfl
  rw [root_split (cs ++ [d]) (by omega), hl, Mrk.top_eq (2 ^ (k + 1) + 1) (k + 1) (by omega) (by omega), ← hc, List.take_left', List.drop_left', root_alone] <;> rfl
/-- The digests that differ in one byte. -/
def row (x : List UInt8) (p n : Nat) : List (List UInt8) := (List.range n).map fun i => x.set p (UInt8.ofNat i)
theorem row_succ (x : List UInt8) (p n : Nat) : row x p (n + 1) = row x p n ++ [x.set p (UInt8.ofNat n)] := by simp [row, List.range_succ]
theorem row_length (x : List UInt8) (p n : Nat) : (row x p n).length = n := by simp [row]

set_option maxRecDepth 100000 in
set_option maxHeartbeats 8000000 in
theorem halves_c (w : World) (hT : Tab w) (hZ : Tz w) (lg : Nat) (hlg : lg < 256) (x y : List UInt8) (hx : x.length = 32) (hy : y.length = 32) :
    Calls Tryd.prog 9 #[.int .u8 (lg : Nat), dv x, dv y] w fun e w' => e = .returned (.bool true) ∧ Below w.heap.size w w' := by
  have HT := Lib.hid hT; have HTZ := Lib.hid hZ; have HX := Lib.hid hx; have HY := Lib.hid hy
  obtain ⟨A, hA, hAs, hAi, -⟩ := store_facts x hx
  obtain ⟨C, hC, hCs, hCi, -⟩ := store_facts y hy
  have HAE : Hid ((x.map u8v).toArray = A) := Lib.hid (Value.agg.inj hA)
  have HCE : Hid ((y.map u8v).toArray = C) := Lib.hid (Value.agg.inj hC)
  rw [hA, hC]
  obtain ⟨k, hk⟩ : ∃ k, lg % 6 = k := ⟨_, rfl⟩
  have hk6 : k < 6 := by omega
  have hkI : (lg : Int) % 6 = (k : Int) := by omega
  have hkT : (lg : Int).tmod 6 = (k : Int) := by rw [Int.tmod_eq_emod_of_nonneg (by omega)]; exact hkI
  obtain ⟨K, hK⟩ : ∃ K, 2 ^ k = K := ⟨_, rfl⟩
  have hK32 : K ≤ 32 := by rw [← hK]; exact Nat.pow_le_pow_right (show 0 < 2 by decide) (show k ≤ 5 by omega)
  have hK0 : 0 < K := by rw [← hK]; exact Nat.pow_pos (by decide)
  have hwK : wrap64 ((2 : Int) ^ k) = (K : Int) := by
    have h0 : ((2 : Int) ^ k) = ((2 ^ k : Nat) : Int) := by simp
    rw [h0, hK]
    exact wrap64_of _ (by omega) (by omega)
  have hwk : IntKind.u64.wrap (k : Int) = (k : Int) := by rw [IntKind.wrap_u64]; omega
  have HK := Lib.hid hK; have HK32 := Lib.hid hK32; have HK0 := Lib.hid hK0
  clear hT hZ hx hy hA hAs hAi hC hCs hCi hk hK
  go_enter Tryd.func9, Tryd.ntmps9
  go_upto_region 1 with fail
  generalize hg : World.alloc _ _ = w1
  have h2 := two w (.cells A 25 (0, 0)) (.cells C 25 (0, 0))
  have he : w1 = (w.alloc (.cells A 25 (0, 0))).alloc (.cells C 25 (0, 0)) := hg.symm.trans rfl
  rw [← he] at h2
  have HO1 : Hid (Only [] w w1) := Lib.hid (by rw [he]; exact ((Only.refl [] w).alloc _).alloc _)
  have HX0 : Hid (Blk w1 w.heap.size 25 x) := Lib.hid (by unfold Blk; rw [HAE.out]; exact h2.1)
  have HY0 : Hid (Blk w1 (w.heap.size + 1) 25 y) := Lib.hid (by unfold Blk; rw [HCE.out]; exact h2.2)
  clear hg he h2
  obtain ⟨q, hq⟩ : ∃ q, w.heap.size = q := ⟨_, rfl⟩
  rw [hq] at HX0 HY0 ⊢
  have HQ := Lib.hid hq
  clear hq
  go_wp2_with fail
  refine (awake_c w1 (HT.out.only HO1.out (by simp)) (HTZ.out.only HO1.out (by simp))).mono ?_
  rintro e w2 ⟨rfl, ho2⟩
  have HO2 := Lib.hid (HO1.out.then ho2); have HX2 := Lib.hid (HX0.out.only ho2 (by simp)); have HY2 := Lib.hid (HY0.out.only ho2 (by simp))
  clear ho2 HO1 HX0 HY0
  go_wp2_with fail
  --@1
  have HWK := Lib.hid hwK; have HWKK := Lib.hid hwk
  clear hwK hwk hkT hkI
  go_loopw [9, 10, 11] (fun va vb c wx => ∃ (j : Nat) (X Y : List UInt8), c = .int .i64 (j : Nat) ∧ j ≤ K ∧ Blk wx q 25 X ∧ Blk wx (q + 1) 25 Y ∧ X.length = 32 ∧ Y.length = 32 ∧ (∀ u, X.set 0 u = x.set 0 u) ∧ (∀ u, Y.set 1 u = y.set 1 u) ∧
    OD wx (q + 2) va (row x 0 j) ∧ OD wx (q + 2) vb (row y 1 j) ∧ (∀ g, va.ownBlock = some g → vb.ownBlock ≠ some g) ∧ Only [] w wx) (fun _ _ c _ => K - (intOf c).toNat)
  --@L0
  case atStart => exact ⟨0, x, y, rfl, Nat.zero_le _, HX2.out, HY2.out, HX.out, HY.out, fun _ => rfl, fun _ => rfl, OD.nil _ _, OD.nil _ _, fun g h => by simp [Value.ownBlock] at h, HO2.out⟩
  case round =>
    clear HX2 HY2 HO2
    --@L1
    obtain ⟨j, X, Y, rfl, hj, hbx, hby, hxl, hyl, hxs, hys, hoa, hob, hdj, ho⟩ := hrel
    have HBX := Lib.hid hbx; have HBY := Lib.hid hby; have HXL := Lib.hid hxl; have HYL := Lib.hid hyl; have HXS := Lib.hid hxs; have HYS := Lib.hid hys
    obtain ⟨aa, ac, rfl, -, -⟩ := hoa.slice
    obtain ⟨ba, bc, rfl, -, -⟩ := hob.slice
    simp only [row_length] at hoa hob hdj ⊢
    have HOA := Lib.hid hoa; have HOB := Lib.hid hob; have HDJ := Lib.hid hdj; have HO := Lib.hid ho
    clear hbx hby hxl hyl hxs hys hoa hob hdj ho
    --@L2
    by_cases hlt : j < K
    · have hltI : (j : Int) < (K : Int) := by omega
      --@L3
      have hw8 : IntKind.u8.wrap (j : Int) = (j : Int) := by rw [IntKind.wrap_u8]; omega
      have cx := HBX.out.cell 0 (by rw [HXL.out]; decide)
      have cy := HBY.out.cell 1 (by rw [HYL.out]; decide)
      have fx := HBX.out.free
      have fy := HBY.out.free
      --@1a
      have hwK := HWK.out
      have hwk := HWKK.out
      go_upto_region 10 with fail
      clear hwK hwk
      --@1b
      go_upto_region 11 with fail
      --@1c
      go_upto_region 12 with fail
      --@2
      generalize hg : World.setCell _ _ _ = wa
      have e7 : (UInt8.ofNat j).toNat = j := by simp; omega
      have e8 : Value.int .u8 (j : Int) = u8v (UInt8.ofNat j) := by unfold u8v; rw [e7]
      have hea : wa = (wr.setCell ⟨q, 0, none⟩ (u8v (UInt8.ofNat j))).setCell ⟨q + 1, 1, none⟩ (u8v (UInt8.ofNat j)) := by rw [← e8]; exact hg.symm.trans rfl
      have hoS : Only [q, q + 1] wr wa := by rw [hea]; exact ((Only.refl [q, q + 1] wr).setCell (.inl (by simp)) _).setCell (.inl (by simp)) _
      have hbx2 : Blk wa q 25 (X.set 0 (UInt8.ofNat j)) := by rw [hea]; exact Blk.only (S := [q + 1]) (HBX.out.set 0 _) ((Only.refl [q + 1] _).setCell (.inl (by simp)) _) (by simp)
      have hby2 : Blk wa (q + 1) 25 (Y.set 1 (UInt8.ofNat j)) := by rw [hea]; exact Blk.set (Blk.only (S := [q]) HBY.out ((Only.refl [q] wr).setCell (.inl (by simp)) _) (by simp)) 1 _
      have hoa2 := HOA.out.only hoS (fun c hc => by have := (HOA.out.lt hc).1; simp; omega)
      have hob2 := HOB.out.only hoS (fun c hc => by have := (HOB.out.lt hc).1; simp; omega)
      have ho2 : Only [] w wa := HO.out.trans hoS (by simp) (fun i hi => .inr (by have := HQ.out; simp at hi; omega))
      have hsz2 : q + 2 ≤ wa.heap.size := by have := hby2.lt; omega
      rw [HXS.out] at hbx2
      rw [HYS.out] at hby2
      have HBX2 := Lib.hid hbx2; have HBY2 := Lib.hid hby2; have HOA2 := Lib.hid hoa2; have HOB2 := Lib.hid hob2; have HO2 := Lib.hid ho2; have HSZ2 := Lib.hid hsz2
      clear hg hea e7 e8 hw8 hoS hbx2 hby2 hoa2 hob2 ho2 hsz2 HBX HBY HOA HOB HO cx cy fx fy
      --@2a
      have hxl2 : (x.set 0 (UInt8.ofNat j)).length = 32 := by rw [List.length_set]; exact HX.out
      have hyl2 : (y.set 1 (UInt8.ofNat j)).length = 32 := by rw [List.length_set]; exact HY.out
      have hnx := row_succ x 0 j
      have hny := row_succ y 1 j
      obtain ⟨d1, hd1⟩ : ∃ d, x.set 0 (UInt8.ofNat j) = d := ⟨_, rfl⟩
      obtain ⟨d2, hd2⟩ : ∃ d, y.set 1 (UInt8.ofNat j) = d := ⟨_, rfl⟩
      rw [hd1] at hxl2 hnx HBX2
      rw [hd2] at hyl2 hny HBY2
      obtain ⟨D1, hD1, hD1s, hD1i, -⟩ := store_facts d1 hxl2
      obtain ⟨D2, hD2, hD2s, hD2i, -⟩ := store_facts d2 hyl2
      have hDE1 : D1 = (d1.map u8v).toArray := (Value.agg.inj hD1).symm
      have hDE2 : D2 = (d2.map u8v).toArray := (Value.agg.inj hD2).symm
      have HD1 : Hid (wa.heap[q]? = some (.cells D1 25 (0, 0))) := Lib.hid (by rw [hDE1]; exact HBX2.out)
      have HD1I := Lib.hid hD1i; have HD2I := Lib.hid hD2i; have HD1S : Hid (D1.size = 32) := Lib.hid hD1s; have HD2S : Hid (D2.size = 32) := Lib.hid hD2s
      have HDL1 := Lib.hid hxl2; have HDL2 := Lib.hid hyl2; have HDE1 := Lib.hid hDE1; have HDE2 := Lib.hid hDE2; have HNX := Lib.hid hnx; have HNY := Lib.hid hny; have HDD := Lib.hid (⟨hd1, hd2⟩ : _ ∧ _)
      clear hxl2 hyl2 hnx hny hd1 hd2 hD1 hD1s hD1i hD2 hD2s hD2i hDE1 hDE2
      --@2b
      obtain ⟨a', wb, hrun, hoa3, hga⟩ := run_append_dig (ty := 22) (T := 25) (fr := (0, 0)) HOA2.out HDL1.out (by rw [row_length]; have := HK32.out; omega) HSZ2.out D1 HDE1.out
      have hal : Only [] wa (wa.alloc (.cells D1 25 (0, 0))) := (Only.refl [] wa).alloc _
      have hblk := dig_block (HOA2.out.only hal (by simp)) HDL1.out (by rw [row_length]; have := HK32.out; omega) HDE1.out (heap_alloc_new wa (.cells D1 25 (0, 0))) hrun
      have hnr : ∀ g, g < q + 2 → g ∉ (Value.slice aa j ac).ownBlock.toList := fun g hg hm => by have := (HOA2.out.lt (c := g) (by simpa using hm)).1; omega
      have HBX3 := Lib.hid ((HBX2.out.only hal (by simp)).only (Only.of_grown hga) (hnr q (by omega)))
      have HBY3 := Lib.hid ((HBY2.out.only hal (by simp)).only (Only.of_grown hga) (hnr (q + 1) (by omega)))
      have HOB3 := Lib.hid ((HOB2.out.only hal (by simp)).only (Only.of_grown hga) (fun c hc hm => HDJ.out c (by simpa using hm) hc))
      have HO3 : Hid (Only [] w wb) := Lib.hid ((HO2.out.then hal).trans (Only.of_grown hga) (by simp) (fun i hi => .inr (by have := HQ.out; rcases Nat.lt_or_ge i (q + 2) with h | h; exact absurd hi (hnr i h); omega)))
      have HDJ3 : Hid (∀ g, a'.ownBlock = some g → (Value.slice ba j bc).ownBlock ≠ some g) := Lib.hid (fun g hg h => by
        rcases hblk g hg with h1 | h1
        · exact HDJ.out g h1 h
        · have := (HOB2.out.lt h).2; simp at h1; omega)
      have HSZ3 : Hid (q + 2 ≤ wb.heap.size) := Lib.hid (by have := HBY3.out.lt; omega)
      have HRUN := Lib.hid hrun
      rw [← HNX.out] at hoa3
      have HOA3 := Lib.hid hoa3
      clear hrun hga hal hblk hnr hoa3 HBX2 HBY2 HOB2 HO2 HDJ
      obtain ⟨aa', ac', hav, -, -⟩ := HOA3.out.slice
      rw [row_length] at hav
      subst hav
      --@2c
      go_upto_region 13 with (first
        | (refine wpList_load_row rfl 25 _ rfl q rfl _ D1 _ _ HD1.out Tryd.underlying25 rfl HD1I.out ?_)
        | (refine wpList_one_dig rfl _ rfl D1 rfl HD1S.out ?_)
        | (at_builtin; refine wpList_append_run rfl _ _ _ rfl rfl rfl HRUN.out ?_))
      --@3
      clear HRUN HD1 HOA2
      have HD2 : Hid (wb.heap[q + 1]? = some (.cells D2 25 (0, 0))) := Lib.hid (by rw [HDE2.out]; exact HBY3.out)
      obtain ⟨b', we, hrun, hob4, hgb⟩ := run_append_dig (ty := 22) (T := 25) (fr := (0, 0)) HOB3.out HDL2.out (by rw [row_length]; have := HK32.out; omega) HSZ3.out D2 HDE2.out
      have hal : Only [] wb (wb.alloc (.cells D2 25 (0, 0))) := (Only.refl [] wb).alloc _
      have hblk := dig_block (HOB3.out.only hal (by simp)) HDL2.out (by rw [row_length]; have := HK32.out; omega) HDE2.out (heap_alloc_new wb (.cells D2 25 (0, 0))) hrun
      have hnr : ∀ g, g < q + 2 → g ∉ (Value.slice ba j bc).ownBlock.toList := fun g hg hm => by have := (HOB3.out.lt (c := g) (by simpa using hm)).1; omega
      have HBX4 := Lib.hid ((HBX3.out.only hal (by simp)).only (Only.of_grown hgb) (hnr q (by omega)))
      have HBY4 := Lib.hid ((HBY3.out.only hal (by simp)).only (Only.of_grown hgb) (hnr (q + 1) (by omega)))
      have HOA4 := Lib.hid ((HOA3.out.only hal (by simp)).only (Only.of_grown hgb) (fun c hc hm => HDJ3.out c hc (by simpa using hm)))
      have HO4 : Hid (Only [] w we) := Lib.hid ((HO3.out.then hal).trans (Only.of_grown hgb) (by simp) (fun i hi => .inr (by have := HQ.out; rcases Nat.lt_or_ge i (q + 2) with h | h; exact absurd hi (hnr i h); omega)))
      have HDJ4 : Hid (∀ g, (Value.slice aa' (j + 1) ac').ownBlock = some g → b'.ownBlock ≠ some g) := Lib.hid (fun g hg h => by
        rcases hblk g h with h1 | h1
        · exact HDJ3.out g hg h1
        · have := (HOA3.out.lt hg).2; simp at h1; omega)
      have HRUN := Lib.hid hrun
      rw [← HNY.out] at hob4
      have HOB4 := Lib.hid hob4
      clear hrun hgb hal hblk hnr hob4 HBX3 HBY3 HOA3 HO3 HDJ3
      obtain ⟨ba', bc', hbv, -, -⟩ := HOB4.out.slice
      rw [row_length] at hbv
      subst hbv
      go_wp2_with (first
        | (refine wpList_load_row rfl 25 _ rfl (q + 1) rfl _ D2 _ _ HD2.out Tryd.underlying25 rfl HD2I.out ?_)
        | (refine wpList_one_dig rfl _ rfl D2 rfl HD2S.out ?_)
        | (at_builtin; refine wpList_append_run rfl _ _ _ rfl rfl rfl HRUN.out ?_))
      --@4
      go_roundw
      case rel => exact ⟨j + 1, d1, d2, by go_num, by omega, HBX4.out, HBY4.out, HDL1.out, HDL2.out, fun u => by rw [← HDD.out.1, List.set_set], fun u => by rw [← HDD.out.2, List.set_set], HOA4.out, HOB4.out, HDJ4.out, HO4.out⟩
      case measure => simp [intOf]; omega
    · have hjK : j = K := by omega
      subst hjK
      --@1b
      --@2
      --@2a
      --@2b
      --@2c
      --@x1
      --@x2
      --@x3
      --@x4
      --@x5
      --@3
      --@4
      --@5
      have hltI : ¬ (j : Int) < (j : Int) := by omega
      --@5a
      have hra : (row x 0 j) ≠ [] := fun h => by have := row_length x 0 j; rw [h] at this; have := HK0.out; simp at *; omega
      have hrb : (row y 1 j) ≠ [] := fun h => by have := row_length y 1 j; rw [h] at this; have := HK0.out; simp at *; omega
      -- c is a, then b
      obtain ⟨c1, wb, hrun1, hoc1, hg1⟩ := app_digs (ty := 22) (OD.nil wr wr.heap.size) HOA.out.ds hra (by rw [row_length]; have := HK32.out; simp; omega) (Nat.le_refl _)
      have ho1 : Only [] wr wb := Only.of_grown hg1
      have hob1 := HOB.out.only ho1 (by simp)
      obtain ⟨c2, we, hrun2, hoc2, hg2⟩ := app_digs (ty := 22) hoc1 hob1.ds hrb (by simp only [List.nil_append, row_length]; have := HK32.out; omega) ho1.size
      have hnr : ∀ g, g < wr.heap.size → g ∉ c1.ownBlock.toList := fun g hg hm => by have := (hoc1.lt (c := g) (by simpa using hm)).1; omega
      have HBX2 := Lib.hid ((HBX.out.only ho1 (by simp)).only (Only.of_grown hg2) (hnr q HBX.out.lt))
      have HOA2 := Lib.hid ((HOA.out.only ho1 (by simp)).only (Only.of_grown hg2) (fun c hc => hnr c (HOA.out.lt hc).2))
      have HOB2 := Lib.hid (hob1.only (Only.of_grown hg2) (fun c hc => hnr c (HOB.out.lt hc).2))
      have HO2 : Hid (Only [] w we) := Lib.hid ((HO.out.then ho1).trans (Only.of_grown hg2) (by simp) (fun i hi => .inr (by have := HO.out.size; rcases Nat.lt_or_ge i wr.heap.size with h | h; exact absurd hi (hnr i h); omega)))
      have HCo2 := Lib.hid hoc2
      have HSE : Hid (wr.heap.size ≤ we.heap.size) := Lib.hid (Nat.le_trans ho1.size (Only.of_grown hg2).size)
      have HRUN1 := Lib.hid hrun1; have HRUN2 := Lib.hid hrun2
      have HWR : Hid (q + 2 ≤ wr.heap.size) := Lib.hid (by have := HBY.out.lt; omega)
      clear hrun1 hrun2 hg1 hg2 ho1 hob1 hnr hoc2 hra hrb
      obtain ⟨c1a, c1c, rfl, -, -⟩ := hoc1.slice
      obtain ⟨ca, cc, rfl, -, -⟩ := HCo2.out.slice
      clear hoc1 HBX HBY HOA HOB HO HDJ HYS
      simp only [List.nil_append, List.length_append, row_length] at HCo2 HRUN1 HRUN2
      have hwK := HWK.out
      have hwk := HWKK.out
      go_upto_region 14 with fail
      clear hwK hwk
      go_upto_region 17 with (first
        | (at_builtin; refine wpList_append_run rfl _ _ _ rfl rfl rfl HRUN1.out ?_)
        | (at_builtin; refine wpList_append_run rfl _ _ _ rfl rfl rfl HRUN2.out ?_))
      --@6
      clear HRUN1 HRUN2
      have hCLL : (row x 0 j ++ row y 1 j).length = j + j := by rw [List.length_append, row_length, row_length]
      have hrt := root_halves (row x 0 j) (row y 1 j) k (by rw [row_length, HK.out]) (by rw [row_length, HK.out])
      have hrm := root_more (row x 0 j ++ row y 1 j) X k (by rw [hCLL, Nat.pow_succ, HK.out]; omega)
      obtain ⟨cs, hcs⟩ : ∃ cs, row x 0 j ++ row y 1 j = cs := ⟨_, rfl⟩
      rw [hcs] at hCLL hrt hrm HCo2
      have HCL := Lib.hid hCLL
      have h32a := root_length _ HOA2.out.2
      have h32b := root_length _ HOB2.out.2
      have h32c := root_length cs HCo2.out.2
      obtain ⟨PC, hP⟩ := store_facts (rootD cs) h32c
      obtain ⟨RA, hRA, -, -, -⟩ := store_facts (rootD (row x 0 j)) h32a
      obtain ⟨RB, hRB, -, -, -⟩ := store_facts (rootD (row y 1 j)) h32b
      obtain ⟨M, hM⟩ := store_facts (nodeD (rootD cs) X) (Sha.sum_length _)
      obtain ⟨XC, hXC, hXCs, hXCi, -⟩ := store_facts X HXL.out
      have HXD : Hid (XC = (X.map u8v).toArray) := Lib.hid (Value.agg.inj hXC).symm
      have HP := Lib.hid hP; have HM := Lib.hid hM; have HXC := Lib.hid hXC; have HXI := Lib.hid hXCi; have HXSZ : Hid (XC.size = 32) := Lib.hid hXCs; have HRA := Lib.hid hRA; have HRB := Lib.hid hRB
      have HRT := Lib.hid hrt; have HRM := Lib.hid hrm; have H32 := Lib.hid (⟨h32a, h32b, h32c⟩ : _ ∧ _ ∧ _)
      clear hrt hrm h32a h32b h32c hP hRA hRB hM hXC hXCs hXCi hCLL hcs
      have HXS' := HXSZ
      have hj32 := HK32.out
      go_wp2_with fail
      --@6b
      refine (root_c we _ cs HCo2.out.ds (by rw [HCL.out]; omega) (HT.out.only HO2.out (by simp)) (HTZ.out.only HO2.out (by simp))).mono ?_
      rintro e wf ⟨rfl, hof⟩
      rw [HP.out.1]
      have HO3 := Lib.hid (HO2.out.then hof); have HBX3 := Lib.hid (HBX2.out.only hof (by simp)); have HOA3 := Lib.hid (HOA2.out.only hof (by simp)); have HOB3 := Lib.hid (HOB2.out.only hof (by simp)); have HCo3 := Lib.hid (HCo2.out.only hof (by simp))
      have HWF : Hid (wr.heap.size ≤ wf.heap.size ∧ q < wf.heap.size) := Lib.hid ⟨Nat.le_trans HSE.out hof.size, HBX3.out.lt⟩
      clear hof HO2 HBX2 HOA2 HOB2 HCo2
      go_upto_region 18 with (refine wpList_store_row rfl 25 _ _ rfl wf.heap.size PC rfl rfl _ _ (heap_alloc_new wf _) HP.out.2.2.1 (by rw [HP.out.2.1]; simp) HP.out.2.2.2 ?_)
      --@7
      generalize hg : World.setRow _ _ _ = wg
      have heg : wg = (wf.alloc (.cells (List.replicate 32 (Value.int .u8 0)).toArray 25 (0, 0))).setRow wf.heap.size PC := hg.symm.trans rfl
      have HPg : Hid (wg.heap[wf.heap.size]? = some (.cells PC 25 (0, 0))) := Lib.hid (by rw [heg]; exact setRow_heap _ _ _ PC _ _ (heap_alloc_new wf _))
      have hog : Only [] wf wg := by rw [heg]; exact ((Only.refl [] wf).alloc _).setRow (.inr (Nat.le_refl _)) PC
      have HOg := Lib.hid (HO3.out.then hog); have HBXg := Lib.hid (HBX3.out.only hog (by simp)); have HOAg := Lib.hid (HOA3.out.only hog (by simp)); have HOBg := Lib.hid (HOB3.out.only hog (by simp)); have HCog := Lib.hid (HCo3.out.only hog (by simp))
      have HCr : Hid (∀ g, (Value.slice ca (j + j) cc).ownBlock = some g → g < wf.heap.size) := Lib.hid (fun g hg => (HCo3.out.lt hg).2)
      clear hg heg hog HO3 HBX3 HOA3 HOB3 HCo3
      obtain ⟨r, hr⟩ : ∃ r, wf.heap.size = r := ⟨_, rfl⟩
      rw [hr] at HPg HCr HWF ⊢
      clear hr
      refine wp_region_M [] (by kernel_rfl) ?_
      change wpAnyM _ _ _ _ _ _ _ _ (World.drew _)
      have HOd := Lib.hid HOg.out.drew; have HPd := Lib.hid ((Only.refl [] wg).drew.heap HPg.out (by simp)); have HBXd := Lib.hid (HBXg.out.only (Only.refl [] wg).drew (by simp)); have HOAd := Lib.hid (HOAg.out.only (Only.refl [] wg).drew (by simp)); have HOBd := Lib.hid (HOBg.out.only (Only.refl [] wg).drew (by simp)); have HCod := Lib.hid (HCog.out.only (Only.refl [] wg).drew (by simp))
      generalize World.drew wg = wd at *
      clear HOg HPg HBXg HOAg HOBg HCog
      have HCa : Hid (∀ x1 : World, Only [] wd x1 → Calls Tryd.prog 11 #[.slice aa j ac] x1 fun e w' => e = .returned (.agg RA) ∧ Only [] x1 w') := Lib.hid (fun x1 ho => by
        have how := HOd.out.then ho
        have h := root_c x1 _ _ (HOAd.out.ds.only ho (by simp)) (by rw [row_length]; omega) (HT.out.only how (by simp)) (HTZ.out.only how (by simp))
        rw [HRA.out] at h
        exact h)
      have HCb : Hid (∀ x1 : World, Only [] wd x1 → Calls Tryd.prog 11 #[.slice ba j bc] x1 fun e w' => e = .returned (.agg RB) ∧ Only [] x1 w') := Lib.hid (fun x1 ho => by
        have how := HOd.out.then ho
        have h := root_c x1 _ _ (HOBd.out.ds.only ho (by simp)) (by rw [row_length]; omega) (HT.out.only how (by simp)) (HTZ.out.only how (by simp))
        rw [HRB.out] at h
        exact h)
      have HCn : Hid (∀ x1 : World, Only [] wd x1 → Calls Tryd.prog 15 #[.agg RA, .agg RB] x1 fun e w' => e = .returned (.agg PC) ∧ Only [] x1 w') := Lib.hid (fun x1 ho => by
        have how := HOd.out.then ho
        have h := node_c x1 _ _ H32.out.1 H32.out.2.1 (HT.out.only how (by simp))
        rw [← HRT.out, HRA.out, HRB.out, HP.out.1] at h
        exact h)
      have hqn : ∀ W, (binOp .neq 25 (.agg PC) (.agg PC)).run Tryd.prog W = .ok (.bool false) W := fun W => by
        have h := neq_dv (rootD cs) (rootD cs) H32.out.2.2 H32.out.2.2 W
        rw [HP.out.1, beq_self_eq_true] at h
        exact h
      have hgn : ∀ ox oy W, (eqGuard .neq 25 ox oy (.agg PC) (.agg PC)).run Tryd.prog W = .ok () W := fun ox oy W => by
        have h := guard_dv .neq (rootD cs) (rootD cs) ox oy W
        rw [HP.out.1] at h
        exact h
      --@8
      refine wpAnyM_take (i := 0) (oi := { dst := some 49, op := .load 25 (.tmp 13), type := 25, pos := "law.go:170", after := #[], guard := none }) rfl (by kernel_rfl) (by kernel_rfl) (by kernel_rfl) (YieldsOn.row (by rfl) 25 (.tmp 13) rfl r (by rfl) _ _ _ _ HPd.out (by simp) Tryd.underlying25 rfl HP.out.2.2.1) (by exact fun _ _ _ h => h) ?_
      try simp only [Act.put, List.setIfInBounds_toArray, List.set_cons_zero, List.set_cons_succ]
      refine wpAnyM_take (i := 1) (oi := { dst := some 50, op := .move (.tmp 9), type := 22, pos := "law.go:170", after := #[], guard := none }) rfl (by kernel_rfl) (by kernel_rfl) (by kernel_rfl) (YieldsOn.pure (by rfl) (by intro x; first | (go_simp; first | done | rfl) | (unfold execOp; simp only [Sem.run_bind]; go_simp; first | done | rfl))) (by exact fun _ _ _ h => h) ?_
      try simp only [Act.put, List.setIfInBounds_toArray, List.set_cons_zero, List.set_cons_succ]
      refine wpAnyM_take (i := 2) (oi := { dst := some 51, op := .call { callee := Callee.value (.func 11), args := #[.tmp 50], argTypes := #[22] }, type := 25, pos := "law.go:170", after := #[{ on := 1, ground := .data }], guard := none }) rfl (by kernel_rfl) (by kernel_rfl) (by kernel_rfl) (YieldsOn.call (by rfl) (by rfl) (by intro x; go_simp; first | done | rfl | exact ⟨rfl, rfl⟩) (fun x => HCa.out x.at' x.only)) (by exact fun _ _ _ h => h) ?_
      try simp only [Act.put, List.setIfInBounds_toArray, List.set_cons_zero, List.set_cons_succ]
      refine wpAnyM_take (i := 3) (oi := { dst := some 52, op := .move (.tmp 10), type := 22, pos := "law.go:170", after := #[], guard := none }) rfl (by kernel_rfl) (by kernel_rfl) (by kernel_rfl) (YieldsOn.pure (by rfl) (by intro x; first | (go_simp; first | done | rfl) | (unfold execOp; simp only [Sem.run_bind]; go_simp; first | done | rfl))) (by exact fun _ _ _ h => h) ?_
      try simp only [Act.put, List.setIfInBounds_toArray, List.set_cons_zero, List.set_cons_succ]
      refine wpAnyM_take (i := 4) (oi := { dst := some 53, op := .call { callee := Callee.value (.func 11), args := #[.tmp 52], argTypes := #[22] }, type := 25, pos := "law.go:170", after := #[{ on := 3, ground := .data }, { on := 2, ground := .chain }], guard := none }) rfl (by kernel_rfl) (by kernel_rfl) (by kernel_rfl) (YieldsOn.call (by rfl) (by rfl) (by intro x; go_simp; first | done | rfl | exact ⟨rfl, rfl⟩) (fun x => HCb.out x.at' x.only)) (by exact fun _ _ _ h => h) ?_
      try simp only [Act.put, List.setIfInBounds_toArray, List.set_cons_zero, List.set_cons_succ]
      refine wpAnyM_take (i := 5) (oi := { dst := some 54, op := .call { callee := Callee.value (.func 15), args := #[.tmp 51, .tmp 53], argTypes := #[25, 25] }, type := 25, pos := "law.go:170", after := #[{ on := 2, ground := .data }, { on := 4, ground := .data }, { on := 4, ground := .chain }], guard := none }) rfl (by kernel_rfl) (by kernel_rfl) (by kernel_rfl) (YieldsOn.call (by rfl) (by rfl) (by intro x; go_simp; first | done | rfl | exact ⟨rfl, rfl⟩) (fun x => HCn.out x.at' x.only)) (by exact fun _ _ _ h => h) ?_
      try simp only [Act.put, List.setIfInBounds_toArray, List.set_cons_zero, List.set_cons_succ]
      refine wpAnyM_take (i := 6) (oi := { dst := some 55, op := .binOp BinOp.neq 25 (.tmp 49) (.tmp 54) 25, type := 4, pos := "law.go:170", after := #[{ on := 0, ground := .data }, { on := 5, ground := .data }], guard := none }) rfl (by kernel_rfl) (by kernel_rfl) (by kernel_rfl) (YieldsOn.value (by rfl) (by rfl) (by intro x; first | (go_simp; first | done | rfl) | (unfold execOp; simp only [Sem.run_bind]; go_simp; first | done | rfl))) (by exact fun _ _ _ h => h) ?_
      try simp only [Act.put, List.setIfInBounds_toArray, List.set_cons_zero, List.set_cons_succ]
      refine wpAnyM_done (by kernel_rfl) (fun x9 hx9 => ?_) _
      have HOe := Lib.hid (HOd.out.then hx9); have HPe := Lib.hid (hx9.heap HPd.out (by simp)); have HBXe := Lib.hid (HBXd.out.only hx9 (by simp)); have HCoe := Lib.hid (HCod.out.only hx9 (by simp))
      clear hx9 HOd HPd HBXd HOAd HOBd HCod HCa HCb HCn hqn hgn
      go_upto_region 20 with fail
      --@9
      refine wp_region_H (fun W => W.heap[q]? = some (.cells XC 25 (0, 0)) ∧ W.heap[r]? = some (.cells PC 25 (0, 0))) (by kernel_rfl) ?_
      change wpAnyH _ _ _ _ _ _ _ _ (World.drew _)
      have HOd := Lib.hid HOe.out.drew
      have HSw : Hid (x9.drew.heap[q]? = some (.cells XC 25 (0, 0)) ∧ x9.drew.heap[r]? = some (.cells PC 25 (0, 0))) := Lib.hid ⟨by rw [HXD.out]; exact (HBXe.out.only (Only.refl [] x9).drew (by simp)), (Only.refl [] x9).drew.heap HPe.out (by simp)⟩
      have HCo := Lib.hid (HCoe.out.only (Only.refl [] x9).drew (by simp))
      generalize World.drew x9 = wd at *
      clear HOe HPe HBXe HCoe
      have HXS := HXSZ
      have HCB : Hid (wr.heap.size ≤ wd.heap.size) := Lib.hid (Nat.le_trans HWF.out.1 (Nat.le_of_lt (lt_of_block HSw.out.2)))
      have HNQ : Hid (∀ g, (g = q ∨ g = r) → g ∉ (Value.slice ca (j + j) cc).ownBlock.toList) := Lib.hid (fun g hg hm => by
        have h1 := (HCo.out.lt (c := g) (by simpa using hm)).1
        have h2 := HCr.out g (by simpa using hm)
        have := HWR.out
        rcases hg with rfl | rfl <;> omega)
      have HNW : Hid (∀ i, i ∈ (Value.slice ca (j + j) cc).ownBlock.toList → w.heap.size ≤ i) := Lib.hid (fun i hi => by have := (HCo.out.lt (c := i) (by simpa using hi)).1; have := HWR.out; have := HQ.out; omega)
      have HC7 : Hid (∀ x1 : World, Only [] w x1 → Calls Tryd.prog 15 #[.agg PC, .agg XC] x1 fun e w' => e = .returned (.agg M) ∧ Only [] x1 w') := Lib.hid (fun x1 ho => by
        have h := node_c x1 _ _ H32.out.2.2 HXL.out (HT.out.only ho (by simp))
        rw [HP.out.1, HXC.out, HM.out.1] at h
        exact h)
      have hqm : ∀ W, (binOp .eql 25 (.agg M) (.agg M)).run Tryd.prog W = .ok (.bool true) W := fun W => by
        have h := eql_dv (nodeD (rootD cs) X) (nodeD (rootD cs) X) (Sha.sum_length _) (Sha.sum_length _) W
        rw [HM.out.1, beq_self_eq_true] at h
        exact h
      have hgm : ∀ ox oy W, (eqGuard .eql 25 ox oy (.agg M) (.agg M)).run Tryd.prog W = .ok () W := fun ox oy W => by
        have h := guard_dv .eql (nodeD (rootD cs) X) (nodeD (rootD cs) X) ox oy W
        rw [HM.out.1] at h
        exact h
      --@10
      refine wpAnyHh_take (i := 0) (oi := { dst := some 56, op := .move (.tmp 12), type := 22, pos := "law.go:173", after := #[], guard := none }) rfl (by kernel_rfl) (by kernel_rfl) (by kernel_rfl) (⟨YieldsIf.val (by rfl) (by intro x hS; first | (go_simp; first | done | rfl) | (unfold execOp; simp only [Sem.run_bind]; go_simp; first | done | rfl)), HSw.out⟩) (by exact fun _ _ _ h => h) ?_
      try simp only [Act.put, List.setIfInBounds_toArray, List.set_cons_zero, List.set_cons_succ]
      refine wpAnyHh_take (i := 1) (oi := { dst := some 57, op := .load 25 (.tmp 4), type := 25, pos := "law.go:173", after := #[], guard := none }) rfl (by kernel_rfl) (by kernel_rfl) (by kernel_rfl) (⟨YieldsIf.row (by rfl) 25 (.tmp 4) rfl q (by rfl) _ _ _ _ (fun w h => h.1) Tryd.underlying25 rfl HXI.out, HSw.out⟩) (by exact fun _ _ _ h => h) ?_
      try simp only [Act.put, List.setIfInBounds_toArray, List.set_cons_zero, List.set_cons_succ]
      refine wpAnyHh_take (i := 5) (oi := { dst := some 61, op := .load 25 (.tmp 13), type := 25, pos := "law.go:173", after := #[], guard := none }) rfl (by kernel_rfl) (by kernel_rfl) (by kernel_rfl) (⟨YieldsIf.row (by rfl) 25 (.tmp 13) rfl r (by rfl) _ _ _ _ (fun w h => h.2) Tryd.underlying25 rfl HP.out.2.2.1, HSw.out⟩) (by exact fun _ _ _ h => h) ?_
      try simp only [Act.put, List.setIfInBounds_toArray, List.set_cons_zero, List.set_cons_succ]
      refine wpAnyHh_take (i := 6) (oi := { dst := some 62, op := .load 25 (.tmp 4), type := 25, pos := "law.go:173", after := #[], guard := none }) rfl (by kernel_rfl) (by kernel_rfl) (by kernel_rfl) (⟨YieldsIf.row (by rfl) 25 (.tmp 4) rfl q (by rfl) _ _ _ _ (fun w h => h.1) Tryd.underlying25 rfl HXI.out, HSw.out⟩) (by exact fun _ _ _ h => h) ?_
      try simp only [Act.put, List.setIfInBounds_toArray, List.set_cons_zero, List.set_cons_succ]
      --@h1
      refine wpAnyHh_one (i := 2) (o := { dst := some 58, op := .buildSlice 22 1 #[(0, .tmp 57)], type := 22, pos := "law.go:173", after := #[{ on := 1, ground := .data }], guard := none }) (by kernel_rfl) rfl (fun K hK => ?_)
      refine step_one_dig rfl (.tmp 57) rfl XC rfl HXS.out ?_
      refine hK _ _ ⟨((Only.refl [] wd).alloc (.cells XC 25)).heap HSw.out.1 (by simp), ((Only.refl [] wd).alloc (.cells XC 25)).heap HSw.out.2 (by simp)⟩ ?_
      clear hK K
      try simp only [Act.put, List.setIfInBounds_toArray, List.set_cons_zero, List.set_cons_succ]
      --@h2
      obtain ⟨c', x3, hrun, hod3, hg3⟩ := run_append_dig (ty := 22) (T := 25) (fr := (0, 0)) HCo.out HXL.out (by rw [HCL.out]; have := HK32.out; omega) HCB.out XC HXD.out
      have HRUN := Lib.hid hrun; have HOD3 := Lib.hid hod3
      have HSw3 : Hid (x3.heap[q]? = some (.cells XC 25 (0, 0)) ∧ x3.heap[r]? = some (.cells PC 25 (0, 0))) := Lib.hid ⟨(Only.of_grown hg3).heap (((Only.refl [] wd).alloc (.cells XC 25)).heap HSw.out.1 (by simp)) (HNQ.out q (.inl rfl)), (Only.of_grown hg3).heap (((Only.refl [] wd).alloc (.cells XC 25)).heap HSw.out.2 (by simp)) (HNQ.out r (.inr rfl))⟩
      have HO3 : Hid (Only [] w x3) := Lib.hid ((HOd.out.alloc (.cells XC 25)).trans (Only.of_grown hg3) (by simp) (fun i hi => .inr (HNW.out i hi)))
      clear hrun hod3 hg3
      refine wpAnyHh_one (i := 3) (o := { dst := some 59, op := .call { callee := Callee.builtin Builtin.append, args := #[.tmp 56, .tmp 58], argTypes := #[22, 22] }, type := 22, pos := "law.go:173", after := #[{ on := 0, ground := .data }, { on := 2, ground := .data }], guard := none }) (by kernel_rfl) rfl (fun K hK => ?_)
      refine step_append_run rfl (.tmp 56) (.tmp 58) 22 rfl rfl rfl HRUN.out ?_
      refine hK _ _ HSw3.out ?_
      clear hK K
      try simp only [Act.put, List.setIfInBounds_toArray, List.set_cons_zero, List.set_cons_succ]
      --@h3
      refine wpAnyHh_one (i := 4) (o := { dst := some 60, op := .call { callee := Callee.value (.func 11), args := #[.tmp 59], argTypes := #[22] }, type := 25, pos := "law.go:173", after := #[{ on := 3, ground := .data }, { on := 3, ground := .chain }], guard := none }) (by kernel_rfl) rfl (fun K hK => ?_)
      have HC4 : Hid (Calls Tryd.prog 11 #[c'] x3 fun e w' => e = .returned (.agg M) ∧ Only [] x3 w') := Lib.hid (by
        have h := root_c x3 c' _ HOD3.out.ds (by simp [HCL.out]; have := HK32.out; omega) (HT.out.only HO3.out (by simp)) (HTZ.out.only HO3.out (by simp))
        rw [HRM.out, HM.out.1] at h
        exact h)
      rw [if_pos (by rfl)]
      unfold Oper.wp execOp
      go_simp
      refine HC4.out.mono ?_
      rintro e x4 ⟨rfl, hox4⟩
      have HO4 := Lib.hid (HO3.out.then hox4); have HSw4 : Hid (x4.heap[q]? = some (.cells XC 25 (0, 0)) ∧ x4.heap[r]? = some (.cells PC 25 (0, 0))) := Lib.hid ⟨hox4.heap HSw3.out.1 (by simp), hox4.heap HSw3.out.2 (by simp)⟩
      refine hK _ _ HSw4.out ?_
      clear hK K
      try simp only [Act.put, List.setIfInBounds_toArray, List.set_cons_zero, List.set_cons_succ]
      --@h4
      refine wpAnyHh_one (i := 7) (o := { dst := some 63, op := .call { callee := Callee.value (.func 15), args := #[.tmp 61, .tmp 62], argTypes := #[25, 25] }, type := 25, pos := "law.go:173", after := #[{ on := 5, ground := .data }, { on := 6, ground := .data }, { on := 4, ground := .chain }], guard := none }) (by kernel_rfl) rfl (fun K hK => ?_)
      rw [if_pos (by rfl)]
      unfold Oper.wp execOp
      go_simp
      refine (HC7.out x4 HO4.out).mono ?_
      rintro e x5 ⟨rfl, hox5⟩
      have HO5 := Lib.hid (HO4.out.then hox5); have HSw5 : Hid (x5.heap[q]? = some (.cells XC 25 (0, 0)) ∧ x5.heap[r]? = some (.cells PC 25 (0, 0))) := Lib.hid ⟨hox5.heap HSw4.out.1 (by simp), hox5.heap HSw4.out.2 (by simp)⟩
      refine hK _ _ HSw5.out ?_
      clear hK K
      try simp only [Act.put, List.setIfInBounds_toArray, List.set_cons_zero, List.set_cons_succ]
      --@h7
      refine wpAnyHh_take (i := 8) (oi := { dst := some 64, op := .binOp BinOp.eql 25 (.tmp 60) (.tmp 63) 25, type := 4, pos := "law.go:173", after := #[{ on := 4, ground := .data }, { on := 7, ground := .data }], guard := none }) rfl (by kernel_rfl) (by kernel_rfl) (by kernel_rfl) (⟨YieldsIf.val (by rfl) (by intro x hS; first | (go_simp; first | done | rfl) | (unfold execOp; simp only [Sem.run_bind]; go_simp; first | done | rfl)), HSw5.out⟩) (by exact fun _ _ _ h => h) ?_
      try simp only [Act.put, List.setIfInBounds_toArray, List.set_cons_zero, List.set_cons_succ]
      refine wpAnyHh_take (i := 9) (oi := { dst := some 6, op := .assign (.tmp 64), type := 4, pos := "law.go:173", after := #[{ on := 8, ground := .data }, { on := 7, ground := .chain }, { on := 0, ground := .phase }, { on := 1, ground := .phase }, { on := 2, ground := .phase }, { on := 3, ground := .phase }, { on := 4, ground := .phase }, { on := 5, ground := .phase }, { on := 6, ground := .phase }, { on := 7, ground := .phase }, { on := 8, ground := .phase }], guard := none }) rfl (by kernel_rfl) (by kernel_rfl) (by kernel_rfl) (⟨YieldsIf.val (by rfl) (by intro x hS; first | (go_simp; first | done | rfl) | (unfold execOp; simp only [Sem.run_bind]; go_simp; first | done | rfl)), HSw5.out⟩) (by exact fun _ _ _ h => h) ?_
      try simp only [Act.put, List.setIfInBounds_toArray, List.set_cons_zero, List.set_cons_succ]
      refine wpAnyH_end (by kernel_rfl) ?_ _
      go_wp2_with fail
      go_ret
      exact ⟨rfl, HO5.out.below (by simp) (Nat.le_refl _)⟩
end Go.Proofs.YtpgcfpfmicghnaaDoor.mrk
