/-
  THE WALK of package weights: Codes.
-/
import Derived.Test.YtfckokdgmbbheaaHufDepth
import Derived.Test.YtfckokdgmbbheaaHufPairs
import Derived.Test.YtfckokdgmbbheaaHufPlain6
import Derived.OwnWalk
set_option linter.unusedVariables false
set_option linter.unusedSimpArgs false
set_option maxRecDepth 20000
namespace Go.Proofs.Ytfckokdgmbbheaa.huf
open Go Go.RowKit Go.Lm Go.Proofs.Ytfckokdgmbbheaa.bit

def cv (p : Nat × Nat) : Value × Value := (.int .i64 (p.1 : Nat), .int .i64 (p.2 : Nat))
theorem madeCells_two (x y : Value) (n : Nat) : madeCells #[x, y] (n * 2) = (pc (List.replicate n (x, y))).toArray := by
  apply Array.toList_inj.1
  apply List.ext_getElem (by simp [madeCells, pc_length]; omega)
  intro j h1 h2
  have hj : j < n * 2 := by simpa [madeCells] using h1
  have hg := pc_get (List.replicate n (x, y)) (j / 2) (by simp; omega)
  simp only [List.getElem_replicate] at hg
  have e1 : (madeCells #[x, y] (n * 2)).toList[j] = #[x, y][j % 2]! := by simp [madeCells]
  rw [e1]
  rcases Nat.mod_two_eq_zero_or_one j with h | h
  · rw [h]
    have := hg.1
    rw [show 2 * (j / 2) = j by omega] at this
    have h3 := (List.getElem?_eq_some_iff.1 this).2
    simpa using h3.symm
  · rw [h]
    have := hg.2
    rw [show 2 * (j / 2) + 1 = j by omega] at this
    have h3 := (List.getElem?_eq_some_iff.1 this).2
    simpa using h3.symm
theorem PB.made (w : World) (t : TypeId) (x y : Value) (n : Nat) : PB (w.alloc (.cells (madeCells #[x, y] (n * 2)) t)) w.heap.size t (List.replicate n (x, y)) := by
  have h : (w.alloc (.cells (madeCells #[x, y] (n * 2)) t)).heap[w.heap.size]? = some (.cells (pc (List.replicate n (x, y))).toArray t (0, 0)) := by
    rw [madeCells_two]; exact heap_alloc_new w _
  refine ⟨⟨_, _, h, by simp [pc_length], ?_⟩, fun k _ => by simp only [World.frozen?, h]; simp⟩
  rw [List.take_of_length_le (by simp [pc_length])]
theorem info_code : (Try.prog.info? 74).map (fun i => (i.zero, i.size, i.bytes)) = some (some (.agg #[.int .i64 0, .int .i64 0]), 2, 16) := by kernel_rfl
theorem make_codes (w : World) (n : Nat) (hn : n ≤ 1000000) : (Instr.makeSlice 35 (.int .i64 (n : Int)) (.int .i64 (n : Int))).run Try.prog w =
    .ok (.slice (some ⟨w.heap.size, 0, none⟩) n n) (w.alloc (.cells (madeCells #[.int .i64 0, .int .i64 0] (n * 2)) 74)) := by
  obtain ⟨i0, hi, hz0, hz1, hz2⟩ := info_parts info_code
  have := run_make (P := Try.prog) w 35 74 i0 _ Try.underlying35 hi hz0 .i64 .i64 n n (by omega) (by omega) (by rw [hz2]; omega) (by omega)
  rw [hz1] at this
  simpa [Value.cells] using this
theorem size_code : (Try.prog.info? 74).map (·.size) = some 2 := by kernel_rfl

set_option maxHeartbeats 400000 in
theorem codes_no (w : World) (v : Value) (l : List UInt8) (hv : BS w v l) (hl : l.length ≤ 1000) (h0 : Huf.dep (Huf.ns l) = 0) : Calls Try.prog 18 #[v] w fun e w' => e = .returned (.tuple #[.slice none 0 0, .int .i64 1]) ∧ w = w' := by
  have hd := depth_c w v l hv hl
  rw [h0] at hd
  have HD := Lib.hid hd
  obtain ⟨a, cap, rfl, k1, k2, k3, hc⟩ := hv
  clear hd hc h0
  go_enter Try.func18, Try.ntmps18
  go_wp2_with (go_at_call 38; refine (HD.out).mono ?_; rintro e w' ⟨rfl, rfl⟩)
  go_ret2
  exact ⟨rfl, rfl⟩

theorem part_set (L : List Nat) (d m s : Nat) (hm : m ≤ d) (hs : s < L.length) (h : L.getD s 0 = m + 1) : (Huf.part L d (m + 1) (s + 1)).map cv = ((Huf.part L d (m + 1) s).map cv).set s (.int .i64 ((d : Int) + 1 - ((m : Int) + 1)), .int .i64 ((Huf.upto L (m + 1) s / 2 ^ m : Nat) : Int)) := by
  rw [Huf.part_yes L d (m + 1) s hs h, List.map_set, Huf.cod_upto L d (m + 1) s (by omega) h]
  simp only [cv, Nat.add_sub_cancel]
  rw [show ((d + 1 - (m + 1) : Nat) : Int) = (d : Int) + 1 - ((m : Int) + 1) by omega]
theorem shr_nat (U m : Nat) : (U : Int) / 2 ^ m = ((U / 2 ^ m : Nat) : Int) := by rw [Int.natCast_ediv, Int.natCast_pow]; rfl
theorem pow_int (m : Nat) : (2 : Int) ^ m = ((2 ^ m : Nat) : Int) := by rw [Int.natCast_pow]; rfl

set_option maxHeartbeats 1000000 in
theorem codes_yes (w : World) (v : Value) (l : List UInt8) (hv : BS w v l) (hl : l.length ≤ 1000) (d : Nat) (hd : Huf.dep (Huf.ns l) = d) (h0 : d ≠ 0) : Calls Try.prog 18 #[v] w fun e w' => ∃ g, e = .returned (.tuple #[.slice (some ⟨g, 0, none⟩) l.length l.length, .int .i64 0]) ∧ PB w' g 74 ((Huf.cods (Huf.ns l) d).map cv) ∧ w.heap.size ≤ g ∧ Only [] w w' := by
  have hdc := depth_c w v l hv hl
  rw [hd] at hdc
  have hg := Huf.dep_some hd h0
  have HG := Lib.hid hg
  have hd11 := hg.eleven
  have hd1 := hg.one
  have HV := Lib.hid hv
  obtain ⟨a, cap, rfl, k1, k2, k3, hc⟩ := hv
  unfold maxLen at k2
  have HC := Lib.hid hc
  have HDC := Lib.hid hdc
  obtain ⟨L, hL⟩ : ∃ L, Huf.ns l = L := ⟨_, rfl⟩
  rw [hL] at HG ⊢
  have hLl : L.length = l.length := by rw [← hL, Huf.ns_length]
  have HGET : Hid (∀ k (h : k < l.length), L.getD k 0 = l[k].toNat) := Lib.hid (fun k h => by rw [← hL]; exact Huf.ns_getD l k h)
  have hmk := fun w => make_codes w l.length (by omega)
  have HLL := Lib.hid hLl
  clear hdc hg hc hL hd h0 hLl
  go_enter Try.func18, Try.ntmps18
  have hnz : ((d : Int) == 0) = false := by rw [beq_eq_false_iff_ne]; omega
  go_wp2_with (first | (go_at_call 38; refine (HDC.out).mono ?_; rintro e w' ⟨rfl, rfl⟩))
  obtain ⟨w1, hw1⟩ : ∃ w1, (w.alloc (.cells (madeCells #[.int .i64 0, .int .i64 0] (l.length * 2)) 74)) = w1 := ⟨_, rfl⟩
  have hpb := PB.made w 74 (.int .i64 0) (.int .i64 0) l.length
  rw [hw1] at hpb ⊢
  have hon : Only [] w w1 := by rw [← hw1]; exact (Only.refl [] w).alloc _
  obtain ⟨G, hGe⟩ : ∃ G, w.heap.size = G := ⟨_, rfl⟩
  rw [hGe] at hpb ⊢
  have HPB := Lib.hid hpb; have HON := Lib.hid hon; have HGE := Lib.hid hGe
  clear hpb hon hw1 hGe hnz hmk
  obtain ⟨wq, hwq⟩ : ∃ wq, wq = w1 := ⟨_, rfl⟩
  go_loopw [6, 7] (fun at' m wr => ∃ k : Nat, k ≤ d ∧ m = .int .i64 ((k : Int) + 1) ∧ at' = .int .i64 (Huf.upto L (k + 1) 0 : Nat) ∧ PB wr G 74 ((Huf.part L d (k + 1) 0).map cv) ∧ Only [] w wr) (fun _ m _ => d + 1 - (intOf m).toNat)
  case atStart => exact ⟨0, Nat.zero_le _, rfl, by rw [Huf.upto_zero]; rfl, by rw [Huf.part_zero, List.map_replicate, HLL.out]; exact HPB.out, HON.out⟩
  case round =>
    obtain ⟨k, hk, rfl, rfl, hpb, hon⟩ := hrel
    have HPB1 := Lib.hid hpb; have HON1 := Lib.hid hon
    clear hpb hon HPB HON
    by_cases hkd : k < d
    · have hkI : (k : Int) + 1 ≤ (d : Int) := by omega
      go_wp2
      go_loopw [6, 23] (fun at' i wr => ∃ s : Nat, s ≤ l.length ∧ i = .int .i64 s ∧ at' = .int .i64 (Huf.upto L (k + 1) s : Nat) ∧ PB wr G 74 ((Huf.part L d (k + 1) s).map cv) ∧ Only [] w wr) (fun _ i _ => l.length - (intOf i).toNat)
      case atStart => exact ⟨0, Nat.zero_le _, rfl, rfl, HPB1.out, HON1.out⟩
      case round =>
        obtain ⟨s, hs, rfl, rfl, hpb, hon⟩ := hrel
        have HPB2 := Lib.hid hpb; have HON2 := Lib.hid hon
        clear hpb hon HPB1 HON1
        by_cases hsl : s < l.length
        · obtain ⟨b, off, rfl, hcell⟩ := HC.out s hsl
          have hgt := HGET.out s hsl
          obtain ⟨u, hu⟩ : ∃ u, l[s].toNat = u := ⟨_, rfl⟩
          have hu2 : u < 256 := by rw [← hu]; exact l[s].toNat_lt
          rw [hu] at hcell hgt
          have hcell2 := HON2.out.cell hcell (by simp)
          have HGT := Lib.hid hgt
          clear hgt hu hcell
          by_cases huk : u = k + 1
          · have hLs : s < L.length := by rw [HLL.out]; exact hsl
            have hps := part_set L d k s (by omega) hLs (by rw [HGT.out, huk])
            have hup := Huf.upto_yes L (k + 1) s (by rw [HGT.out, huk])
            rw [Nat.add_sub_cancel] at hup
            have hul := Huf.upto_le HG.out.deep (k + 1) s (by omega) (by omega) (by omega)
            have hul2 := Huf.upto_le HG.out.deep (k + 1) (s + 1) (by omega) (by omega) (by omega)
            rw [hup] at hul2
            have hP : 2 ^ d ≤ 2 ^ 11 := Nat.pow_le_pow_right (by decide) hd11
            obtain ⟨U, hU⟩ : ∃ U, Huf.upto L (k + 1) s = U := ⟨_, rfl⟩
            rw [hU] at hps hup hul hul2 ⊢
            have hsh := shr_nat U k
            have hq1 : U / 2 ^ k ≤ U := Nat.div_le_self _ _
            obtain ⟨q, hq⟩ : ∃ q, U / 2 ^ k = q := ⟨_, rfl⟩
            rw [hq] at hsh hps hq1
            have hw : wrap64 ((U : Int) + wrap64 (2 ^ k)) = ((U + 2 ^ k : Nat) : Int) := by
              obtain ⟨Z, hZ⟩ : ∃ Z, 2 ^ k = Z := ⟨_, rfl⟩
              rw [hZ] at hul2
              rw [pow_int, hZ, wrap64_of (Z : Int) (by omega) (by omega), wrap64_of _ (by omega) (by omega)]; omega
            obtain ⟨R, hR⟩ : ∃ R, (Huf.part L d (k + 1) s).map cv = R := ⟨_, rfl⟩
            have hRl : R.length = l.length := by rw [← hR, List.length_map, Huf.part_length, HLL.out]
            have hpb := HPB2.out
            rw [hR] at hpb hps
            have hth : wr.there G (s * 2) 2 := by rw [Nat.mul_comm]; exact hpb.there s (by omega)
            have hset := hpb.set s (by omega) (.int .i64 ((d : Int) + 1 - ((k : Int) + 1))) (.int .i64 (q : Int))
            rw [← hps, Nat.mul_comm] at hset
            have hon2 : Only [] w (wr.setCells G (s * 2) [.int .i64 ((d : Int) + 1 - ((k : Int) + 1)), .int .i64 (q : Int)]) := by
              rw [Nat.mul_comm]
              exact HON2.out.trans (only_pair G s _ _) (by simp) (by simp; exact Nat.le_of_eq HGE.out)
            have HTH := Lib.hid hth; have HSET := Lib.hid hset; have HON3 := Lib.hid hon2; have HW := Lib.hid hw; have HUP := Lib.hid hup
            subst huk
            clear hps hup hul hul2 hP hU hq hR hRl hpb hth hset hon2 hw hq1 HPB2
            --@1
            have HOP : Hid ((#[.int .i64 ((d : Int) + 1 - ((k : Int) + 1)), .int .i64 (q : Int)] : Array Value).all (·.oneCell') = true) := Lib.hid (by simp [Value.oneCell'])
            go_wp2_with (refine wpList_store_mid rfl 74 _ _ rfl G (s * 2) #[.int .i64 ((d : Int) + 1 - ((k : Int) + 1)), .int .i64 (q : Int)] rfl rfl HTH.out size_code HOP.out ?_)
            --@2
            go_roundw
            case rel => exact ⟨s + 1, by omega, by go_num, by rw [HUP.out, ← HW.out], HSET.out, HON3.out⟩
            case measure => simp [intOf]; omega
          · have hn := Huf.part_not L d (k + 1) s (by rw [HGT.out]; exact huk)
            have hun := Huf.upto_not L (k + 1) s (by rw [HGT.out]; exact huk)
            have huI : ((u : Int) != (k : Int) + 1) = true := by rw [bne_iff_ne]; omega
            go_wp2
            go_roundw
            case rel => exact ⟨s + 1, by omega, by go_num, by rw [hun], by rw [hn]; exact HPB2.out, HON2.out⟩
            case measure => simp [intOf]; omega
        · obtain rfl : s = l.length := by omega
          go_wp2
          go_roundw
          case rel => exact ⟨k + 1, by omega, by go_num, by rw [← HLL.out, Huf.upto_next L (k + 1) (by omega)], by rw [← Huf.part_next, HLL.out]; exact HPB2.out, HON2.out⟩
          case measure => simp [intOf]; omega
    · obtain rfl : k = d := by omega
      go_wp2
      go_ret2
      refine ⟨_, rfl, ?_, Nat.le_of_eq HGE.out, HON1.out⟩
      rw [← Huf.part_all HG.out.deep.le]
      exact HPB1.out
end Go.Proofs.Ytfckokdgmbbheaa.huf
