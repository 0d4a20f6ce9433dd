/-
  THE WALK of the reference's Codes.
-/
import Derived.Test.YtfckokdgmbbheaaHufRefD
import Derived.Test.YtfckokdgmbbheaaHufCodes
import Derived.Test.YtfckokdgmbbheaaHufPlain6
set_option linter.unusedVariables false
set_option linter.unusedSimpArgs false
set_option maxRecDepth 20000
namespace Go.Proofs.Ytfckokdgmbbheaa.huf
open Go Go.RowKit Go.Lm Go.Proofs.Ytfckokdgmbbheaa.bit

/-- 'append(v, p)' of a pair, one's own. -/
theorem run_append_pair {P : Program} {w : World} {B : Nat} {t ty e : TypeId} {i : TypeInfo} {z : Value} {bytes : Nat} (ht : P.underlying t = some (.slice e)) (hi : P.info? e = some i) (hz : i.zero = some z) (hsize : i.size = 2) (hby : i.bytes = bytes) (hzs : z.cells.size = 2)
    {v : Value} {n : Nat} {l : List Value} {x y : Value} (hown : w.ownsRow B e 2 v n l) (h1 : x.oneCell' = true) (h2 : y.oneCell' = true) (h63 : n + 1 ≤ maxLen) (hbytes : (n + 1) * bytes ≤ 140737488355328) (hbase : B ≤ w.heap.size) {T : TypeId} :
    ∃ v' w', (Builtin.append_ #[t, t] ty #[v, .slice (some ⟨w.heap.size, 0, none⟩) 1 1]).run P (w.alloc (.cells #[x, y] T (0, 0))) = .ok v' w' ∧ w'.ownsRow B e 2 v' (n + 1) (l ++ [x, y]) ∧ (w.alloc (.cells #[x, y] T (0, 0))).grownBy w' v.ownBlock := by
  have hp := P2.cells (P2.new w T x y)
  have hnews : ∀ j u, [x, y][j]? = some u → (w.alloc (.cells #[x, y] T (0, 0))).cell? ((⟨w.heap.size, 0, none⟩ : Addr).add j) = some u := by
    intro j u hj
    match j, hj with
    | 0, hj =>
      simp at hj
      subst hj
      rw [add_none]
      exact hp.1
    | 1, hj =>
      simp at hj
      subst hj
      rw [add_none]
      exact hp.2.1
  obtain ⟨v', w', hrun, ho, hg, _⟩ := run_append_own (P := P) (w := w.alloc (.cells #[x, y] T (0, 0))) (ty := ty) B t e i z 2 bytes ht hi hz hsize hby hzs (by decide) v n l (hown.alloc _) ⟨w.heap.size, 0, none⟩ 1 1 [x, y] rfl hnews (by intro u hu; simp at hu; rcases hu with rfl | rfl <;> assumption) h63 hbytes (by simp; omega)
  exact ⟨v', w', hrun, ho, hg⟩
theorem PB.of_row {w : World} {B : Nat} {e : TypeId} {v : Value} {n : Nat} {ps : List (Value × Value)} (h : w.ownsRow B e 2 v n (pc ps)) (hn : 0 < n) : ∃ g cap, v = .slice (some ⟨g, 0, none⟩) n cap ∧ PB w g e ps ∧ B ≤ g ∧ n ≤ cap ∧ cap ≤ maxLen ∧ ps.length = n := by
  have h0 := h.1
  rw [pc_length] at h0
  have h2 : ps.length = n := by omega
  rcases h.2 with ⟨_, h⟩ | ⟨g, cap, cur, rfl, hb, hg, hc, hm, hs, ht⟩
  · omega
  · refine ⟨g, cap, rfl, ⟨⟨cur, _, hg, by omega, by rw [h2, Nat.mul_comm]; exact ht⟩, fun k _ => by simp only [World.frozen?, hg]; simp⟩, hb, hc, hm, h2⟩
theorem info_c8 : (Try.prog.info? 88).map (fun i => (i.zero, i.size, i.bytes)) = some (some (.agg #[.int .i64 0, .int .i64 0]), 2, 16) := by kernel_rfl
theorem size_c8 : (Try.prog.info? 88).map (·.size) = some 2 := by kernel_rfl

set_option maxHeartbeats 400000 in
theorem refcodes_no (w : World) (s : ByteArray) (hs : s.size ≤ 1000) (h0 : Huf.dep (Huf.ns s.data.toList) = 0) : Calls Try.prog 27 #[.string s] w fun e w' => e = .returned (.tuple #[.slice none 0 0, .int .i64 1]) ∧ w = w' := by
  have hd := refdepth_c w s hs
  rw [h0] at hd
  have HD := Lib.hid hd
  clear hd h0
  go_enter Try.func27, Try.ntmps27
  go_wp2_with (go_at_call 16; refine (HD.out).mono ?_; rintro e w' ⟨rfl, rfl⟩)
  go_ret2
  exact ⟨rfl, rfl⟩

set_option maxHeartbeats 2000000 in
theorem refcodes_yes (w : World) (s : ByteArray) (hs : s.size ≤ 1000) (d : Nat) (hd : Huf.dep (Huf.ns s.data.toList) = d) (h0 : d ≠ 0) : Calls Try.prog 27 #[.string s] w fun e w' => ∃ g cap, e = .returned (.tuple #[.slice (some ⟨g, 0, none⟩) s.size cap, .int .i64 0]) ∧ PB w' g 88 ((Huf.cods (Huf.ns s.data.toList) d).map cv) ∧ w.heap.size ≤ g ∧ s.size ≤ cap ∧ cap ≤ maxLen ∧ Only [] w w' := by
  have hdc := refdepth_c w s hs
  rw [hd] at hdc
  have hls : s.data.toList.length = s.size := len_data s
  have hgood := Huf.dep_some hd h0
  obtain ⟨l, hl⟩ : ∃ l, s.data.toList = l := ⟨_, rfl⟩
  have hget : ∀ k (h : k < s.size), ∃ h' : k < l.length, l[k] = s[k] := by subst hl; exact str_get s
  simp only [hl] at hls hgood ⊢
  have hd11 := hgood.eleven
  have hd1 := hgood.one
  have h2 := hgood.two
  rw [Huf.ns_length, hls] at h2
  obtain ⟨L, hL⟩ : ∃ L, Huf.ns l = L := ⟨_, rfl⟩
  rw [hL] at hgood ⊢
  have hLl : L.length = s.size := by rw [← hL, Huf.ns_length, hls]
  have HGET : Hid (∀ k (h : k < s.size), L.getD k 0 = s[k].toNat) := Lib.hid (fun k h => by
    obtain ⟨h1, h2⟩ := hget k h
    rw [← hL, ← h2]; exact Huf.ns_getD l k h1)
  obtain ⟨i0, hi, hz0, hz1, hz2⟩ := info_parts info_c8
  have HI := Lib.hid hi; have HZ0 := Lib.hid hz0; have HZ1 := Lib.hid hz1; have HZ2 := Lib.hid hz2
  have HDC := Lib.hid hdc; have HG := Lib.hid hgood; have HLL := Lib.hid hLl
  obtain ⟨B, hB⟩ : ∃ B, w.heap.size = B := ⟨_, rfl⟩
  rw [hB]
  have HB := Lib.hid hB
  clear hdc hgood hLl hL hget hls hd hl hi hz0 hz1 hz2 hB
  have hnz : ((d : Int) == 0) = false := by rw [beq_eq_false_iff_ne]; omega
  go_enter Try.func27, Try.ntmps27
  go_wp2_with (go_at_call 16; refine (HDC.out).mono ?_; rintro e w' ⟨rfl, rfl⟩)
  clear hnz
  go_loopw [5, 6] (fun o i wr => ∃ k : Nat, k ≤ s.size ∧ i = .int .i64 k ∧ wr.ownsRow B 88 2 o k (pc (List.replicate k (cv (0, 0)))) ∧ Only [] w wr) (fun _ i _ => s.size - (intOf i).toNat)
  case atStart => exact ⟨0, Nat.zero_le _, rfl, World.ownsRow_nil _ _ _ _, Only.refl _ _⟩
  case round =>
    obtain ⟨k, hk, rfl, hrow, hon⟩ := hrel
    have HROW := Lib.hid hrow; have HON := Lib.hid hon
    clear hrow hon
    by_cases hks : k < s.size
    · obtain ⟨v', w3, hrun, hrow4, hg⟩ := run_append_pair (P := Try.prog) (ty := 54) (T := 88) (x := .int .i64 0) (y := .int .i64 0) Try.underlying54 HI.out HZ0.out HZ1.out HZ2.out rfl HROW.out rfl rfl (by unfold maxLen; omega) (by omega) (by have := HON.out.size; have := HB.out; omega)
      have HO3 : Hid (Only [] w w3) := by
        have h1 := HON.out.alloc (.cells #[.int .i64 0, .int .i64 0] 88 (0, 0))
        refine h1.trans (Only.of_grown hg) (by simp) (fun i hi => .inr ?_)
        have hu : u5.ownBlock = some i := by
          cases hu : u5.ownBlock with
          | none => rw [hu] at hi; simp at hi
          | some g => rw [hu] at hi; simp at hi; rw [hi]
        have := (World.ownsRow.lt HROW.out i hu).1
        have := HB.out
        omega
      have HRUN := Lib.hid hrun; have HROW4 := Lib.hid hrow4
      clear hrun hrow4 hg
      go_wp2_with (at_builtin; refine wpList_append_run rfl _ _ _ rfl rfl rfl HRUN.out ?_)
      go_roundw
      case rel =>
        refine ⟨k + 1, by omega, by go_num, ?_, HO3.out⟩
        rw [List.replicate_succ', pc_append]
        exact HROW4.out
      case measure => simp [intOf]; omega
    · obtain rfl : k = s.size := by omega
      obtain ⟨g, cap, rfl, hpb, hBg, hcap, hcm, -⟩ := PB.of_row HROW.out (by omega)
      have HPB0 := Lib.hid hpb; have HBG := Lib.hid hBg; have HCAP := Lib.hid (And.intro hcap hcm)
      have hcm2 := hcm
      unfold maxLen at hcm2
      clear hpb HROW hBg hcm
      obtain ⟨wq, hwq⟩ : ∃ wq, wq = wr := ⟨_, rfl⟩
      subst hwq
      go_wp2
      --@1
      go_loopw [7, 8, 9] (fun c b m wr => ∃ k C B' : Nat, k ≤ d ∧ m = .int .i64 ((k : Int) + 1) ∧ c = .int .i64 (C : Int) ∧ b = .int .i64 (B' : Int) ∧ Huf.Run L d (k + 1) 0 C B' ∧ PB wr g 88 ((Huf.part L d (k + 1) 0).map cv) ∧ Only [] w wr) (fun _ _ m _ => d + 1 - (intOf m).toNat)
      case atStart => exact ⟨0, 0, 0, Nat.zero_le _, rfl, rfl, rfl, Huf.run_zero _ _, by rw [Huf.part_zero, List.map_replicate, HLL.out]; exact HPB0.out, HON.out⟩
      case round =>
        obtain ⟨k, C00, b00, hk, rfl, rfl, rfl, hrun, hpb, hon⟩ := hrel
        have HRUN1 := Lib.hid hrun; have HPB1 := Lib.hid hpb; have HON1 := Lib.hid hon
        clear hrun hpb hon HPB0 HON
        by_cases hkd : k < d
        · have hkI : (k : Int) + 1 ≤ (d : Int) := by omega
          go_wp2
          --@2
          go_loopw [7, 8, 10] (fun c b i wr => ∃ j C B' : Nat, j ≤ s.size ∧ i = .int .i64 (j : Int) ∧ c = .int .i64 (C : Int) ∧ b = .int .i64 (B' : Int) ∧ Huf.Run L d (k + 1) j C B' ∧ PB wr g 88 ((Huf.part L d (k + 1) j).map cv) ∧ Only [] w wr) (fun _ _ i _ => s.size - (intOf i).toNat)
          case atStart => exact ⟨0, C00, b00, Nat.zero_le _, rfl, rfl, rfl, HRUN1.out, HPB1.out, HON1.out⟩
          case round =>
            clear HRUN1 HPB1 HON1
            obtain ⟨j, C, b0, hj, rfl, rfl, rfl, hrun, hpb, hon⟩ := hrel
            have HRUN2 := Lib.hid hrun; have HPB2 := Lib.hid hpb; have HON2 := Lib.hid hon
            clear hrun hpb hon
            by_cases hjs : j < s.size
            · have hgt := HGET.out j hjs
              obtain ⟨u, hu⟩ : ∃ u, s[j].toNat = u := ⟨_, rfl⟩
              have hu2 : u < 256 := by rw [← hu]; exact UInt8.toNat_lt _
              rw [hu] at hgt
              have HGT := Lib.hid hgt
              clear hgt
              by_cases huk : u = k + 1
              · obtain ⟨hq, hge, hbd, hcb, hnx⟩ := Huf.run_yes HG.out.deep (by omega) (by omega) (by rw [HGT.out, huk]) HRUN2.out
                have hP : 2 ^ d ≤ 2 ^ 11 := Nat.pow_le_pow_right (by decide) hd11
                have hnx := hnx (by rw [HLL.out]; omega)
                rw [Nat.add_sub_cancel] at hq hnx
                obtain ⟨q, hqe⟩ : ∃ q, Huf.upto L (k + 1) j / 2 ^ k = q := ⟨_, rfl⟩
                rw [hqe] at hq hnx
                have HU := Lib.hid hqe; have HNX := Lib.hid hnx
                clear hqe hnx
                have hnow : d + 1 - (k + 1) = d - k := by omega
                rw [hnow] at hq hge
                clear hnow
                by_cases hb : 0 < b0
                · rw [if_pos hb] at hq hcb
                  have hge := hge hb
                  have HQ := Lib.hid hq
                  have hcb2 : C + 1 ≤ 2048 := Nat.le_trans hcb hP
                  clear hq hcb hP
                  --@3
                  go_wp2
                  go_loop [7, 8] (fun c b => ∃ t : Nat, t ≤ b0 - (d - k) ∧ c = .int .i64 (((C + 1) / 2 ^ t : Nat) : Int) ∧ b = .int .i64 ((b0 - t : Nat) : Int)) (fun _ b => (intOf b).toNat)
                  case atStart => exact ⟨0, Nat.zero_le _, by simp, rfl⟩
                  case round =>
                    obtain ⟨t, ht, rfl, rfl⟩ := hrel
                    have hyl : (C + 1) / 2 ^ t ≤ C + 1 := Nat.div_le_self _ _
                    by_cases htl : t < b0 - (d - k)
                    · have hy : (C + 1) / 2 ^ (t + 1) = (C + 1) / 2 ^ t / 2 := by rw [Nat.div_div_eq_div_mul, Nat.pow_succ]
                      obtain ⟨y, hye⟩ : ∃ y, (C + 1) / 2 ^ t = y := ⟨_, rfl⟩
                      rw [hye] at hy hyl ⊢
                      obtain ⟨z, hze⟩ : ∃ z, b0 - t = z := ⟨_, rfl⟩
                      rw [hze]
                      have hz1 : (d : Int) + 1 - ((k : Int) + 1) < (z : Int) := by omega
                      have hz2 : z ≤ 11 := by omega
                      have hz3 : 1 ≤ z := by omega
                      have HY := Lib.hid hy; have HZ := Lib.hid hze
                      clear hy hye hze
                      go_wp2
                      go_round
                      case rel => exact ⟨t + 1, by omega, by rw [HY.out]; go_num, by have := HZ.out; go_num⟩
                      case measure => simp [intOf]; omega
                    · obtain rfl : t = b0 - (d - k) := by omega
                      rw [HQ.out] at hyl ⊢
                      have hz : b0 - (b0 - (d - k)) = d - k := by omega
                      rw [hz]
                      have hz1 : ((d - k : Nat) : Int) = (d : Int) + 1 - ((k : Int) + 1) := by omega
                      rw [hz1]
                      clear hz hz1
                      --@4
                      have hps := part_set L d k j (by omega) (by rw [HLL.out]; exact hjs) (by rw [HGT.out, huk])
                      rw [HU.out] at hps
                      have hth : wr.there g (j * 2) 2 := by rw [Nat.mul_comm]; exact HPB2.out.there j (by rw [List.length_map, Huf.part_length, HLL.out]; exact hjs)
                      have hset := HPB2.out.set j (by rw [List.length_map, Huf.part_length, HLL.out]; exact hjs) (.int .i64 ((d : Int) + 1 - ((k : Int) + 1))) (.int .i64 (q : Int))
                      rw [← hps, Nat.mul_comm] at hset
                      have hon2 : Only [] w (wr.setCells g (j * 2) [.int .i64 ((d : Int) + 1 - ((k : Int) + 1)), .int .i64 (q : Int)]) := by
                        rw [Nat.mul_comm]
                        exact HON2.out.trans (only_pair g j _ _) (by simp) (by have := HBG.out; have := HB.out; simp; omega)
                      have HOP : Hid ((#[.int .i64 ((d : Int) + 1 - ((k : Int) + 1)), .int .i64 (q : Int)] : Array Value).all (·.oneCell') = true) := Lib.hid (by simp [Value.oneCell'])
                      have HTH := Lib.hid hth; have HSET := Lib.hid hset; have HON3 := Lib.hid hon2
                      clear hps hth hset hon2
                      go_wp2_with (refine wpList_store_mid rfl 88 _ _ rfl g (j * 2) #[.int .i64 ((d : Int) + 1 - ((k : Int) + 1)), .int .i64 (q : Int)] rfl rfl HTH.out size_c8 HOP.out ?_)
                      --@5
                      go_roundw
                      case rel => exact ⟨j + 1, q, d + 1 - (k + 1), by omega, by go_num, rfl, by congr 1; omega, HNX.out, HSET.out, HON3.out⟩
                      case measure => simp [intOf]; omega
                · have hb0 : b0 = 0 := by omega
                  subst hb0
                  rw [if_neg hb] at hq
                  have hC : C = q := by rw [← hq]; simp
                  have hC0 : q ≤ 2048 := by rw [← hC]; rw [if_neg hb] at hcb; omega
                  clear hq hcb hP hge hbd hb
                  rw [hC] at HRUN2 ⊢
                  clear hC
                  --@6
                  go_wp2
                  go_loop [7, 8] (fun c b => c = .int .i64 (q : Int) ∧ b = .int .i64 0) (fun _ _ => 0)
                  case atStart => exact ⟨rfl, rfl⟩
                  case round =>
                    obtain ⟨rfl, rfl⟩ := hrel
                    have hps := part_set L d k j (by omega) (by rw [HLL.out]; exact hjs) (by rw [HGT.out, huk])
                    rw [HU.out] at hps
                    have hth : wr.there g (j * 2) 2 := by rw [Nat.mul_comm]; exact HPB2.out.there j (by rw [List.length_map, Huf.part_length, HLL.out]; exact hjs)
                    have hset := HPB2.out.set j (by rw [List.length_map, Huf.part_length, HLL.out]; exact hjs) (.int .i64 ((d : Int) + 1 - ((k : Int) + 1))) (.int .i64 (q : Int))
                    rw [← hps, Nat.mul_comm] at hset
                    have hon2 : Only [] w (wr.setCells g (j * 2) [.int .i64 ((d : Int) + 1 - ((k : Int) + 1)), .int .i64 (q : Int)]) := by
                      rw [Nat.mul_comm]
                      exact HON2.out.trans (only_pair g j _ _) (by simp) (by have := HBG.out; have := HB.out; simp; omega)
                    have HOP : Hid ((#[.int .i64 ((d : Int) + 1 - ((k : Int) + 1)), .int .i64 (q : Int)] : Array Value).all (·.oneCell') = true) := Lib.hid (by simp [Value.oneCell'])
                    have HTH := Lib.hid hth; have HSET := Lib.hid hset; have HON3 := Lib.hid hon2
                    clear hps hth hset hon2
                    go_wp2_with (refine wpList_store_mid rfl 88 _ _ rfl g (j * 2) #[.int .i64 ((d : Int) + 1 - ((k : Int) + 1)), .int .i64 (q : Int)] rfl rfl HTH.out size_c8 HOP.out ?_)
                    --@5
                    go_roundw
                    case rel => exact ⟨j + 1, q, d + 1 - (k + 1), by omega, by go_num, rfl, by congr 1; omega, HNX.out, HSET.out, HON3.out⟩
                    case measure => simp [intOf]; omega
              · have hn := Huf.part_not L d (k + 1) j (by rw [HGT.out]; exact huk)
                have hrn := Huf.run_not (d := d) (code := C) (bits := b0) (by rw [HGT.out]; exact huk) HRUN2.out
                have huI : ((u : Int) != (k : Int) + 1) = true := by rw [bne_iff_ne]; omega
                have HN := Lib.hid hn; have HRN := Lib.hid hrn
                clear hn hrn
                go_wp2
                go_roundw
                case rel => exact ⟨j + 1, C, b0, by omega, by go_num, rfl, rfl, HRN.out, by rw [HN.out]; exact HPB2.out, HON2.out⟩
                case measure => simp [intOf]; omega
            · obtain rfl : j = s.size := by omega
              go_wp2
              go_roundw
              case rel => exact ⟨k + 1, C, b0, by omega, by go_num, rfl, rfl, by have := HRUN2.out; rw [← HLL.out] at this; exact Huf.run_next (by omega) this, by rw [← Huf.part_next, HLL.out]; exact HPB2.out, HON2.out⟩
              case measure => simp [intOf]; omega
        · obtain rfl : k = d := by omega
          go_wp2
          go_ret2
          refine ⟨g, cap, rfl, ?_, HBG.out, HCAP.out.1, HCAP.out.2, HON1.out⟩
          rw [← Huf.part_all HG.out.deep.le]
          exact HPB1.out
end Go.Proofs.Ytfckokdgmbbheaa.huf
