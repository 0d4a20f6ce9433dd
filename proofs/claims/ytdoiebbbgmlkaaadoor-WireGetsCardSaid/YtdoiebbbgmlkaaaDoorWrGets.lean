/-
  THE WALK of WireGets.
-/
import Derived.Test.YtdoiebbbgmlkaaaDoorWrAwake
import Derived.Test.YtdoiebbbgmlkaaaDoorWrRef
set_option linter.unusedVariables false
set_option linter.unusedSimpArgs false
namespace Go.Proofs.YtdoiebbbgmlkaaaDoor.wr
open Go Go.RowKit Go.Lm Go.Proofs.YtdoiebbbgmlkaaaDoor.cur Go.Proofs.YtdoiebbbgmlkaaaDoor.crc Go.Proofs.YtdoiebbbgmlkaaaDoor.bit

/-- A store into one's own bytes. -/
theorem own_put {w : World} {B g n cap : Nat} {e : TypeId} {l : List UInt8} (h : OV w B e (.slice (some ⟨g, 0, none⟩) n cap) (l.map u8v)) (hn : l.length = n) (j : Nat) (u : UInt8) :
    OV (w.setCell ⟨g, j, none⟩ (u8v u)) B e (.slice (some ⟨g, 0, none⟩) n cap) ((l.set j u).map u8v) ∧ Only [g] w (w.setCell ⟨g, j, none⟩ (u8v u)) := by
  subst hn
  have h' : w.ownsRow B e 1 (.slice (some ⟨g, 0, none⟩) l.length cap) l.length (l.map u8v) := by
    have := h; unfold OV at this; rwa [List.length_map] at this
  obtain ⟨h1, h2⟩ := World.ownsRow.stored h' j (u8v u)
  refine ⟨?_, Only.of_grown h2⟩
  unfold OV
  rw [List.length_map, List.length_set, List.map_set]
  exact h1
theorem own_at {w : World} {B g n cap : Nat} {e : TypeId} {l : List UInt8} (h : OV w B e (.slice (some ⟨g, 0, none⟩) n cap) (l.map u8v)) (hn : l.length = n) (j : Nat) (hj : j < l.length) :
    w.cell? ⟨g, j, none⟩ = some (.int .u8 (l[j].toNat : Int)) ∧ w.frozen? ⟨g, j, none⟩ = false := by
  subst hn
  have h' : w.ownsRow B e 1 (.slice (some ⟨g, 0, none⟩) l.length cap) l.length (l.map u8v) := by
    have := h; unfold OV at this; rwa [List.length_map] at this
  refine ⟨?_, World.ownsRow.frozenAt h' j⟩
  rw [World.ownsRow.cellAt h' j (by omega)]
  simp [hj, u8v]
theorem put_any {w : World} {B g n cap : Nat} {e : TypeId} {l : List UInt8} (h : OV w B e (.slice (some ⟨g, 0, none⟩) n cap) (l.map u8v)) (hn : l.length = n) (j : Nat) (x : Int) (h0 : 0 ≤ x) (h1 : x < 256) :
    ∃ c : List UInt8, c.length = n ∧ OV (w.setCell ⟨g, j, none⟩ (.int .u8 x)) B e (.slice (some ⟨g, 0, none⟩) n cap) (c.map u8v) ∧ Only [g] w (w.setCell ⟨g, j, none⟩ (.int .u8 x)) := by
  obtain ⟨u, hu, _⟩ := u8_of h0 h1
  rw [hu]
  obtain ⟨a, b⟩ := own_put h hn j u
  exact ⟨l.set j u, by rw [List.length_set]; exact hn, a, b⟩
theorem shr_u32 (x k : Nat) (hk : k < 4) : IntKind.u8.wrap ((x : Int) / 2 ^ (8 * k)) = ((UInt8.ofNat (x / 256 ^ k)).toNat : Int) := by
  have e : (x : Int) / 2 ^ (8 * k) = ((x / 256 ^ k : Nat) : Int) := by
    rw [Int.natCast_ediv, Cur.pow256, Int.natCast_pow]
    rfl
  rw [e, IntKind.wrap_u8, UInt8.toNat_ofNat']
  rfl

/-- What stands behind the bytes that are asked: the rest of the law. -/
def restQ (w : World) (e : Ending) (w' : World) : Prop := e = .returned (.bool true) ∧ Below w.heap.size w w'

theorem mval_eq (m : Wr.Msg) (s t : ByteArray) (hs : s.data.toList = m.bytes) (ht : t.data.toList = m.bytes) : s = t := by
  apply ByteArray.ext
  apply Array.toList_inj.1
  rw [hs, ht]

set_option maxRecDepth 100000 in
set_option maxHeartbeats 8000000 in
theorem gets_c (w : World) (hT : Tab w) (v : Value) (l : List UInt8) (hv : BS w v l) (fix : Bool) :
    Calls Tryd.prog 4 #[v, .bool fix] w fun e w' => e = .returned (.bool true) ∧ Below w.heap.size w w' := by
  have HT := Lib.hid hT; have HV := Lib.hid hv
  obtain ⟨a, cap, hve, h1, h2, -, -⟩ := hv
  obtain ⟨n, hn⟩ : ∃ n, l.length = n := ⟨_, rfl⟩
  rw [hn] at hve h1
  subst hve
  unfold maxLen at h2
  have HN := Lib.hid hn
  clear hT hn
  obtain ⟨i0, hi, hz0, hz1, hz2⟩ := info_parts cur.info_u8
  have HI := Lib.hid hi; have HZ0 := Lib.hid hz0; have HZ1 := Lib.hid hz1; have HZ2 := Lib.hid hz2
  clear hi hz0 hz1 hz2
  go_enter Tryd.func4, Tryd.ntmps4
  go_wp2_with fail
  refine (awake_c w HT.out).mono ?_
  rintro e w1 ⟨rfl, ho1⟩
  have HO1 := Lib.hid ho1
  have hv1 := HV.out.only ho1 (by simp)
  have HT1 := Lib.hid (HT.out.only HO1.out (by simp))
  clear ho1
  by_cases hbig : 600 < n
  · have hb : (600 : Int) < (n : Int) := by omega
    go_wp2
    go_ret
    exact ⟨rfl, HO1.out.below (by simp) (Nat.le_refl _)⟩
  have hb1 : ¬ ((600 : Int) < (n : Int)) := by omega
  have hn600 : n ≤ 600 := by omega
  clear hbig
  obtain ⟨v2, w2, hrun, hov, hg⟩ := run_append_vs (P := Tryd.prog) (ty := 24) Tryd.underlying24 HI.out HZ0.out HZ1.out HZ2.out rfl (OV.nil w1 w1.heap.size 5) (VS.of_bs hv1) (cur.u8s_one l) (by simp [HN.out]; unfold maxLen; omega) (by simp [HN.out]; omega) (Nat.le_refl _)
  rw [List.nil_append] at hov
  have ho2 : Only [] w1 w2 := by simpa [Value.ownBlock] using Only.of_grown hg
  have HRUN := Lib.hid hrun
  have HO2 := Lib.hid (HO1.out.then ho2)
  have hov := hov.mono HO1.out.size
  obtain ⟨a2, cap2, rfl, k1, k2⟩ := hov.slice
  simp only [List.length_map, HN.out] at k1 k2 hov HRUN
  unfold maxLen at k2
  have HOV2 := Lib.hid hov
  clear hrun hg ho2 hov hv1
  --@1
  by_cases hgo : fix = true ∧ 4 ≤ n
  · obtain ⟨rfl, hn4⟩ := hgo
    have hn4I : (4 : Int) ≤ (n : Int) := by omega
    obtain ⟨g, rfl⟩ : ∃ g, a2 = some ⟨g, 0, none⟩ := by
      rcases HOV2.out.2 with ⟨h0, h1⟩ | ⟨g, cap', cur, h0, _⟩
      · simp [HN.out] at h1; omega
      · simp only [Value.slice.injEq] at h0
        exact ⟨g, h0.1⟩
    have HGW : Hid (w.heap.size ≤ g) := Lib.hid (HOV2.out.lt (c := g) rfl).1
    obtain ⟨n4, hn4e⟩ : ∃ n4, n = n4 + 4 := ⟨n - 4, by omega⟩
    have hbt := bs_take (BS.of_vs HOV2.out.vs) n4 (by rw [HN.out]; omega)
    have hstr := run_string_of_bytes (P := Tryd.prog) Tryd.underlying24 Tryd.underlying5 Tryd.underlying9 hbt
    obtain ⟨S0, hS0⟩ : ∃ S : ByteArray, (⟨(l.take n4).toArray⟩ : ByteArray) = S := ⟨_, rfl⟩
    have hSl0 : S0.data.toList = l.take n4 := by rw [← hS0]
    have hSz0 : S0.size ≤ 1000 := by rw [← len_data, hSl0, List.length_take]; omega
    rw [hS0] at hstr
    have hsub4 : n - 4 = n4 := by omega
    clear hS0 hbt
    --@c1
    subst hn4e
    go_wp2_with (at_builtin; refine wpList_append_run rfl _ _ _ rfl rfl rfl HRUN.out ?_)
    --@c2
    refine (ref_c S0 _ (by omega)).mono ?_
    rintro e w' ⟨rfl, rfl⟩
    have hsum : Crc.sum S0.data.toList ≤ 4294967295 := Nat.sub_le _ _
    obtain ⟨X, hX⟩ : ∃ X, Crc.sum S0.data.toList = X := ⟨_, rfl⟩
    rw [hX] at hsum ⊢
    clear hX hstr hSl0
    go_wp2_with fail
    --@c3
    go_loopw [8] (fun i wr => ∃ (k : Nat) (c : List UInt8), k ≤ 4 ∧ i = .int .i64 (k : Nat) ∧ c.length = n4 + 4 ∧ OV wr w.heap.size 5 (.slice (some ⟨g, 0, none⟩) (n4 + 4) cap2) (c.map u8v) ∧ Only [] w wr) (fun i _ => 4 - (intOf i).toNat)
    case atStart => exact ⟨0, l, by decide, rfl, HN.out, HOV2.out, HO2.out⟩
    case round =>
      obtain ⟨k, c, hk, rfl, hcl, hovr, hor⟩ := hrel
      have HCL0 := Lib.hid hcl; have HOVR := Lib.hid hovr; have HOR := Lib.hid hor
      clear hcl hovr hor
      by_cases hlt : k < 4
      · obtain ⟨hc1, hf1⟩ := own_at HOVR.out HCL0.out (n4 + k) (by rw [HCL0.out]; omega)
        have hk3 : k = 0 ∨ k = 1 ∨ k = 2 ∨ k = 3 := by omega
        generalize hcc : c[n4 + k]'_ = cc at hc1
        clear hcc
        rcases hk3 with rfl | rfl | rfl | rfl
        · rw [show ((0 : Nat) : Int) = 0 from rfl]
          (try rw [Nat.add_zero] at hc1 hf1)
          go_wp2_with fail
          have h := put_any HOVR.out HCL0.out (n4) ((X : Int) % 256) (by omega) (by omega)
          obtain ⟨c', hl', hov', hos'⟩ := h
          exact ⟨⟨1, c', by decide, rfl, hl', hov', Lm.only_own HOR.out hos' HGW.out⟩, by decide⟩
        · rw [show ((1 : Nat) : Int) = 1 from rfl]
          (try rw [Nat.add_zero] at hc1 hf1)
          go_wp2_with fail
          have h := put_any HOVR.out HCL0.out (n4 + 1) ((X : Int) / 256 % 256) (by omega) (by omega)
          obtain ⟨c', hl', hov', hos'⟩ := h
          exact ⟨⟨2, c', by decide, rfl, hl', hov', Lm.only_own HOR.out hos' HGW.out⟩, by decide⟩
        · rw [show ((2 : Nat) : Int) = 2 from rfl]
          (try rw [Nat.add_zero] at hc1 hf1)
          go_wp2_with fail
          have h := put_any HOVR.out HCL0.out (n4 + 2) ((X : Int) / 65536 % 256) (by omega) (by omega)
          obtain ⟨c', hl', hov', hos'⟩ := h
          exact ⟨⟨3, c', by decide, rfl, hl', hov', Lm.only_own HOR.out hos' HGW.out⟩, by decide⟩
        · rw [show ((3 : Nat) : Int) = 3 from rfl]
          (try rw [Nat.add_zero] at hc1 hf1)
          go_wp2_with fail
          have h := put_any HOVR.out HCL0.out (n4 + 3) ((X : Int) / 16777216) (by omega) (by omega)
          obtain ⟨c', hl', hov', hos'⟩ := h
          exact ⟨⟨4, c', by decide, rfl, hl', hov', Lm.only_own HOR.out hos' HGW.out⟩, by decide⟩
      · obtain rfl : k = 4 := by omega
        have hcl := HCL0.out
        have HBX := Lib.hid (BS.of_vs HOVR.out.vs)
        have HOX := HOR
        obtain ⟨wx, hwx⟩ : ∃ wx, wx = wr := ⟨_, rfl⟩
        subst hwx
        have HCL := Lib.hid hcl
        obtain ⟨⟨m, E⟩, hme⟩ : ∃ p, Wr.get c = p := ⟨_, rfl⟩
        have HME := Lib.hid hme
        have HTX := Lib.hid (HT.out.only HOX.out (by simp))
        clear hme hcl
        go_wp2_with fail
        have hg := get_c wx _ c HBX.out (by rw [HCL.out]; omega) HTX.out
        rw [HME.out] at hg
        refine hg.mono ?_
        clear hg
        rintro e w6 ⟨⟨u6, rfl, hbu⟩, ho6⟩
        have hbu : BS w6 u6 m.bytes := hbu
        have HO6 := Lib.hid (HOX.out.then ho6)
        have HB6 := Lib.hid (HBX.out.only ho6 (by simp))
        have HBU6 := Lib.hid hbu
        obtain ⟨a6, cap6, rfl, q1, q2, -, -⟩ := hbu
        obtain ⟨nb, hnb⟩ : ∃ nb, m.bytes.length = nb := ⟨_, rfl⟩
        have HNB := Lib.hid hnb
        rw [hnb] at q1 HBU6 ⊢
        clear ho6 hnb
        unfold msgV
        simp only []
        go_upto_region 15 with fail
        have hm7 : MB (w6.alloc (.cells #[.int .u8 (m.kind : Int), .int .u64 (m.key : Int), .int .u64 (m.epoch : Int), .int .u32 (m.index : Int), .int .u32 (m.a : Int), .int .u32 (m.b : Int), .slice a6 nb cap6] 26 (0, 0))) w6.heap.size 26 m (.slice a6 nb cap6) := MB.new w6 _ _ _
        have HO7 : Hid (Only [] w (w6.alloc (.cells #[.int .u8 (m.kind : Int), .int .u64 (m.key : Int), .int .u64 (m.epoch : Int), .int .u32 (m.index : Int), .int .u32 (m.a : Int), .int .u32 (m.b : Int), .slice a6 nb cap6] 26 (0, 0)))) := Lib.hid (HO6.out.alloc _)
        have HB7 : Hid (BS (w6.alloc (.cells #[.int .u8 (m.kind : Int), .int .u64 (m.key : Int), .int .u64 (m.epoch : Int), .int .u32 (m.index : Int), .int .u32 (m.a : Int), .int .u32 (m.b : Int), .slice a6 nb cap6] 26 (0, 0))) (.slice (some ⟨g, 0, none⟩) (n4 + 4) cap2) c) := Lib.hid (HB6.out.only ((Only.refl [] w6).alloc _) (by simp))
        have HBU7 : Hid (BS (w6.alloc (.cells #[.int .u8 (m.kind : Int), .int .u64 (m.key : Int), .int .u64 (m.epoch : Int), .int .u32 (m.index : Int), .int .u32 (m.a : Int), .int .u32 (m.b : Int), .slice a6 nb cap6] 26 (0, 0))) (.slice a6 nb cap6) m.bytes) := Lib.hid (HBU6.out.only ((Only.refl [] w6).alloc _) (by simp))
        generalize World.alloc w6 _ = w7 at *
        generalize w6.heap.size = D at *
        have HM7 := Lib.hid hm7
        have hstr := run_string_of_bytes (P := Tryd.prog) Tryd.underlying24 Tryd.underlying5 Tryd.underlying9 HB7.out
        obtain ⟨S, hS⟩ : ∃ S : ByteArray, (⟨c.toArray⟩ : ByteArray) = S := ⟨_, rfl⟩
        have HSE := Lib.hid hS
        have hSl : S.data.toList = c := by rw [← hS]
        have hSz : S.size ≤ 1000 := by rw [← len_data, hSl, HCL.out]; omega
        rw [hS] at hstr
        have HSL := Lib.hid hSl
        clear hm7 hS hSl HB6 HBU6 HO6
        go_wp2_with fail
        have hr := rget_c w7 S (by omega)
        rw [HSL.out, HME.out] at hr
        refine hr.mono ?_
        clear hr
        rintro e w8 ⟨⟨sb, rfl, hsb⟩, ho8⟩
        have hsb : sb.data.toList = m.bytes := hsb
        have HSB := Lib.hid hsb
        have HO8 := Lib.hid (HO7.out.then ho8); have HB8 := Lib.hid (HB7.out.only ho8 (by simp)); have HBU8 := Lib.hid (HBU7.out.only ho8 (by simp)); have HM8 := Lib.hid (HM7.out.only ho8 (by simp))
        clear ho8 hsb hstr HO7 HB7 HBU7 HM7
        unfold msgV
        simp only []
        go_upto_region 16 with fail
        have hn9 : MB (w8.alloc (.cells #[.int .u8 (m.kind : Int), .int .u64 (m.key : Int), .int .u64 (m.epoch : Int), .int .u32 (m.index : Int), .int .u32 (m.a : Int), .int .u32 (m.b : Int), .string sb] 35 (0, 0))) w8.heap.size 35 m (.string sb) := MB.new w8 _ _ _
        have ha8 : Only [] w8 (w8.alloc (.cells #[.int .u8 (m.kind : Int), .int .u64 (m.key : Int), .int .u64 (m.epoch : Int), .int .u32 (m.index : Int), .int .u32 (m.a : Int), .int .u32 (m.b : Int), .string sb] 35 (0, 0))) := (Only.refl [] w8).alloc _
        generalize World.alloc w8 _ = w9 at *
        generalize w8.heap.size = D2 at *
        have HO9 := Lib.hid (HO8.out.then ha8); have HB9 := Lib.hid (HB8.out.only ha8 (by simp)); have HBU9 := Lib.hid (HBU8.out.only ha8 (by simp)); have hm9 := HM8.out.only ha8 (by simp)
        have HM9 := Lib.hid hm9
        obtain ⟨c0, c1, c2, c3, c4, c5, c6, cf⟩ := MB.cells hm9
        obtain ⟨d0, d1, d2, d3, d4, d5, d6, df⟩ := MB.cells hn9
        have x0 := fun x : Later [] w9 => Later.cell c0 (by simp) x
        have x1 := fun x : Later [] w9 => Later.cell c1 (by simp) x
        have x2 := fun x : Later [] w9 => Later.cell c2 (by simp) x
        have x3 := fun x : Later [] w9 => Later.cell c3 (by simp) x
        have x4 := fun x : Later [] w9 => Later.cell c4 (by simp) x
        have x5 := fun x : Later [] w9 => Later.cell c5 (by simp) x
        have x6 := fun x : Later [] w9 => Later.cell c6 (by simp) x
        have y0 := fun x : Later [] w9 => Later.cell d0 (by simp) x
        have y1 := fun x : Later [] w9 => Later.cell d1 (by simp) x
        have y2 := fun x : Later [] w9 => Later.cell d2 (by simp) x
        have y3 := fun x : Later [] w9 => Later.cell d3 (by simp) x
        have y4 := fun x : Later [] w9 => Later.cell d4 (by simp) x
        have y5 := fun x : Later [] w9 => Later.cell d5 (by simp) x
        have y6 := fun x : Later [] w9 => Later.cell d6 (by simp) x
        have hmod : ∀ W : World, Only [] w9 W → Calls Tryd.prog 11 #[.agg #[.int .u8 (m.kind : Int), .int .u64 (m.key : Int), .int .u64 (m.epoch : Int), .int .u32 (m.index : Int), .int .u32 (m.a : Int), .int .u32 (m.b : Int), .slice a6 nb cap6]] W fun e w' => e = .returned (.agg #[.int .u8 (m.kind : Int), .int .u64 (m.key : Int), .int .u64 (m.epoch : Int), .int .u32 (m.index : Int), .int .u32 (m.a : Int), .int .u32 (m.b : Int), .string sb]) ∧ Only [] W w' := by
          intro W hW
          have h := model_c W m (.slice a6 nb cap6) (HBU9.out.only hW (by simp))
          rw [mval_eq m ⟨m.bytes.toArray⟩ sb rfl HSB.out] at h
          exact h
        have HMOD := Lib.hid hmod
        clear hmod c0 c1 c2 c3 c4 c5 c6 cf d0 d1 d2 d3 d4 d5 d6 df hn9 ha8 hm9 HO8 HB8 HBU8 HM8
        refine wp_region_later [] (by kernel_rfl) (by kernel_rfl) ?_
        repeat (go_big_quiet_step (first
          | (go_at_call 11; exact Calls.later_nil (HMOD.out _ (Later.only _)))))
        refine wpQuiet_nil ?_
        rintro _ ⟨x9, rfl⟩
        have HX10 := Lib.hid x9.only
        clear x0 x1 x2 x3 x4 x5 x6 y0 y1 y2 y3 y4 y5 y6
        generalize x9.at' = w10 at *
        have HO10 := Lib.hid (HO9.out.then HX10.out); have HB10 := Lib.hid (HB9.out.only HX10.out (by simp)); have HBU10 := Lib.hid (HBU9.out.only HX10.out (by simp)); have hm10 := HM9.out.only HX10.out (by simp)
        have HT10 := Lib.hid (HT.out.only HO10.out (by simp))
        clear HX10 HMOD HO9 HB9 HBU9 HM9
        by_cases hE : E = 0
        · subst hE
          obtain ⟨hok, hmay, hdg⟩ := Wr.dg_get HME.out
          have HOK := Lib.hid hok; have HMAY := Lib.hid hmay; have HDG := Lib.hid hdg
          clear hok hmay hdg
          obtain ⟨c0, c1, c2, c3, c4, c5, c6, cf⟩ := MB.cells hm10
          clear hm10
          go_wp2_with fail
          refine (put_yes w10 m (.slice a6 nb cap6) HBU10.out HMAY.out HOK.out HT10.out).mono ?_
          rintro e w11 ⟨p, rfl, hov, ho11⟩
          have HO11 := Lib.hid (HO10.out.then ho11)
          have hb11 := BS.of_vs hov.vs
          rw [HDG.out] at hb11
          have hst1 := run_string_of_bytes (P := Tryd.prog) Tryd.underlying24 Tryd.underlying5 Tryd.underlying9 hb11
          have hst2 := run_string_of_bytes (P := Tryd.prog) Tryd.underlying24 Tryd.underlying5 Tryd.underlying9 (HB10.out.only ho11 (by simp))
          rw [HSE.out] at hst1 hst2
          clear hov ho11 hb11 c0 c1 c2 c3 c4 c5 c6 cf
          go_wp2
          go_ret
          exact ⟨rfl, HO11.out.below (by simp) (Nat.le_refl _)⟩
        · have hEI : (E != 0) = true := bne_iff_ne.2 hE
          clear hE hm10
          go_wp2
          go_ret
          exact ⟨rfl, HO10.out.below (by simp) (Nat.le_refl _)⟩
  · have hg2 : fix = false ∨ (fix = true ∧ ¬ ((4 : Int) ≤ (n : Int))) := by
      cases fix with
      | false => exact .inl rfl
      | true => exact .inr ⟨rfl, fun h => hgo ⟨rfl, by omega⟩⟩
    have hcl : l.length = n := HN.out
    have HBX := Lib.hid (BS.of_vs HOV2.out.vs)
    have HOX := HO2
    obtain ⟨c, hc⟩ : ∃ c, l = c := ⟨_, rfl⟩
    subst hc
    obtain ⟨wx, hwx⟩ : ∃ wx, wx = w2 := ⟨_, rfl⟩
    subst hwx
    rcases hg2 with rfl | ⟨rfl, hn4⟩
    all_goals
      have HCL := Lib.hid hcl
      obtain ⟨⟨m, E⟩, hme⟩ : ∃ p, Wr.get l = p := ⟨_, rfl⟩
      have HME := Lib.hid hme
      have HTX := Lib.hid (HT.out.only HOX.out (by simp))
      clear hme hcl
      go_wp2_with (at_builtin; refine wpList_append_run rfl _ _ _ rfl rfl rfl HRUN.out ?_)
      have hg := get_c wx _ l HBX.out (by rw [HCL.out]; omega) HTX.out
      rw [HME.out] at hg
      refine hg.mono ?_
      clear hg
      rintro e w6 ⟨⟨u6, rfl, hbu⟩, ho6⟩
      have hbu : BS w6 u6 m.bytes := hbu
      have HO6 := Lib.hid (HOX.out.then ho6)
      have HB6 := Lib.hid (HBX.out.only ho6 (by simp))
      have HBU6 := Lib.hid hbu
      obtain ⟨a6, cap6, rfl, q1, q2, -, -⟩ := hbu
      obtain ⟨nb, hnb⟩ : ∃ nb, m.bytes.length = nb := ⟨_, rfl⟩
      have HNB := Lib.hid hnb
      rw [hnb] at q1 HBU6 ⊢
      clear ho6 hnb
      unfold msgV
      simp only []
      go_upto_region 15 with fail
      have hm7 : MB (w6.alloc (.cells #[.int .u8 (m.kind : Int), .int .u64 (m.key : Int), .int .u64 (m.epoch : Int), .int .u32 (m.index : Int), .int .u32 (m.a : Int), .int .u32 (m.b : Int), .slice a6 nb cap6] 26 (0, 0))) w6.heap.size 26 m (.slice a6 nb cap6) := MB.new w6 _ _ _
      have HO7 : Hid (Only [] w (w6.alloc (.cells #[.int .u8 (m.kind : Int), .int .u64 (m.key : Int), .int .u64 (m.epoch : Int), .int .u32 (m.index : Int), .int .u32 (m.a : Int), .int .u32 (m.b : Int), .slice a6 nb cap6] 26 (0, 0)))) := Lib.hid (HO6.out.alloc _)
      have HB7 : Hid (BS (w6.alloc (.cells #[.int .u8 (m.kind : Int), .int .u64 (m.key : Int), .int .u64 (m.epoch : Int), .int .u32 (m.index : Int), .int .u32 (m.a : Int), .int .u32 (m.b : Int), .slice a6 nb cap6] 26 (0, 0))) (.slice a2 n cap2) l) := Lib.hid (HB6.out.only ((Only.refl [] w6).alloc _) (by simp))
      have HBU7 : Hid (BS (w6.alloc (.cells #[.int .u8 (m.kind : Int), .int .u64 (m.key : Int), .int .u64 (m.epoch : Int), .int .u32 (m.index : Int), .int .u32 (m.a : Int), .int .u32 (m.b : Int), .slice a6 nb cap6] 26 (0, 0))) (.slice a6 nb cap6) m.bytes) := Lib.hid (HBU6.out.only ((Only.refl [] w6).alloc _) (by simp))
      generalize World.alloc w6 _ = w7 at *
      generalize w6.heap.size = D at *
      have HM7 := Lib.hid hm7
      have hstr := run_string_of_bytes (P := Tryd.prog) Tryd.underlying24 Tryd.underlying5 Tryd.underlying9 HB7.out
      obtain ⟨S, hS⟩ : ∃ S : ByteArray, (⟨l.toArray⟩ : ByteArray) = S := ⟨_, rfl⟩
      have HSE := Lib.hid hS
      have hSl : S.data.toList = l := by rw [← hS]
      have hSz : S.size ≤ 1000 := by rw [← len_data, hSl, HCL.out]; omega
      rw [hS] at hstr
      have HSL := Lib.hid hSl
      clear hm7 hS hSl HB6 HBU6 HO6
      go_wp2_with fail
      have hr := rget_c w7 S (by omega)
      rw [HSL.out, HME.out] at hr
      refine hr.mono ?_
      clear hr
      rintro e w8 ⟨⟨sb, rfl, hsb⟩, ho8⟩
      have hsb : sb.data.toList = m.bytes := hsb
      have HSB := Lib.hid hsb
      have HO8 := Lib.hid (HO7.out.then ho8); have HB8 := Lib.hid (HB7.out.only ho8 (by simp)); have HBU8 := Lib.hid (HBU7.out.only ho8 (by simp)); have HM8 := Lib.hid (HM7.out.only ho8 (by simp))
      clear ho8 hsb hstr HO7 HB7 HBU7 HM7
      unfold msgV
      simp only []
      go_upto_region 16 with fail
      have hn9 : MB (w8.alloc (.cells #[.int .u8 (m.kind : Int), .int .u64 (m.key : Int), .int .u64 (m.epoch : Int), .int .u32 (m.index : Int), .int .u32 (m.a : Int), .int .u32 (m.b : Int), .string sb] 35 (0, 0))) w8.heap.size 35 m (.string sb) := MB.new w8 _ _ _
      have ha8 : Only [] w8 (w8.alloc (.cells #[.int .u8 (m.kind : Int), .int .u64 (m.key : Int), .int .u64 (m.epoch : Int), .int .u32 (m.index : Int), .int .u32 (m.a : Int), .int .u32 (m.b : Int), .string sb] 35 (0, 0))) := (Only.refl [] w8).alloc _
      generalize World.alloc w8 _ = w9 at *
      generalize w8.heap.size = D2 at *
      have HO9 := Lib.hid (HO8.out.then ha8); have HB9 := Lib.hid (HB8.out.only ha8 (by simp)); have HBU9 := Lib.hid (HBU8.out.only ha8 (by simp)); have hm9 := HM8.out.only ha8 (by simp)
      have HM9 := Lib.hid hm9
      obtain ⟨c0, c1, c2, c3, c4, c5, c6, cf⟩ := MB.cells hm9
      obtain ⟨d0, d1, d2, d3, d4, d5, d6, df⟩ := MB.cells hn9
      have x0 := fun x : Later [] w9 => Later.cell c0 (by simp) x
      have x1 := fun x : Later [] w9 => Later.cell c1 (by simp) x
      have x2 := fun x : Later [] w9 => Later.cell c2 (by simp) x
      have x3 := fun x : Later [] w9 => Later.cell c3 (by simp) x
      have x4 := fun x : Later [] w9 => Later.cell c4 (by simp) x
      have x5 := fun x : Later [] w9 => Later.cell c5 (by simp) x
      have x6 := fun x : Later [] w9 => Later.cell c6 (by simp) x
      have y0 := fun x : Later [] w9 => Later.cell d0 (by simp) x
      have y1 := fun x : Later [] w9 => Later.cell d1 (by simp) x
      have y2 := fun x : Later [] w9 => Later.cell d2 (by simp) x
      have y3 := fun x : Later [] w9 => Later.cell d3 (by simp) x
      have y4 := fun x : Later [] w9 => Later.cell d4 (by simp) x
      have y5 := fun x : Later [] w9 => Later.cell d5 (by simp) x
      have y6 := fun x : Later [] w9 => Later.cell d6 (by simp) x
      have hmod : ∀ W : World, Only [] w9 W → Calls Tryd.prog 11 #[.agg #[.int .u8 (m.kind : Int), .int .u64 (m.key : Int), .int .u64 (m.epoch : Int), .int .u32 (m.index : Int), .int .u32 (m.a : Int), .int .u32 (m.b : Int), .slice a6 nb cap6]] W fun e w' => e = .returned (.agg #[.int .u8 (m.kind : Int), .int .u64 (m.key : Int), .int .u64 (m.epoch : Int), .int .u32 (m.index : Int), .int .u32 (m.a : Int), .int .u32 (m.b : Int), .string sb]) ∧ Only [] W w' := by
        intro W hW
        have h := model_c W m (.slice a6 nb cap6) (HBU9.out.only hW (by simp))
        rw [mval_eq m ⟨m.bytes.toArray⟩ sb rfl HSB.out] at h
        exact h
      have HMOD := Lib.hid hmod
      clear hmod c0 c1 c2 c3 c4 c5 c6 cf d0 d1 d2 d3 d4 d5 d6 df hn9 ha8 hm9 HO8 HB8 HBU8 HM8
      refine wp_region_later [] (by kernel_rfl) (by kernel_rfl) ?_
      repeat (go_big_quiet_step (first
        | (go_at_call 11; exact Calls.later_nil (HMOD.out _ (Later.only _)))))
      refine wpQuiet_nil ?_
      rintro _ ⟨x9, rfl⟩
      have HX10 := Lib.hid x9.only
      clear x0 x1 x2 x3 x4 x5 x6 y0 y1 y2 y3 y4 y5 y6
      generalize x9.at' = w10 at *
      have HO10 := Lib.hid (HO9.out.then HX10.out); have HB10 := Lib.hid (HB9.out.only HX10.out (by simp)); have HBU10 := Lib.hid (HBU9.out.only HX10.out (by simp)); have hm10 := HM9.out.only HX10.out (by simp)
      have HT10 := Lib.hid (HT.out.only HO10.out (by simp))
      clear HX10 HMOD HO9 HB9 HBU9 HM9
      by_cases hE : E = 0
      · subst hE
        obtain ⟨hok, hmay, hdg⟩ := Wr.dg_get HME.out
        have HOK := Lib.hid hok; have HMAY := Lib.hid hmay; have HDG := Lib.hid hdg
        clear hok hmay hdg
        obtain ⟨c0, c1, c2, c3, c4, c5, c6, cf⟩ := MB.cells hm10
        clear hm10
        go_wp2_with fail
        refine (put_yes w10 m (.slice a6 nb cap6) HBU10.out HMAY.out HOK.out HT10.out).mono ?_
        rintro e w11 ⟨p, rfl, hov, ho11⟩
        have HO11 := Lib.hid (HO10.out.then ho11)
        have hb11 := BS.of_vs hov.vs
        rw [HDG.out] at hb11
        have hst1 := run_string_of_bytes (P := Tryd.prog) Tryd.underlying24 Tryd.underlying5 Tryd.underlying9 hb11
        have hst2 := run_string_of_bytes (P := Tryd.prog) Tryd.underlying24 Tryd.underlying5 Tryd.underlying9 (HB10.out.only ho11 (by simp))
        rw [HSE.out] at hst1 hst2
        clear hov ho11 hb11 c0 c1 c2 c3 c4 c5 c6 cf
        go_wp2
        go_ret
        exact ⟨rfl, HO11.out.below (by simp) (Nat.le_refl _)⟩
      · have hEI : (E != 0) = true := bne_iff_ne.2 hE
        clear hE hm10
        go_wp2
        go_ret
        exact ⟨rfl, HO10.out.below (by simp) (Nat.le_refl _)⟩
end Go.Proofs.YtdoiebbbgmlkaaaDoor.wr
