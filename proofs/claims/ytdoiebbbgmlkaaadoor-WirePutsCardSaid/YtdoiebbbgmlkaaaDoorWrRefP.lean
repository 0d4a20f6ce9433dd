/-
  THE WALK of the reference's Put.
-/
import Derived.Test.YtdoiebbbgmlkaaaDoorWrRef
import Derived.Deep.RegionHeld3
set_option linter.unusedVariables false
set_option linter.unusedSimpArgs false
namespace Go.Proofs.YtdoiebbbgmlkaaaDoor.wr
open Go Go.RowKit Go.Lm Go.Proofs.YtdoiebbbgmlkaaaDoor.cur Go.Proofs.YtdoiebbbgmlkaaaDoor.crc

set_option maxHeartbeats 1000000 in
theorem rput_no (w : World) (m : Wr.Msg) (s : ByteArray) (hs : s.data.toList = m.bytes) (hm : Wr.may m = false) : Calls Tryd.prog 10 #[msgV m (.string s)] w fun e w' => e = .returned (.tuple #[.string ⟨#[]⟩, .int .i64 1]) ∧ Only [] w w' := by
  have hsz : s.size = m.bytes.length := by rw [← len_data, hs]
  have hc : (m.kind : Int) < 1 ∨ (¬ ((m.kind : Int) < 1) ∧ (6 : Int) < (m.kind : Int)) ∨ (¬ ((m.kind : Int) < 1) ∧ ¬ ((6 : Int) < (m.kind : Int)) ∧ (1465 : Int) < (s.size : Int)) := by
    rw [hsz]
    simp [Wr.may] at hm
    omega
  clear hm hs hsz
  unfold msgV
  rcases hc with g1 | ⟨g1, g2⟩ | ⟨g1, g2, g3⟩
  all_goals
    go_enter Tryd.func10, Tryd.ntmps10
    go_wp2
    go_ret2
    exact ⟨rfl, (Only.refl [] w).alloc _⟩

set_option maxRecDepth 100000 in
set_option maxHeartbeats 8000000 in
theorem rput_yes (w : World) (m : Wr.Msg) (s : ByteArray) (hs : s.data.toList = m.bytes) (hm : Wr.may m = true) (hok : Wr.Ok m) : Calls Tryd.prog 10 #[msgV m (.string s)] w fun e w' => e = .returned (.tuple #[.string ⟨(Wr.dg m).toArray⟩, .int .i64 0]) ∧ Only [] w w' := by
  have hsz : s.size = m.bytes.length := by rw [← len_data, hs]
  have hb : m.bytes.length ≤ 1465 ∧ 1 ≤ m.kind ∧ m.kind ≤ 6 := by simp [Wr.may] at hm; omega
  have hss : s.size ≤ 1465 := by omega
  have g1 : ¬ ((m.kind : Int) < 1) := by omega
  have g2 : ¬ ((6 : Int) < (m.kind : Int)) := by omega
  have g3 : ¬ ((1465 : Int) < (s.size : Int)) := by omega
  have HS := Lib.hid hs; have HSZ := Lib.hid hsz
  obtain ⟨c, hc⟩ : ∃ c : UInt8, UInt8.ofNat m.kind = c := ⟨_, rfl⟩
  have hck : c.toNat = m.kind := by rw [← hc, UInt8.toNat_ofNat']; have := hok.kind; omega
  have HC : Hid (Cur.put m.kind 1 = [c]) := Lib.hid (by rw [← hc]; rfl)
  have hky : ∀ W : World, Calls Tryd.prog 25 #[.int .u64 (m.key : Int), .int .i64 8] W fun e w' => e = .returned (.string ⟨(Cur.put m.key 8).toArray⟩) ∧ Only [] W w' := fun W => refput_d W m.key 8 (by decide) (by decide) hok.key
  have hep : ∀ W : World, Calls Tryd.prog 25 #[.int .u64 (m.epoch : Int), .int .i64 8] W fun e w' => e = .returned (.string ⟨(Cur.put m.epoch 8).toArray⟩) ∧ Only [] W w' := fun W => refput_d W m.epoch 8 (by decide) (by decide) hok.epoch
  have hix : ∀ W : World, Calls Tryd.prog 25 #[.int .u64 (m.index : Int), .int .i64 4] W fun e w' => e = .returned (.string ⟨(Cur.put m.index 4).toArray⟩) ∧ Only [] W w' := fun W => refput_d W m.index 4 (by decide) (by decide) (by have := hok.index; omega)
  have hax : ∀ W : World, Calls Tryd.prog 25 #[.int .u64 (m.a : Int), .int .i64 4] W fun e w' => e = .returned (.string ⟨(Cur.put m.a 4).toArray⟩) ∧ Only [] W w' := fun W => refput_d W m.a 4 (by decide) (by decide) (by have := hok.a; omega)
  have hbx : ∀ W : World, Calls Tryd.prog 25 #[.int .u64 (m.b : Int), .int .i64 4] W fun e w' => e = .returned (.string ⟨(Cur.put m.b 4).toArray⟩) ∧ Only [] W w' := fun W => refput_d W m.b 4 (by decide) (by decide) (by have := hok.b; omega)
  have hnx : ∀ W : World, Calls Tryd.prog 25 #[.int .u64 (s.size : Int), .int .i64 2] W fun e w' => e = .returned (.string ⟨(Cur.put s.size 2).toArray⟩) ∧ Only [] W w' := fun W => refput_d W s.size 2 (by decide) (by decide) (by omega)
  have u1 : IntKind.u64.wrap (m.index : Int) = (m.index : Int) := by rw [IntKind.wrap_u64]; have := hok.index; omega
  have u2 : IntKind.u64.wrap (m.a : Int) = (m.a : Int) := by rw [IntKind.wrap_u64]; have := hok.a; omega
  have u3 : IntKind.u64.wrap (m.b : Int) = (m.b : Int) := by rw [IntKind.wrap_u64]; have := hok.b; omega
  have u4 : IntKind.u64.wrap (s.size : Int) = (s.size : Int) := by rw [IntKind.wrap_u64]; omega
  obtain ⟨sk, hsk⟩ : ∃ z : ByteArray, (⟨[c].toArray⟩ : ByteArray) = z := ⟨_, rfl⟩
  obtain ⟨sy, hsy⟩ : ∃ z : ByteArray, (⟨(Cur.put m.key 8).toArray⟩ : ByteArray) = z := ⟨_, rfl⟩
  obtain ⟨sp, hsp⟩ : ∃ z : ByteArray, (⟨(Cur.put m.epoch 8).toArray⟩ : ByteArray) = z := ⟨_, rfl⟩
  obtain ⟨si, hsi⟩ : ∃ z : ByteArray, (⟨(Cur.put m.index 4).toArray⟩ : ByteArray) = z := ⟨_, rfl⟩
  obtain ⟨sa, hsa⟩ : ∃ z : ByteArray, (⟨(Cur.put m.a 4).toArray⟩ : ByteArray) = z := ⟨_, rfl⟩
  obtain ⟨sb, hsb⟩ : ∃ z : ByteArray, (⟨(Cur.put m.b 4).toArray⟩ : ByteArray) = z := ⟨_, rfl⟩
  obtain ⟨sn, hsn⟩ : ∃ z : ByteArray, (⟨(Cur.put s.size 2).toArray⟩ : ByteArray) = z := ⟨_, rfl⟩
  have zk : sk.size = 1 := by rw [← hsk]; rfl
  have zy : sy.size = 8 := by rw [← hsy]; show (Cur.put m.key 8).toArray.size = 8; simp [Cur.put_length]
  have zp : sp.size = 8 := by rw [← hsp]; show (Cur.put m.epoch 8).toArray.size = 8; simp [Cur.put_length]
  have zi : si.size = 4 := by rw [← hsi]; show (Cur.put m.index 4).toArray.size = 4; simp [Cur.put_length]
  have za : sa.size = 4 := by rw [← hsa]; show (Cur.put m.a 4).toArray.size = 4; simp [Cur.put_length]
  have zb : sb.size = 4 := by rw [← hsb]; show (Cur.put m.b 4).toArray.size = 4; simp [Cur.put_length]
  have zn : sn.size = 2 := by rw [← hsn]; show (Cur.put s.size 2).toArray.size = 2; simp [Cur.put_length]
  simp only [hsy] at hky
  simp only [hsp] at hep
  simp only [hsi] at hix
  simp only [hsa] at hax
  simp only [hsb] at hbx
  simp only [hsn] at hnx
  have hsn2 : (⟨(Cur.put m.bytes.length 2).toArray⟩ : ByteArray) = sn := by rw [← hsz]; exact hsn
  have HBODY : Hid ((sk ++ sy ++ sp ++ (si ++ sa ++ sb) ++ (sn ++ s)).data.toList = Wr.body m) := Lib.hid (by
    simp only [ByteArray.data_append, Array.toList_append, hs]
    rw [← hsk, ← hsy, ← hsp, ← hsi, ← hsa, ← hsb, ← hsn2]
    unfold Wr.body Wr.head
    rw [HC.out]
    simp)
  have hcv : ∀ W W' : World, Only [] (W.alloc (.cells #[.int .u8 (m.kind : Int)] 5 (0, 0))) W' → (convert 24 9 (.slice (some ⟨W.heap.size, 0, none⟩) 1 1)).run Tryd.prog W' = .ok (.string sk) W' := fun W W' h => by
    have h2 := run_string_of_bytes (P := Tryd.prog) Tryd.underlying24 Tryd.underlying5 Tryd.underlying9 ((BS.lit W #[.int .u8 (m.kind : Int)] 5 (0, 0) 1 [c] (by simp [hck]) rfl (by simp [maxLen])).only h (by simp))
    rw [hsk] at h2
    exact h2
  have HCN := Lib.hid hcv
  have HCD : Hid (∀ W W' : World, Only [] (W.alloc (.cells #[.int .u8 (m.kind : Int)] 5 (0, 0))).drew W' → (convert 24 9 (.slice (some ⟨W.heap.size, 0, none⟩) 1 1)).run Tryd.prog W' = .ok (.string sk) W') := Lib.hid (fun W W' h => hcv W W' ⟨h.os, h.tape, h.output, h.size, h.block⟩)
  have hc1 : ∀ W : World, (convert 24 9 (.slice (some ⟨W.heap.size, 0, none⟩) 1 1)).run Tryd.prog (W.alloc (.cells #[.int .u8 (m.kind : Int)] 5 (0, 0))) = .ok (.string sk) (W.alloc (.cells #[.int .u8 (m.kind : Int)] 5 (0, 0))) := fun W => hcv W _ (Only.refl [] _)
  have hc2 : ∀ W : World, (convert 24 9 (.slice (some ⟨W.heap.size, 0, none⟩) 1 1)).run Tryd.prog (W.alloc (.cells #[.int .u8 (m.kind : Int)] 5 (0, 0))).drew = .ok (.string sk) (W.alloc (.cells #[.int .u8 (m.kind : Int)] 5 (0, 0))).drew := fun W => hcv W _ (Only.refl [] _).drew
  have HKY := Lib.hid hky; have HEP := Lib.hid hep; have HIX := Lib.hid hix; have HAX := Lib.hid hax; have HBX := Lib.hid hbx; have HNX := Lib.hid hnx
  clear hky hep hix hax hbx hnx hsk hsy hsp hsi hsa hsb hsn hsn2 hcv hs hm hc hok hsz hb
  unfold msgV
  go_enter Tryd.func10, Tryd.ntmps10
  go_upto_region 1 with fail
  have hB : MB (w.alloc (.cells #[.int .u8 (m.kind : Int), .int .u64 (m.key : Int), .int .u64 (m.epoch : Int), .int .u32 (m.index : Int), .int .u32 (m.a : Int), .int .u32 (m.b : Int), .string s] 35 (0, 0))) w.heap.size 35 m (.string s) := MB.new w _ _ _
  have HO1 : Hid (Only [] w (w.alloc (.cells #[.int .u8 (m.kind : Int), .int .u64 (m.key : Int), .int .u64 (m.epoch : Int), .int .u32 (m.index : Int), .int .u32 (m.a : Int), .int .u32 (m.b : Int), .string s] 35 (0, 0)))) := Lib.hid ((Only.refl [] w).alloc _)
  generalize World.alloc w _ = w1 at *
  obtain ⟨q, hq⟩ : ∃ q, w.heap.size = q := ⟨_, rfl⟩
  rw [hq] at hB ⊢
  have HB1 := Lib.hid hB
  clear hq hB
  obtain ⟨c0, c1, c2, c3, c4, c5, c6, cf⟩ := MB.cells HB1.out
  --@1
  go_upto_region 3 with fail
  clear c3 c4 c5 c6 cf
  have n0 := World.new_ne w1 _ c0
  have n1 := World.new_ne w1 _ c1
  have n2 := World.new_ne w1 _ c2
  go_cut [4] (fun s4 wx => s4 = .string (sk ++ sy ++ sp) ∧ Only [] w1 wx)
  case first =>
    --@2
    go_region_held (fun w' => w'.cell? ⟨q, 0, none⟩ = some (.int .u8 (m.kind : Int)) ∧ w'.cell? ⟨q, 1, none⟩ = some (.int .u64 (m.key : Int)) ∧ w'.cell? ⟨q, 2, none⟩ = some (.int .u64 (m.epoch : Int))) (go_keep) (first | (go_at_call 25; (with_reducible refine (HKY.out _).mono ?_); rintro e w2 ⟨rfl, ho2⟩; have g0 := ho2.cell (p := ⟨q, 0, none⟩) (v := .int .u8 (m.kind : Int)) (by go_simp) (by simp); have g1 := ho2.cell (p := ⟨q, 1, none⟩) (v := .int .u64 (m.key : Int)) (by go_simp) (by simp); have g2 := ho2.cell (p := ⟨q, 2, none⟩) (v := .int .u64 (m.epoch : Int)) (by go_simp) (by simp); have m0 := World.new_ne w2 _ g0; have m1 := World.new_ne w2 _ g1; have m2 := World.new_ne w2 _ g2; (first | (with_reducible have hsb2 := HCD.out _ _ ho2) | (with_reducible have hsb2 := HCN.out _ _ ho2) | skip); have HX2 : Hid (Only [] w1 w2) := Lib.hid (by first | exact (Only.refl [] w1).drew.then ho2 | exact ((Only.refl [] w1).alloc _).drew.then ho2); have HOC := Lib.hid ho2; clear ho2) | (go_at_call 25; (with_reducible refine (HEP.out _).mono ?_); rintro e w3 ⟨rfl, ho3⟩; have k0 := ho3.cell (p := ⟨q, 0, none⟩) (v := .int .u8 (m.kind : Int)) (by go_simp) (by simp); have k1 := ho3.cell (p := ⟨q, 1, none⟩) (v := .int .u64 (m.key : Int)) (by go_simp) (by simp); have k2 := ho3.cell (p := ⟨q, 2, none⟩) (v := .int .u64 (m.epoch : Int)) (by go_simp) (by simp); have l0 := World.new_ne w3 _ k0; have l1 := World.new_ne w3 _ k1; have l2 := World.new_ne w3 _ k2; (first | (with_reducible have hsb3 := HCD.out _ _ (HOC.out.then ho3)) | (with_reducible have hsb3 := HCN.out _ _ (HOC.out.then ho3)) | skip); (first | (with_reducible have hsb4 := HCN.out _ _ ho3) | (with_reducible have hsb4 := HCD.out _ _ ho3) | skip); have HX3 : Hid (Only [] w1 w3) := Lib.hid (HX2.out.then (by first | exact ho3 | exact (Only.refl [] w2).drew.then ho3 | exact ((Only.refl [] w2).alloc _).then ho3 | exact ((Only.refl [] w2).alloc _).drew.then ho3)); clear ho3))
    all_goals
      go_wp2_with fail
      go_meet
      exact ⟨rfl, by first | exact HX3.out | exact HX3.out.alloc _⟩
  case rest =>
    obtain ⟨rfl, hox⟩ := hcut
    have HO3 := Lib.hid (HO1.out.then hox)
    have hb3 := HB1.out.only hox (by simp)
    have HB3 := Lib.hid hb3
    rename_i wc
    obtain ⟨c0, c1, c2, c3, c4, c5, c6, cf⟩ := MB.cells hb3
    have z1 : (sk ++ sy ++ sp).size = 17 := by rw [ByteArray.size_append, ByteArray.size_append, zk, zy, zp]
    obtain ⟨s1, hs1⟩ : ∃ z, sk ++ sy ++ sp = z := ⟨_, rfl⟩
    rw [hs1] at z1 HBODY ⊢
    clear hox hb3 hs1 n0 n1 n2 hc1 hc2
    --@3
    go_upto_region 4 with fail
    have l3 := fun x : Later [] wc => Later.cell c3 (by simp) x
    have l4 := fun x : Later [] wc => Later.cell c4 (by simp) x
    have l5 := fun x : Later [] wc => Later.cell c5 (by simp) x
    clear c0 c1 c2 c3 c4 c5 c6 cf
    refine wp_region_later [] (by kernel_rfl) (by kernel_rfl) ?_
    repeat (go_big_quiet_step (first
      | (go_at_call 25; with_reducible exact Calls.later_nil (HIX.out _))
      | (go_at_call 25; with_reducible exact Calls.later_nil (HAX.out _))
      | (go_at_call 25; with_reducible exact Calls.later_nil (HBX.out _))))
    refine wpQuiet_nil ?_
    rintro _ ⟨x4, rfl⟩
    have HX4 := Lib.hid x4.only
    clear l3 l4 l5
    generalize x4.at' = w4 at *
    have HO4 := Lib.hid (HO3.out.then HX4.out)
    have hb4 := HB3.out.only HX4.out (by simp)
    have HB4 := Lib.hid hb4
    obtain ⟨c0, c1, c2, c3, c4, c5, c6, cf⟩ := MB.cells hb4
    have z2 : (s1 ++ (si ++ sa ++ sb)).size = 29 := by rw [ByteArray.size_append, ByteArray.size_append, ByteArray.size_append, z1, zi, za, zb]
    obtain ⟨s2, hs2⟩ : ∃ z, s1 ++ (si ++ sa ++ sb) = z := ⟨_, rfl⟩
    rw [hs2] at z2 HBODY ⊢
    clear hs2 hb4
    --@4
    go_upto_region 5 with fail
    have l6 := fun x : Later [] w4 => Later.cell c6 (by simp) x
    clear c0 c1 c2 c3 c4 c5 c6 cf
    refine wp_region_later [] (by kernel_rfl) (by kernel_rfl) ?_
    repeat (go_big_quiet_step (first
      | (go_at_call 25; with_reducible exact Calls.later_nil (HNX.out _))))
    refine wpQuiet_nil ?_
    rintro _ ⟨x5, rfl⟩
    have HX5 := Lib.hid x5.only
    clear l6
    generalize x5.at' = w5 at *
    have HO5 := Lib.hid (HO4.out.then HX5.out)
    have z3 : (s2 ++ (sn ++ s)).size ≤ 1500 := by rw [ByteArray.size_append, ByteArray.size_append, z2, zn]; omega
    obtain ⟨s3, hs3⟩ : ∃ z, s2 ++ (sn ++ s) = z := ⟨_, rfl⟩
    rw [hs3] at z3 HBODY ⊢
    clear hs3
    --@5
    go_wp2_with fail
    refine (ref_c s3 _ (by omega)).mono ?_
    rintro e wx ⟨rfl, rfl⟩
    rw [HBODY.out]
    obtain ⟨C, hC⟩ : ∃ C, Crc.sum (Wr.body m) = C := ⟨_, rfl⟩
    have hCl : C ≤ 4294967295 := by rw [← hC]; exact Nat.sub_le _ _
    have hCw : IntKind.u64.wrap (C : Int) = (C : Int) := by rw [IntKind.wrap_u64]; omega
    rw [hC]
    go_wp2_with fail
    refine (refput_d _ C 4 (by decide) (by decide) (by omega)).mono ?_
    rintro e wy ⟨rfl, hoy⟩
    have hz4 : ByteArray.size ⟨(Cur.put C 4).toArray⟩ = 4 := by show (Cur.put C 4).toArray.size = 4; simp [Cur.put_length]
    have hres : s3 ++ (⟨(Cur.put C 4).toArray⟩ : ByteArray) = ⟨(Wr.dg m).toArray⟩ := by
      apply ByteArray.ext
      apply Array.toList_inj.1
      rw [ByteArray.data_append, Array.toList_append, HBODY.out, ← hC]
      rfl
    have HRES := Lib.hid hres
    generalize (⟨(Cur.put C 4).toArray⟩ : ByteArray) = s4 at *
    clear hres
    --@6
    go_wp2
    go_ret2
    exact ⟨by first | rfl | (rw [HRES.out]; rfl), by first | exact HO5.out.then hoy | exact (HO5.out.then hoy).alloc _⟩
end Go.Proofs.YtdoiebbbgmlkaaaDoor.wr
