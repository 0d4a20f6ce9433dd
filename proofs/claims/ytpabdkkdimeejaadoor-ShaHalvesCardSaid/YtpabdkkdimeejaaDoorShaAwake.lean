/-
  THE WALK of the laws' awake.
-/
import Derived.Test.YtpabdkkdimeejaaDoorShaOf
import Derived.Test.YtpabdkkdimeejaaDoorGen9
import Derived.Lib.SlBytesConst
import Derived.Deep.QuietTactic
import Derived.BigQuiet
set_option linter.unusedVariables false
set_option linter.unusedSimpArgs false
namespace Go.Proofs.YtpabdkkdimeejaaDoor.sha
open Go Go.RowKit Go.Lm

theorem abc0 : (Sha.sum [97, 98, 99]).getD 0 0 = 186 ∧ (Sha.sum [97, 98, 99]).getD 31 0 = 173 := by decide +kernel
theorem eq_guard : Tryd.prog.eqGuardType Tryd.prog.depth 29 = false := by kernel_rfl
theorem info_u8' : ∃ i, Tryd.prog.info? 5 = some i := Option.isSome_iff_exists.1 (by kernel_rfl)
theorem eq_sums (a b : List UInt8) (ha : a.length = 32) (hb : b.length = 32) (w : World) : (Op.equalIn 10000 29 (.agg (a.map u8v).toArray) (.agg (b.map u8v).toArray)).run Tryd.prog w = .ok (a == b) w := by
  obtain ⟨i, hi⟩ := info_u8'
  exact run_equalIn_u8s Tryd.underlying29 hi Tryd.underlying5 (by kernel_rfl) a b ha hb w
theorem sum_cell (D : List UInt8) (w : World) (b : Nat) (t : TypeId) (h : w.heap[b]? = some (.cells (D.map u8v).toArray t (0, 0))) (i : Nat) (u : UInt8) (hi : i < D.length) (hu : D.getD i 0 = u) : w.cell? ⟨b, i, none⟩ = some (.int .u8 (u.toNat : Int)) := by
  simp only [World.cell?, h]
  subst hu
  simp [hi, u8v]

set_option maxRecDepth 100000 in
set_option maxHeartbeats 1000000 in
theorem awake_c (w : World) (hT : Tab w) : Calls Tryd.prog 7 #[] w fun e w' => e = .returned (.bool true) ∧ Only [] w w' := by
  have H0 := Lib.hid (tab_zero hT)
  have HT := Lib.hid hT; clear hT
  go_enter Tryd.func7, Tryd.ntmps7
  go_wp2_with fail
  refine (new_c w).mono ?_
  rintro e w1 ⟨rfl, hb1, ho1⟩
  have HB1 := Lib.hid hb1; have HO1 := Lib.hid ho1; clear hb1 ho1
  have kc := fun (w : World) (C : Array Value) (n c : Nat) => Lib.run_convert_bytes_const (P := Tryd.prog) w 26 5 C n c Tryd.underlying26 Tryd.underlying5
  go_wp2_with fail
  refine (write_c _ _ [] (HB1.out.only ((Only.refl [] _).alloc _) (by simp)) (HT.out.only (HO1.out.alloc _) (by simp)) (by have := H0.out; omega) _ [97] (BS.lit _ _ _ _ _ _ rfl rfl (by decide)) (by have := HO1.out.size; have := HB1.out.lt; simp [Value.ownBlock]; omega) (by decide)).mono ?_
  rintro e w2 ⟨rfl, hb2, ho2⟩
  have HO2 := Lib.hid (only_own (HO1.out.alloc _) ho2 (Nat.le_refl _)); have HB2 := Lib.hid hb2
  clear hb2 ho2
  go_wp2_with fail
  refine (write_c _ _ [97] (HB2.out.only ((Only.refl [] _).alloc _) (by simp)) (HT.out.only (HO2.out.alloc _) (by simp)) (by have := H0.out; omega) _ [98, 99] (BS.lit _ _ _ _ _ _ rfl rfl (by decide)) (by have := HB2.out.lt; simp [Value.ownBlock]; omega) (by decide)).mono ?_
  rintro e w3 ⟨rfl, hb3, ho3⟩
  have HO3 := Lib.hid (only_own (HO2.out.alloc _) ho3 (Nat.le_refl _)); have HB3 := Lib.hid hb3
  clear hb3 ho3
  go_wp2_with fail
  refine (of_c _ _ [97, 98, 99] (BS.lit _ _ _ _ _ _ rfl rfl (by decide)) (by decide) (HT.out.only (HO3.out.alloc _) (by simp))).mono ?_
  rintro e w4 ⟨rfl, ho4⟩
  have HO4 := Lib.hid ((HO3.out.alloc _).then ho4)
  have HB4 : Hid (HB w4 w.heap.size [97, 98, 99]) := (HB3.out.only ((Only.refl [] _).alloc _) (by simp)).only ho4 (by simp)
  clear ho4
  have hs := Sha.sum_length [97, 98, 99]
  obtain ⟨d0, d31⟩ := abc0
  have heq := fun w => eq_sums (Sha.sum [97, 98, 99]) (Sha.sum [97, 98, 99]) hs hs w
  rw [beq_self_eq_true] at heq
  have hsum := fun (w' : World) b2 b3 => sum_c w.heap.size w' [97, 98, 99] b2 b3 (by decide)
  rw [show dv (Sha.sum [97, 98, 99]) = .agg ((Sha.sum [97, 98, 99]).map u8v).toArray from rfl]
  generalize Sha.sum [97, 98, 99] = D at *
  obtain ⟨C, hC⟩ : ∃ C, (D.map u8v).toArray = C := ⟨_, rfl⟩
  have hcs : C.size = 32 := by rw [← hC]; simp [hs]
  have hci : (Tryd.prog.info? 29).map (·.size) = some C.size := by rw [hcs]; kernel_rfl
  have hc1 : C.all (·.oneCell') = true := by rw [← hC]; exact u8vs_one _
  rw [hC] at heq hsum ⊢
  have HC := Lib.hid hC; have HCS := Lib.hid hcs; have HCI := Lib.hid hci; have HC1 := Lib.hid hc1; have HHS := Lib.hid hs; have HHEQ := Lib.hid heq; have HHSUM := Lib.hid hsum; have HD0 := Lib.hid d0; have HD31 := Lib.hid d31
  clear hC hcs hci hc1 hs heq hsum d0 d31
  go_upto_region 5 with (refine wpList_store_row rfl 29 _ _ rfl w4.heap.size C rfl rfl _ _ (heap_alloc_new w4 _) HCI.out (by rw [HCS.out]; rfl) HC1.out ?_)
  try simp only [Act.put]
  have hx : ∀ z : Array Value, ((w4.alloc (.cells z 29)).setRow w4.heap.size C).heap[w4.heap.size]? = some (.cells C 29 (0, 0)) := fun z => setRow_heap _ _ z C _ _ (heap_alloc_new w4 _)
  have hox : ∀ z : Obj, Only [] w4 ((w4.alloc z).setRow w4.heap.size C) := fun z => ((Only.refl [] w4).alloc _).setRow (.inr (Nat.le_refl _)) C
  generalize hg : World.setRow _ _ _ = w5
  have hx5 := hg ▸ hx _
  have hox5 := hg ▸ hox _
  obtain ⟨sb, hsb⟩ : ∃ sb, w4.heap.size = sb := ⟨_, rfl⟩
  rw [hsb] at hx5 ⊢
  have HB5 : Hid (HB w5 w.heap.size [97, 98, 99]) := HB4.out.only hox5 (by simp)
  have HO5 := Lib.hid (HO4.out.then hox5)
  have HX5 := Lib.hid hx5
  have c0 : w5.cell? ⟨sb, 0, none⟩ = some (.int .u8 186) := sum_cell D w5 sb _ (by rw [HC.out]; exact hx5) 0 186 (by rw [HHS.out]; decide) HD0.out
  have c31 : w5.cell? ⟨sb, 31, none⟩ = some (.int .u8 173) := sum_cell D w5 sb _ (by rw [HC.out]; exact hx5) 31 173 (by rw [HHS.out]; decide) HD31.out
  clear hx hox hg hx5 hox5 hsb
  have hl0 := fun x : Later [] w5 => Later.cell c0 (by simp) x
  have hl31 := fun x : Later [] w5 => Later.cell c31 (by simp) x
  have heq := HHEQ.out
  have hgd := eq_guard
  refine wp_region_later [] (by kernel_rfl) (by kernel_rfl) ?_
  repeat (first
    | (refine wpQuiet_step (fun K hK => ?_); refine quiet_load_row rfl 29 _ rfl sb rfl C _ _ _ (by rintro _ ⟨x, rfl⟩; exact Later.heap HX5.out (by simp) x) Tryd.underlying29 rfl HCI.out (hK _ ?_); clear hK K; simp only [Act.put, List.setIfInBounds_toArray, List.set_cons_zero, List.set_cons_succ])
    | go_big_quiet_step (first
        | (go_at_call 10; exact Calls.later_nil (HHSUM.out _ (HB5.out.only (Later.only _) (by simp)) ((HT.out.only HO5.out (by simp)).only (Later.only _) (by simp))))))
  refine wpQuiet_nil ?_
  rintro _ ⟨x, rfl⟩
  have hxo := x.only
  have HX := Lib.hid hxo; clear hxo hl0 hl31 heq hgd
  generalize x.at' = w9 at HX ⊢
  go_wp2
  go_ret
  exact ⟨rfl, HO5.out.then HX.out⟩
end Go.Proofs.YtpabdkkdimeejaaDoor.sha
