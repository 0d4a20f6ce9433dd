/-
  THE WALKS of package crc, each function once.
-/
import Derived.Test.YtdoiebbbgmlkaaaDoorRows
import Derived.Test.YtdoiebbbgmlkaaaDoorGen
import Derived.Test.YtdoiebbbgmlkaaaDoorCrcPlain
import Derived.StillTailTactics
import Derived.WalkSpells
import Derived.PlainAid
namespace Go.Proofs.YtdoiebbbgmlkaaaDoor.crc
open Go Go.RowKit Go.Lm

/-- The table of halves. -/
def Tab (w : World) : Prop := ∀ i, i < 16 → w.cell? ⟨0, i, none⟩ = some (.int .u32 (Crc.Hn i : Nat))

set_option maxHeartbeats 400000 in
theorem new_c (w : World) : Calls Tryd.prog 34 #[] w fun e w' => e = .returned (.pointer (some ⟨w.heap.size, 0, none⟩)) ∧ w'.heap[w.heap.size]? = some (.cells #[.int .u32 (4294967295 : Nat)] 84 (0, 0)) ∧ Only [] w w' := by
  go_enter Tryd.func34, Tryd.ntmps34
  go_wp2
  go_ret
  exact ⟨rfl, heap_alloc_new w _, (Only.refl _ _).alloc _⟩

theorem u32_not (x : Nat) (hx : x < 4294967296) : bits BinOp.xor IntKind.u32 IntKind.u32.max (x : Int) = ((4294967295 - x : Nat) : Int) := by
  rw [show IntKind.u32.max = ((4294967295 : Nat) : Int) by rfl, u32_xor_nat _ _ (by omega) hx]
  congr 1
  apply Nat.eq_of_testBit_eq
  intro j
  rw [Nat.testBit_xor, show 4294967295 = 2 ^ 32 - 1 by rfl, Nat.testBit_two_pow_sub_one, show 2 ^ 32 - 1 - x = 2 ^ 32 - (x + 1) by omega, Nat.testBit_two_pow_sub_succ (by omega)]
  by_cases hj : j < 32
  · simp [hj]
  · have h32 : (2 : Nat) ^ 32 ≤ 2 ^ j := Nat.pow_le_pow_right (by decide) (by omega)
    rw [Nat.testBit_lt_two_pow (show x < 2 ^ j by omega)]; simp [hj]

theorem u32_not' (x : Nat) (hx : x < 4294967296) : bits BinOp.xor IntKind.u32 (x : Int) 4294967295 = ((4294967295 - x : Nat) : Int) := by
  rw [← u32_not x hx, show IntKind.u32.max = ((4294967295 : Nat) : Int) by rfl, u32_xor_nat _ _ (by omega) hx, show (4294967295 : Int) = ((4294967295 : Nat) : Int) by rfl, u32_xor_nat _ _ hx (by omega), Nat.xor_comm]

theorem u32_low4 (y : Nat) (hy : y < 4294967296) : bits BinOp.and IntKind.u32 (y : Int) 15 = ((y % 16 : Nat) : Int) := by
  rw [show (15 : Int) = ((15 : Nat) : Int) by rfl, u32_and_nat _ _ hy (by omega), show (15 : Nat) = 2 ^ 4 - 1 by rfl, Nat.and_two_pow_sub_one_eq_mod]

theorem u32_h4 (y : Nat) (hy : y < 4294967296) : bits BinOp.xor IntKind.u32 ((y : Int) / 16) (Crc.Hn (y % 16) : Nat) = (Crc.h4 y : Nat) := by
  rw [show (y : Int) / 16 = ((y / 16 : Nat) : Int) by omega, u32_xor_nat _ _ (by omega) (Crc.Hn_lt _)]; rfl

set_option maxHeartbeats 400000 in
theorem sum_c (b x : Nat) (w : World) (hc : w.cell? ⟨b, 0, none⟩ = some (.int .u32 x)) (hx : x < 4294967296) :
    Calls Tryd.prog 36 #[.pointer (some ⟨b, 0, none⟩)] w fun e w' => e = .returned (.int .u32 (4294967295 - x : Nat)) ∧ w = w' := by
  go_enter Tryd.func36, Tryd.ntmps36
  go_wp2
  go_ret
  exact ⟨by simp [u32_not x hx], rfl⟩

set_option maxHeartbeats 400000 in
theorem write_c (b x : Nat) (w : World) (hx : x < 4294967296) (hb : w.heap[b]? = some (.cells #[.int .u32 x] 84 (0, 0))) (hT : Tab w) (hb0 : b ≠ 0) (a : Option Addr) (l : List UInt8) (cap : Nat)
    (hl : l.length ≤ 1000000) (hl8 : ∀ k (h : k < l.length), ∃ c off, a = some ⟨c, off, none⟩ ∧ c ≠ b ∧ w.cell? ⟨c, off + k, none⟩ = some (.int .u8 (l[k].toNat : Int))) :
    Calls Tryd.prog 35 #[.pointer (some ⟨b, 0, none⟩), .slice a l.length cap] w fun e w' => e = .returned (.tuple #[]) ∧ w'.heap[b]? = some (.cells #[.int .u32 (Crc.fold x l)] 84 (0, 0)) ∧ Only [b] w w' := by
  have HT := Lib.hid hT; clear hT
  have HL := Lib.hid hl8; clear hl8
  have HB := Lib.hid hb; clear hb
  go_enter Tryd.func35, Tryd.ntmps35
  go_wp2
  go_loopw [10] (fun i wr => ∃ k : Nat, k ≤ l.length ∧ i = .int .i64 k ∧ wr.heap[b]? = some (.cells #[.int .u32 (Crc.fold x (l.take k))] 84 (0, 0)) ∧ Only [b] w wr) (fun i _ => l.length - (intOf i).toNat)
  case atStart => exact ⟨0, Nat.zero_le _, rfl, HB.out, Only.refl _ _⟩
  case round =>
    obtain ⟨k, hk, rfl, hbr, hon⟩ := hrel
    have hc0 := cell_of_one hbr
    have hf0 := free_of_one hbr
    have HBR := Lib.hid hbr; clear hbr
    have HON := Lib.hid hon; clear hon
    by_cases hlt : k < l.length
    · obtain ⟨c, off, rfl, hcb, hcell⟩ := HL.out k hlt
      have hcr := HON.out.cell hcell (by simpa using hcb)
      clear hcell
      have HCB := Lib.hid hcb; clear hcb
      have hby := l[k].toNat_lt
      go_wp2
      rw [u32_xor_nat _ _ (Crc.fold_lt hx _) (by omega)]
      have hy : Crc.fold x (l.take k) ^^^ l[k].toNat < 4294967296 := Nat.xor_lt_two_pow (n := 32) (Crc.fold_lt hx _) (by omega)
      generalize hyy : Crc.fold x (l.take k) ^^^ l[k].toNat = y at hy ⊢
      have HYY := Lib.hid hyy; clear hyy
      generalize hw1 : World.setCell _ _ _ = w1
      have hb1 : w1.heap[b]? = some (.cells #[.int .u32 y] 84 (0, 0)) := hw1 ▸ one_setCell HBR.out
      have ho1 : Only [b] w w1 := hw1 ▸ HON.out.setCell (by simp) _
      clear hw1 HBR HON hc0 hf0
      have hc0 := cell_of_one hb1
      have hf0 := free_of_one hb1
      have HB1 := Lib.hid hb1; clear hb1
      have HO1 := Lib.hid ho1; clear ho1
      have han := u32_low4 y hy
      have h16 : y % 16 < 16 := Nat.mod_lt _ (by decide)
      have htab := HO1.out.cell (HT.out (y % 16) h16) (by simp; omega)
      go_region
      clear han h16 htab
      rw [u32_h4 y hy]
      generalize hw2 : World.drew _ = w2
      have hb2 : w2.heap[b]? = some (.cells #[.int .u32 (Crc.h4 y : Nat)] 84 (0, 0)) := hw2 ▸ one_setCell HB1.out
      have ho2 : Only [b] w w2 := hw2 ▸ (HO1.out.setCell (by simp) _).drew
      clear hw2 HB1 HO1 hc0 hf0
      have hc0 := cell_of_one hb2
      have hf0 := free_of_one hb2
      have HB2 := Lib.hid hb2; clear hb2
      have HO2 := Lib.hid ho2; clear ho2
      have hz : Crc.h4 y < 4294967296 := Crc.h4_lt hy
      generalize hzz : Crc.h4 y = z at hz hc0 HB2 ⊢
      have HZZ := Lib.hid hzz; clear hzz
      go_wp2
      have han := u32_low4 z hz
      have h16 : z % 16 < 16 := Nat.mod_lt _ (by decide)
      have htab := HO2.out.cell (HT.out (z % 16) h16) (by simp; omega)
      go_region
      clear han h16 htab
      rw [u32_h4 z hz]
      generalize hw3 : World.drew _ = w3
      have hb3 : w3.heap[b]? = some (.cells #[.int .u32 (Crc.h4 z : Nat)] 84 (0, 0)) := hw3 ▸ one_setCell HB2.out
      have ho3 : Only [b] w w3 := hw3 ▸ (HO2.out.setCell (by simp) _).drew
      clear hw3 HB2 HO2 hc0 hf0
      have hc0 := cell_of_one hb3
      have hf0 := free_of_one hb3
      have HB3 := Lib.hid hb3; clear hb3
      have HO3 := Lib.hid ho3; clear ho3
      clear hc0 hf0
      go_wp2
      go_roundw
      case rel => exact ⟨k + 1, by omega, by go_num, by rw [HB3.out, Crc.fold_take _ _ _ hlt, ← HZZ.out, ← HYY.out]; rfl, HO3.out⟩
      case measure => simp [intOf]; omega
    · go_wp2
      go_end0
      refine ⟨rfl, ?_, HON.out⟩
      have e : k = l.length := by omega
      rw [HBR.out, e, List.take_length]

theorem tab_zero {w : World} (h : Tab w) : 0 < w.heap.size := World.block_lt_of_cell? w _ (h 0 (by decide))
theorem Tab.only {S : List Nat} {w w' : World} (h : Tab w) (ho : Only S w w') (hS : 0 ∉ S) : Tab w' := fun i hi => ho.cell (h i hi) hS

/-- Sum, by the bytes so far. -/
theorem sum_l (b : Nat) (l : List UInt8) (w : World) (hc : w.cell? ⟨b, 0, none⟩ = some (.int .u32 (Crc.fold 4294967295 l : Nat))) :
    Calls Tryd.prog 36 #[.pointer (some ⟨b, 0, none⟩)] w fun e w' => e = .returned (.int .u32 (Crc.sum l : Nat)) ∧ w = w' :=
  sum_c b _ w hc (Crc.fold_lt (by omega) _)

/-- Write, by what the slice reads as. -/
theorem write_bs (b x : Nat) (w : World) (hx : x < 4294967296) (hb : w.heap[b]? = some (.cells #[.int .u32 x] 84 (0, 0))) (hT : Tab w) (hb0 : b ≠ 0) (v : Value) (l : List UInt8) (hv : BS w v l)
    (hl : l.length ≤ 1000000) (hvb : ∀ c, v.ownBlock = some c → l ≠ [] → c ≠ b) :
    Calls Tryd.prog 35 #[.pointer (some ⟨b, 0, none⟩), v] w fun e w' => e = .returned (.tuple #[]) ∧ w'.heap[b]? = some (.cells #[.int .u32 (Crc.fold x l)] 84 (0, 0)) ∧ Only [b] w w' := by
  obtain ⟨a, cap, rfl, _, _, _, hc⟩ := hv
  refine write_c b x w hx hb hT hb0 a l cap hl fun k hk => ?_
  obtain ⟨c, off, rfl, h⟩ := hc k hk
  exact ⟨c, off, rfl, hvb c rfl (by intro e; subst e; simp at hk), h⟩

set_option maxHeartbeats 400000 in
theorem of_c (w : World) (v : Value) (l : List UInt8) (hv : BS w v l) (hl : l.length ≤ 1000000) (hT : Tab w) :
    Calls Tryd.prog 23 #[v] w fun e w' => e = .returned (.int .u32 (Crc.sum l : Nat)) ∧ Only [] w w' := by
  have H0 := Lib.hid (tab_zero hT)
  have HT := Lib.hid hT; clear hT
  have HV := Lib.hid hv; clear hv
  go_enter Tryd.func23, Tryd.ntmps23
  go_wp2_with fail
  refine (new_c w).mono ?_
  rintro e w1 ⟨rfl, hb1, ho1⟩
  have HB1 := Lib.hid hb1; clear hb1
  have HO1 := Lib.hid ho1; clear ho1
  go_wp2_with fail
  refine (write_bs w.heap.size 4294967295 w1 (by omega) HB1.out (HT.out.only HO1.out (by simp)) (by have := H0.out; omega) v l (HV.out.only HO1.out (by simp)) hl (fun c hc hne => by have := HV.out.lt hne hc; omega)).mono ?_
  rintro e w2 ⟨rfl, hb2, ho2⟩
  have hc2 := cell_of_one hb2
  have HB2 := Lib.hid hb2; clear hb2
  have HO2 := Lib.hid ho2; clear ho2
  go_wp2_with fail
  refine (sum_c w.heap.size _ w2 hc2 (Crc.fold_lt (by omega) _)).mono ?_
  rintro e w3 ⟨rfl, rfl⟩
  go_wp2
  go_ret
  exact ⟨rfl, HO1.out.trans HO2.out (by simp) (by simp)⟩
end Go.Proofs.YtdoiebbbgmlkaaaDoor.crc
