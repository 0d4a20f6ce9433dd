/-
  The law CrcBits, walked: for every n and at the sum is the document's. No condition.
-/
import Derived.Test.YtoebpfnmgmnpoaaDoorCrcLengths
set_option linter.unusedVariables false
namespace Go.Proofs.YtoebpfnmgmnpoaaDoor.crc
open Go Go.RowKit Go.Lm

theorem Blk.madeSet (w : World) (e : TypeId) (n j : Nat) (u : UInt8) : Blk (w.alloc (.cells ((madeCells #[Value.int .u8 0] n).setIfInBounds j (u8v u)) e)) w.heap.size e ((List.replicate n 0).set j u) := by
  unfold Blk
  rw [heap_alloc_new]
  congr 2
  apply Array.toList_inj.1
  rw [Array.toList_setIfInBounds, toList_madeCells_one]
  simp [u8v]

set_option maxHeartbeats 400000 in
theorem bits_c (n at_ : Int) (hn0 : 0 ≤ n) (hn1 : n < 65536) (hc0 : 0 ≤ at_) (hc1 : at_ < 65536) (w : World) (hT : Tab w) :
    Calls Tryd.prog 6 #[.int .u16 n, .int .u16 at_] w fun e w' => e = .returned (.bool true) ∧ Below w.heap.size w w' := by
  have HT := Lib.hid hT; clear hT
  go_enter Tryd.func6, Tryd.ntmps6
  go_wp2_with fail
  refine (awake_c w HT.out).mono ?_
  rintro e w1 ⟨rfl, ho1⟩
  have HO1 := Lib.hid ho1; clear ho1
  obtain ⟨m, hm⟩ : ∃ m : Nat, (m : Int) = n % 200 := ⟨(n % 200).toNat, by omega⟩
  have hm4 : m < 200 := by omega
  have hmk := make_bytes w1 (m + 1) (by omega)
  rw [show ((m + 1 : Nat) : Int) = (m : Int) + 1 by omega] at hmk
  have e1 : n % 200 = (m : Int) := hm.symm
  clear hm
  obtain ⟨k, hk⟩ : ∃ k : Nat, (k : Int) = at_ % (8 * ((m : Int) + 1)) := ⟨(at_ % (8 * ((m : Int) + 1))).toNat, by have := Int.emod_nonneg at_ (show 8 * ((m : Int) + 1) ≠ 0 by omega); omega⟩
  have hk4 : k < 8 * (m + 1) := by have := Int.emod_lt_of_pos at_ (show 0 < 8 * ((m : Int) + 1) by omega); omega
  have e2 : at_ % (8 * ((m : Int) + 1)) = (k : Int) := hk.symm
  clear hk
  have hB := Blk.made w1 5 (m + 1)
  have hc := hB.cell (k / 8) (by simp; omega)
  have hf := hB.free (k / 8)
  have HB := Lib.hid hB; clear hB
  simp only [show (Value.int .u8 0).cells = #[Value.int .u8 0] by rfl, List.getElem_replicate] at hc hf
  go_wp2
  obtain ⟨u, hu, _⟩ := u8_of (x := (2 : Int) ^ (k % 8) % 256) (by omega) (by omega)
  rw [hu]
  clear hc hf hu HB hmk
  have hb3 := Blk.madeSet w1 5 (m + 1) (k / 8) u
  have ho3 : Only [] w (w1.alloc (.cells ((madeCells #[Value.int .u8 0] (m + 1)).setIfInBounds (k / 8) (u8v u)) 5)) := HO1.out.alloc _
  have hB0 : w1.heap.size < (w1.alloc (.cells ((madeCells #[Value.int .u8 0] (m + 1)).setIfInBounds (k / 8) (u8v u)) 5)).heap.size := by simp
  generalize World.alloc _ _ = w3 at hb3 ho3 hB0 ⊢
  generalize w1.heap.size = B at hb3 hB0 ⊢
  have hbs : BS w3 (.slice (some ⟨B, 0, none⟩) (m + 1) (m + 1)) ((List.replicate (m + 1) 0).set (k / 8) u) := hb3.bs _ _ (by simp) (Nat.le_refl _) (by unfold maxLen; omega)
  have hlen : ((List.replicate (m + 1) (0 : UInt8)).set (k / 8) u).length ≤ 1000000 := by simp; omega
  generalize (List.replicate (m + 1) (0 : UInt8)).set (k / 8) u = L at hbs hlen
  have hstr : ∀ x : Later [] w3, (convert 26 9 (.slice (some ⟨B, 0, none⟩) (m + 1) (m + 1))).run Tryd.prog x.at' = .ok (.string ⟨L.toArray⟩) x.at' := fun x =>
    run_string_of_bytes Tryd.underlying26 Tryd.underlying5 Tryd.underlying9 (hbs.only x.only (by simp))
  clear hb3
  have HO3 := Lib.hid ho3; clear ho3
  refine wp_region_later [] (by kernel_rfl) (by kernel_rfl) ?_
  repeat (go_big_quiet_step (first
    | (go_at_call 12; exact Calls.later (of_c _ _ L (hbs.only (Later.only _) (by simp)) hlen ((HT.out.only HO3.out (by simp)).only (Later.only _) (by simp))))
    | (go_at_call 11; exact Calls.later_same (ref_c _ _ (by simpa [ByteArray.size] using hlen)))))
  refine wpQuiet_nil ?_
  rintro _ ⟨x, rfl⟩
  have hx := x.only
  have HX := Lib.hid hx; clear hx hstr hbs
  generalize x.at' = w9 at HX ⊢
  go_wp2
  go_ret
  exact ⟨rfl, (HO3.out.then (HX.out.mono (by simp))).below (by simp) (Nat.le_refl _)⟩
end Go.Proofs.YtoebpfnmgmnpoaaDoor.crc
