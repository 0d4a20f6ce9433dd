/-
  The law ShaLengths, walked. No condition.
-/
import Derived.Test.YtpabdkkdimeejaaDoorShaEq
import Derived.Test.YtpabdkkdimeejaaDoorShaRefOf
import Derived.Deep.QuietTactic
import Derived.BigQuiet
set_option linter.unusedVariables false
set_option linter.unusedSimpArgs false
namespace Go.Proofs.YtpabdkkdimeejaaDoor.sha
open Go Go.RowKit Go.Lm

theorem make_bytes (w : World) (n : Nat) (hn : n ≤ 1000000) : (Instr.makeSlice 26 (.int .i64 (n : Int)) (.int .i64 (n : Int))).run Tryd.prog w =
    .ok (.slice (some ⟨w.heap.size, 0, none⟩) n n) (w.alloc (.cells (madeCells (Value.int .u8 0).cells n) 5)) := by
  obtain ⟨i0, hi, hz0, hz1, hz2⟩ := info_parts info_u8
  have := run_make (P := Tryd.prog) w 26 5 i0 (.int .u8 0) Tryd.underlying26 hi hz0 .i64 .i64 n n (by omega) (by omega) (by rw [hz2]; omega) (by omega)
  simpa [hz1] using this

set_option maxHeartbeats 1000000 in
theorem lengths_c (n c : Int) (hn0 : 0 ≤ n) (hn1 : n < 65536) (hc0 : 0 ≤ c) (hc1 : c < 256) (w : World) (hT : Tab w) :
    Calls Tryd.prog 4 #[.int .u16 n, .int .u8 c] w fun e w' => e = .returned (.bool true) ∧ Below w.heap.size w w' := by
  have HT := Lib.hid hT; clear hT
  go_enter Tryd.func4, Tryd.ntmps4
  go_wp2_with fail
  refine (awake_c w HT.out).mono ?_
  rintro e w1 ⟨rfl, ho1⟩
  have HO1 := Lib.hid ho1; clear ho1
  obtain ⟨m, hm⟩ : ∃ m : Nat, (m : Int) = n % 400 := ⟨(n % 400).toNat, by omega⟩
  have hm4 : m < 400 := by omega
  have hmk := make_bytes w1 m (by omega)
  have e1 : n % 400 = (m : Int) := hm.symm
  clear hm
  go_wp2
  have hB := Blk.made w1 5 m
  have hO : Only [] w (w1.alloc (.cells (madeCells (Value.int .u8 0).cells m) 5)) := HO1.out.alloc _
  have hlt : w.heap.size ≤ w1.heap.size := HO1.out.size
  obtain ⟨B, hBB⟩ : ∃ B, B = w1.heap.size := ⟨_, rfl⟩
  rw [← hBB] at hlt hB ⊢
  have HBB := Lib.hid hBB; clear hBB
  change Blk (w1.alloc (.cells (madeCells #[Value.int .u8 0] m) 5)) _ _ _ at hB
  change Only [] w (w1.alloc (.cells (madeCells #[Value.int .u8 0] m) 5)) at hO
  generalize World.alloc _ _ = w2 at hB hO ⊢
  have HB := Lib.hid hB; clear hB
  have HO := Lib.hid hO; clear hO
  clear HO1 hmk e1
  go_loopw [7] (fun i wr => ∃ k : Nat, ∃ L : List UInt8, k ≤ m ∧ i = .int .i64 k ∧ L.length = m ∧ Blk wr B 5 L ∧ Only [] w wr) (fun i _ => m - (intOf i).toNat)
  case atStart => exact ⟨0, _, Nat.zero_le _, rfl, by simp, HB.out, HO.out⟩
  case round =>
    obtain ⟨k, L, hk, rfl, hL, hb, ho⟩ := hrel
    by_cases hkm : k < m
    · have hc := hb.cell k (by omega)
      have hf := hb.free k
      have HB' := Lib.hid hb; clear hb
      have HO' := Lib.hid ho; clear ho
      go_wp2
      obtain ⟨u, hu, _⟩ := u8_of (x := (c + (k : Int) / 7) % 256) (by omega) (by omega)
      rw [hu]
      clear hc hf hu
      have hb3 := HB'.out.set k u
      have ho3 : Only [] w (wr.setCell ⟨B, k, none⟩ (u8v u)) := HO'.out.setCell (.inr hlt) _
      generalize World.setCell _ _ _ = w3 at hb3 ho3 ⊢
      have HB3 := Lib.hid hb3; clear hb3
      have HO3 := Lib.hid ho3; clear ho3
      go_wp2
      go_roundw
      case rel => exact ⟨k + 1, L.set k u, by omega, by go_num, by simpa using hL, HB3.out, HO3.out⟩
      case measure => simp [intOf]; omega
    · have HB' := Lib.hid hb; clear hb
      have HO' := Lib.hid ho; clear ho
      have HL := Lib.hid hL; clear hL
      go_wp2
      have hbs : BS wr (.slice (some ⟨B, 0, none⟩) m m) L := HB'.out.bs m m HL.out.symm (Nat.le_refl _) (by unfold maxLen; omega)
      have hstr : ∀ x : Later [] wr, (convert 26 9 (.slice (some ⟨B, 0, none⟩) m m)).run Tryd.prog x.at' = .ok (.string ⟨L.toArray⟩) x.at' := fun x =>
        run_string_of_bytes Tryd.underlying26 Tryd.underlying5 Tryd.underlying9 (hbs.only x.only (by simp))
      have heq := eql_same L
      have hgd := fun x y w => guard_dv .eql (Sha.sum L) (Sha.sum L) x y w
      refine wp_region_later [] (by kernel_rfl) (by kernel_rfl) ?_
      repeat (go_big_quiet_step (first
        | (go_at_call 12; exact Calls.later_nil (of_c _ _ L (hbs.only (Later.only _) (by simp)) (by have := HL.out; omega) ((HT.out.only HO'.out (by simp)).only (Later.only _) (by simp))))
        | (go_at_call 11; exact Calls.later_nil (ref_c ⟨L.toArray⟩ _ (by have := HL.out; simp [ByteArray.size]; omega)))))
      refine wpQuiet_nil ?_
      rintro _ ⟨x, rfl⟩
      have hx := x.only
      have HX := Lib.hid hx; clear hx hstr hbs heq hgd
      generalize x.at' = w9 at HX ⊢
      go_wp2
      go_ret
      exact ⟨rfl, (HO'.out.then (HX.out.mono (by simp))).below (by simp) (Nat.le_refl _)⟩
end Go.Proofs.YtpabdkkdimeejaaDoor.sha
