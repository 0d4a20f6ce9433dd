/-
  THE WALK of (state).with.
-/
import Derived.Test.YtpgcfpfmicghnaaDoorShaBits
import Derived.Test.YtpgcfpfmicghnaaDoorGen6
import Derived.StillTailTactics
import Derived.Deep.RegionHeld3
import Derived.Deep.MidRow
import Derived.Laws.CopyOwn
import Derived.Deep.DeepCutAuto
import Derived.Outline
import Derived.OwnWalk
set_option linter.unusedVariables false
set_option linter.unusedSimpArgs false
namespace Go.Proofs.YtpgcfpfmicghnaaDoor.sha
open Go Go.RowKit Go.Lm

def u32v (x : Nat) : Value := .int .u32 (x : Int)
/-- Block b holds just these words. -/
def Wds (w : World) (b : Nat) (e : TypeId) (L : List Nat) : Prop := w.heap[b]? = some (.cells (L.map u32v).toArray e (0, 0))
theorem Wds.cell {w : World} {b : Nat} {e : TypeId} {L : List Nat} (h : Wds w b e L) (k : Nat) (hk : k < L.length) : w.cell? ⟨b, k, none⟩ = some (.int .u32 (L.getD k 0 : Nat)) := by
  unfold Wds at h; simp [World.cell?, h, hk, u32v]
theorem Wds.free {w : World} {b : Nat} {e : TypeId} {L : List Nat} (h : Wds w b e L) (k : Nat) : w.frozen? ⟨b, k, none⟩ = false := by
  unfold Wds at h; simp [World.frozen?, h]
theorem Wds.lt {w : World} {b : Nat} {e : TypeId} {L : List Nat} (h : Wds w b e L) : b < w.heap.size := lt_of_block h
theorem Wds.only {S : List Nat} {w w' : World} {b : Nat} {e : TypeId} {L : List Nat} (h : Wds w b e L) (ho : Only S w w') (hn : b ∉ S) : Wds w' b e L := ho.heap h hn
theorem Wds.set {w : World} {b : Nat} {e : TypeId} {L : List Nat} (h : Wds w b e L) (k x : Nat) : Wds (w.setCell ⟨b, k, none⟩ (.int .u32 x)) b e (L.set k x) := by
  unfold Wds at *
  rw [Go.Lm.heap_setCell_same h]
  congr 2
  apply Array.toList_inj.1
  simp [u32v]

/-- The table of the rounds. -/
def Tab (w : World) : Prop := ∀ i, i < 64 → w.cell? ⟨2, i, none⟩ = some (.int .u32 (Sha.K.getD i 0 : Nat))
theorem Tab.only {S : List Nat} {w w' : World} (h : Tab w) (ho : Only S w w') (hS : 2 ∉ S) : Tab w' := fun i hi => ho.cell (h i hi) hS

theorem run_index_agg {P : Program} {t e : TypeId} {n : Nat} {kd kd' : IntKind} {cs : Array Value} {i : Nat} {v : Value} (ht : P.underlying t = some (.array n e)) (he : P.underlying e = some (.int kd)) (hs : (P.info? e).map (·.size) = some 1) (hi : i < n) (hc : cs[i]? = some v) (w : World) :
    (Instr.index t (.agg cs) (.int kd' (i : Int))).run P w = .ok v w := by
  have h1 : (isAgg e).run P w = .ok false w := by
    unfold isAgg
    rw [Sem.run_bind, run_underlying he w]
    rfl
  have hcond : 0 ≤ (i : Int) ∧ (i : Int) < (n : Int) := by omega
  simp only [Instr.index, asIntOf, Sem.run_bind, Sem.run_pure, Result.andThen_ok, run_underlying ht w]
  rw [if_pos hcond]
  simp only [Sem.run_bind, Go.Lm.sizeOf_one hs w, Result.andThen_ok, part, h1, Int.toNat_natCast, Nat.mul_one, hc]
  rfl
theorem u32vs_one (l : List Nat) : (l.map u32v).toArray.all (·.oneCell') = true := by
  rw [Array.all_eq_true_iff_forall_mem]
  intro x hx
  simp only [List.mem_toArray, List.mem_map] at hx
  obtain ⟨n, _, rfl⟩ := hx
  rfl
theorem u32_not (x : Nat) (hx : x < 4294967296) : bits BinOp.xor IntKind.u32 IntKind.u32.max (x : Int) = ((4294967295 - x : Nat) : Int) := by
  rw [show IntKind.u32.max = ((4294967295 : Nat) : Int) by rfl, u32_xor_nat _ _ (by omega) hx]
  congr 1
  apply Nat.eq_of_testBit_eq
  intro j
  rw [Nat.testBit_xor, show 4294967295 = 2 ^ 32 - 1 by rfl, Nat.testBit_two_pow_sub_one, show 2 ^ 32 - 1 - x = 2 ^ 32 - (x + 1) by omega, Nat.testBit_two_pow_sub_succ (by omega)]
  by_cases hj : j < 32
  · simp [hj]
  · have h32 : (2 : Nat) ^ 32 ≤ 2 ^ j := Nat.pow_le_pow_right (by decide) (by omega)
    rw [Nat.testBit_lt_two_pow (show x < 2 ^ j by omega)]; simp [hj]
theorem quiet_add_same {P : Program} {f : FuncId} {args : Array Value} {w : World} {a n : Nat} {v : Value}
    (h : Calls P f args (w.drewN (a + n)) fun e w' => e = .returned v ∧ w' = w.drewN (a + n)) :
    Calls P f args (w.drewN (a + n)) fun e w'' => e = .returned v ∧ ∃ m, w'' = w.drewN (a + m) :=
  h.mono fun _ _ ⟨he, hm⟩ => ⟨he, n, hm⟩
theorem sum_one (a b c d e : Nat) : (((a : Int) + (b : Int) + (c : Int) + (d : Int)) % 4294967296 + (e : Int)) % 4294967296 = (((a + b + c + d + e) % 4294967296 : Nat) : Int) := by omega
theorem sum_two (a b : Nat) : ((a : Int) + (b : Int)) % 4294967296 = (((a + b) % 4294967296 : Nat) : Int) := by omega
theorem only_top {B : Nat} {a b c : World} (h : Only [B] a b) (k : Below B b c) (hs : a.heap.size ≤ B + 1) : Only [B] a c :=
  ⟨k.os.trans h.os, k.tape.trans h.tape, k.output.trans h.output, Nat.le_trans h.size k.size, fun i hi hn => by
    have hne : i ≠ B := by simpa using hn
    rw [k.block i (by omega), h.block i hi hn]⟩
theorem copy_src {w1 : World} {B4 : Nat} {a b c d e f g i : Nat} {t : TypeId} (h : Wds w1 B4 t [a, b, c, d, e, f, g, i]) : ∀ j v, [u32v a, u32v b, u32v c, u32v d, u32v e, u32v f, u32v g][j]? = some v → w1.cell? ((⟨B4, 0, none⟩ : Addr).add j) = some v := by
  intro j v hj
  rw [add_none, Nat.zero_add]
  unfold Wds at h
  simp only [World.cell?, h]
  have hl : j < 7 := (List.getElem?_eq_some_iff.1 hj).1
  have : j = 0 ∨ j = 1 ∨ j = 2 ∨ j = 3 ∨ j = 4 ∨ j = 5 ∨ j = 6 := by omega
  rcases this with rfl | rfl | rfl | rfl | rfl | rfl | rfl <;> simpa using hj
theorem sum4 (a b c d : Nat) : IntKind.u32.wrap (IntKind.u32.wrap (IntKind.u32.wrap ((a : Int) + (b : Int)) + (c : Int)) + (d : Int)) = (((a + b + c + d) % 4294967296 : Nat) : Int) := by
  simp only [IntKind.wrap_u32]; omega
theorem four_allocs (w : World) (o0 o1 o2 o3 : Obj) : ∀ W, (((w.alloc o0).alloc o1).alloc o2).alloc o3 = W → W.heap[w.heap.size]? = some o0 ∧ W.heap[w.heap.size + 1]? = some o1 ∧ W.heap[w.heap.size + 1 + 1]? = some o2 ∧ W.heap[w.heap.size + 1 + 1 + 1]? = some o3 ∧ Only [] w W ∧ W.heap.size = w.heap.size + 1 + 1 + 1 + 1 := by
  rintro W rfl
  refine ⟨?_, ?_, ?_, ?_, ((((Only.refl [] w).alloc _).alloc _).alloc _).alloc _, by simp⟩
  · rw [Below.heap_alloc _ _ _ (by simp; omega), Below.heap_alloc _ _ _ (by simp; omega), Below.heap_alloc _ _ _ (by simp)]; exact heap_alloc_new w _
  · rw [Below.heap_alloc _ _ _ (by simp), Below.heap_alloc _ _ _ (by simp)]; simpa using heap_alloc_new (w.alloc o0) o1
  · rw [Below.heap_alloc _ _ _ (by simp)]; simpa using heap_alloc_new ((w.alloc o0).alloc o1) o2
  · simpa using heap_alloc_new (((w.alloc o0).alloc o1).alloc o2) o3
theorem zeros64 : (#[.int .u32 0, .int .u32 0, .int .u32 0, .int .u32 0, .int .u32 0, .int .u32 0, .int .u32 0, .int .u32 0, .int .u32 0, .int .u32 0, .int .u32 0, .int .u32 0, .int .u32 0, .int .u32 0, .int .u32 0, .int .u32 0, .int .u32 0, .int .u32 0, .int .u32 0, .int .u32 0, .int .u32 0, .int .u32 0, .int .u32 0, .int .u32 0, .int .u32 0, .int .u32 0, .int .u32 0, .int .u32 0, .int .u32 0, .int .u32 0, .int .u32 0, .int .u32 0, .int .u32 0, .int .u32 0, .int .u32 0, .int .u32 0, .int .u32 0, .int .u32 0, .int .u32 0, .int .u32 0, .int .u32 0, .int .u32 0, .int .u32 0, .int .u32 0, .int .u32 0, .int .u32 0, .int .u32 0, .int .u32 0, .int .u32 0, .int .u32 0, .int .u32 0, .int .u32 0, .int .u32 0, .int .u32 0, .int .u32 0, .int .u32 0, .int .u32 0, .int .u32 0, .int .u32 0, .int .u32 0, .int .u32 0, .int .u32 0, .int .u32 0, .int .u32 0] : Array Value) = ((List.replicate 64 0).map u32v).toArray := by rfl

set_option maxRecDepth 100000 in
set_option maxHeartbeats 4000000 in
theorem with_c (w : World) (hT : Tab w) (h : List Nat) (h8 : Sha.W8 h) (l : List UInt8) (hl : l.length = 64) : Calls Tryd.prog 54 #[.agg (h.map u32v).toArray, .agg (l.map u8v).toArray] w fun e w' => e = .returned (.agg ((Sha.comp h l).map u32v).toArray) ∧ Only [] w w' := by
  obtain ⟨A, hA⟩ : ∃ A, A = (h.map u32v).toArray := ⟨_, rfl⟩
  obtain ⟨B, hB⟩ : ∃ B, B = (l.map u8v).toArray := ⟨_, rfl⟩
  rw [← hA, ← hB]
  have hBs : (Tryd.prog.info? 86).map (·.size) = some B.size := by rw [hB]; simp only [List.size_toArray, List.length_map, hl]; kernel_rfl
  have HA := Lib.hid hA; have HB := Lib.hid hB; have HT := Lib.hid hT; have HL := Lib.hid hl; have HBS := Lib.hid hBs
  clear hA hB hT hl hBs
  go_enter Tryd.func54, Tryd.ntmps54
  go_upto_region 2 with fail
  generalize hW : World.alloc (World.alloc (World.alloc (World.alloc w _) _) _) _ = W
  obtain ⟨g0, g1, g2, g3, ho, hsz⟩ := four_allocs w _ _ _ _ W hW
  clear hW
  rw [zeros64, ← Sha.wb_zero l] at g3
  have G0 := Lib.hid g0; have G1 := Lib.hid g1; have G2 := Lib.hid g2; have HO := Lib.hid ho; have HSZ := Lib.hid hsz
  have G3 : Hid (Wds W (w.heap.size + 1 + 1 + 1) 72 (Sha.wb l 0)) := g3
  clear g0 g1 g2 g3 ho hsz
  go_wp2_with (refine wpList_load_row rfl 86 _ rfl (w.heap.size + 1) rfl _ B _ _ G1.out Tryd.underlying86 rfl HBS.out ?_)
  go_loopw [17] (fun i wr => ∃ k : Nat, k ≤ 64 ∧ i = .int .i64 k ∧ Wds wr (w.heap.size + 1 + 1 + 1) 72 (Sha.wb l k) ∧ Only [w.heap.size + 1 + 1 + 1] W wr) (fun i _ => 64 - (intOf i).toNat)
  case atStart => exact ⟨0, by omega, rfl, G3.out, Only.refl _ _⟩
  case round =>
    obtain ⟨k, hk, rfl, hw3, hor⟩ := hrel
    have HW3 := Lib.hid hw3; have HOR := Lib.hid hor
    clear hw3 hor
    by_cases hlt : k < 64
    · have hix : ∀ w, (Instr.index 86 (.agg B) (.int .i64 (k : Int))).run Tryd.prog w = .ok (.int .u8 ((l[k]'(by have := HL.out; omega)).toNat : Int)) w := fun w =>
        run_index_agg Tryd.underlying86 Tryd.underlying5 (by kernel_rfl) hlt (by rw [HB.out]; have := HL.out; simp [u8v, this, hlt]) w
      obtain ⟨c, hc⟩ : ∃ c : UInt8, c = l[k]'(by have := HL.out; omega) := ⟨_, rfl⟩
      rw [← hc] at hix
      obtain ⟨X, hX⟩ : ∃ X, X = (Sha.wb l k).getD (k / 4) 0 := ⟨_, rfl⟩
      have hcell := HW3.out.cell (k / 4) (by rw [Sha.wb_length]; omega)
      have hfr := HW3.out.free (k / 4)
      rw [← hX] at hcell
      have hXl : X < 4294967296 := by rw [hX]; exact Sha.getD_lt (Sha.wb_lt l k) _
      have hor := u32_or_nat (X * 256 % 4294967296) c.toNat (Nat.mod_lt _ (by decide)) (by have := c.toNat_lt; omega)
      have hor' : bits .or .u32 ((X : Int) * 256 % 4294967296) (c.toNat : Int) = ((X * 256 % 4294967296 ||| c.toNat : Nat) : Int) := by rw [← hor]; congr 1
      have hset := Sha.wb_succ l k (by have := HL.out; omega) hlt
      rw [← hc, ← hX] at hset
      have HC := Lib.hid hc; have HX := Lib.hid hX; have HOR' := Lib.hid hor'; have HSET := Lib.hid hset
      have hcb := c.toNat_lt
      clear hor hor' hc hX hset
      go_wp2_with fail
      rw [HOR'.out]
      have hs := HW3.out.set (k / 4) (X * 256 % 4294967296 ||| c.toNat)
      rw [← HSET.out] at hs
      have hos := HOR.out.setCell (p := ⟨w.heap.size + 1 + 1 + 1, k / 4, none⟩) (.inl (by simp)) (.int .u32 (X * 256 % 4294967296 ||| c.toNat : Nat))
      generalize World.setCell _ _ _ = w2 at hs hos ⊢
      have HS := Lib.hid hs; have HOS := Lib.hid hos
      clear hs hos hcell hfr hix
      go_wp2_with fail
      go_roundw
      case rel => exact ⟨k + 1, by omega, by go_num, HS.out, HOS.out⟩
      case measure => simp [intOf]; omega
    · obtain rfl : k = 64 := by omega
      rw [Sha.wb_all l HL.out] at HW3
      obtain ⟨W2, hW2⟩ : ∃ W2, W2 = wr := ⟨_, rfl⟩
      subst hW2
      have HW : Hid (Wds W2 (w.heap.size + 1 + 1 + 1) 72 (Sha.wz (Sha.sch l 0))) := HW3.out
      clear HW3 hk hlt
      go_upto_region 8 with fail
      rw [show ((64 : Nat) : Int) = 64 from rfl]
      go_loopw [8] (fun i wr => ∃ n : Nat, n ≤ 48 ∧ i = .int .i64 ((16 + n : Nat) : Int) ∧ Wds wr (w.heap.size + 1 + 1 + 1) 72 (Sha.wz (Sha.sch l n)) ∧ Only [w.heap.size + 1 + 1 + 1] W wr) (fun i _ => 64 - (intOf i).toNat)
      case atStart => exact ⟨0, by omega, rfl, HW.out, HOR.out⟩
      case round =>
        obtain ⟨n, hn, rfl, hw3, hor⟩ := hrel
        have HW3 := Lib.hid hw3; have HOR := Lib.hid hor
        clear hw3 hor
        have hlen := Sha.sch_length l n
        have hslt := Sha.sch_lt l n
        obtain ⟨t, ht⟩ : ∃ t, 16 + n = t := ⟨_, rfl⟩
        by_cases hlt : n < 48
        · have hext : Sha.sch l (n + 1) = Sha.ext (Sha.sch l n) := rfl
          obtain ⟨ws, hws⟩ : ∃ ws, Sha.sch l n = ws := ⟨_, rfl⟩
          rw [hws] at HW3 hlen hslt hext
          rw [ht] at hlen ⊢
          have htb : 16 ≤ t ∧ t < 64 := by omega
          obtain ⟨a, ha⟩ : ∃ a : Nat, (t : Int) - 16 = (a : Int) := ⟨t - 16, by omega⟩
          obtain ⟨b, hb⟩ : ∃ b : Nat, (t : Int) - 15 = (b : Int) := ⟨t - 15, by omega⟩
          obtain ⟨c, hc⟩ : ∃ c : Nat, (t : Int) - 7 = (c : Int) := ⟨t - 7, by omega⟩
          obtain ⟨d, hd⟩ : ∃ d : Nat, (t : Int) - 2 = (d : Int) := ⟨t - 2, by omega⟩
          have ca := HW3.out.cell a (by rw [Sha.wz_length _ (by omega)]; omega)
          have cb := HW3.out.cell b (by rw [Sha.wz_length _ (by omega)]; omega)
          have cc := HW3.out.cell c (by rw [Sha.wz_length _ (by omega)]; omega)
          have cd := HW3.out.cell d (by rw [Sha.wz_length _ (by omega)]; omega)
          have ct := HW3.out.cell t (by rw [Sha.wz_length _ (by omega)]; omega)
          have hfr := HW3.out.free t
          rw [Sha.wz_get _ _ (by omega)] at ca cb cc cd
          have hset := Sha.wz_set ws ((ws.getD a 0 + Sha.sml (ws.getD b 0) 7 18 3 + ws.getD c 0 + Sha.sml (ws.getD d 0) 17 19 10) % 4294967296) (by omega)
          have hset' : (Sha.wz ws).set t ((ws.getD a 0 + Sha.sml (ws.getD b 0) 7 18 3 + ws.getD c 0 + Sha.sml (ws.getD d 0) 17 19 10) % 4294967296) = Sha.wz (Sha.sch l (n + 1)) := by
            rw [← hlen, hset, hext, Sha.ext, show ws.length - 16 = a by omega, show ws.length - 15 = b by omega, show ws.length - 7 = c by omega, show ws.length - 2 = d by omega]
          have ha64 : (a : Int) < 64 := by omega
          have hb64 : (b : Int) < 64 := by omega
          have hc64 : (c : Int) < 64 := by omega
          have hd64 : (d : Int) < 64 := by omega
          have lA := Sha.getD_lt hslt a; have lB := Sha.getD_lt hslt b; have lC := Sha.getD_lt hslt c; have lD := Sha.getD_lt hslt d
          have HT1 := Lib.hid ht; have HSET := Lib.hid hset'; have HLEN := Lib.hid hlen; have HN := Lib.hid hlt
          clear hset hset' hext hws hslt hlen hn ht hlt
          generalize ws.getD a 0 = xa at *
          generalize ws.getD b 0 = xb at *
          generalize ws.getD c 0 = xc at *
          generalize ws.getD d 0 = xd at *
          go_upto_region 10 with fail
          have wa : IntKind.i64.wrap ((t : Int) - 16) = (a : Int) := by rw [IntKind.wrap_i64]; omega
          have wb : IntKind.i64.wrap ((t : Int) - 15) = (b : Int) := by rw [IntKind.wrap_i64]; omega
          have wc : IntKind.i64.wrap ((t : Int) - 7) = (c : Int) := by rw [IntKind.wrap_i64]; omega
          have wd : IntKind.i64.wrap ((t : Int) - 2) = (d : Int) := by rw [IntKind.wrap_i64]; omega
          have za : (0 : Int) ≤ (a : Int) := by omega
          have zb : (0 : Int) ≤ (b : Int) := by omega
          have zc : (0 : Int) ≤ (c : Int) := by omega
          have zd : (0 : Int) ≤ (d : Int) := by omega
          have zt : (0 : Int) ≤ (t : Int) := by omega
          have zt2 : (t : Int) < 64 := by omega
          have na : ¬ t = a := by omega
          have nb : ¬ t = b := by omega
          have nc : ¬ t = c := by omega
          have nd : ¬ t = d := by omega
          have HTB := Lib.hid htb
          clear ha hb hc hd htb
          go_region_held3 (fun w' => w'.cell? ⟨w.heap.size + 1 + 1 + 1, a, none⟩ = some (.int .u32 xa) ∧ w'.cell? ⟨w.heap.size + 1 + 1 + 1, b, none⟩ = some (.int .u32 xb) ∧ w'.cell? ⟨w.heap.size + 1 + 1 + 1, c, none⟩ = some (.int .u32 xc) ∧ w'.cell? ⟨w.heap.size + 1 + 1 + 1, d, none⟩ = some (.int .u32 xd)) (first | go_keep | exact ⟨(World.cell?_setCell_other _ _ _ _ (fun e => by injection e with _ e; exact na e)).trans ca, (World.cell?_setCell_other _ _ _ _ (fun e => by injection e with _ e; exact nb e)).trans cb, (World.cell?_setCell_other _ _ _ _ (fun e => by injection e with _ e; exact nc e)).trans cc, (World.cell?_setCell_other _ _ _ _ (fun e => by injection e with _ e; exact nd e)).trans cd⟩)
            (first
              | (go_at_call 56; (with_reducible refine (part_7 xb lB _).mono ?_); rintro e w' ⟨rfl, nq, rfl⟩)
              | (go_at_call 56; (with_reducible refine (part_17 xd lD _).mono ?_); rintro e w' ⟨rfl, nq, rfl⟩))
          rw [sum4]
          have hs : ∀ m, Wds ((wr.drewN m).setCell ⟨w.heap.size + 1 + 1 + 1, t, none⟩ (.int .u32 ((xa + Sha.sml xb 7 18 3 + xc + Sha.sml xd 17 19 10) % 4294967296 : Nat))) (w.heap.size + 1 + 1 + 1) 72 (Sha.wz (Sha.sch l (n + 1))) := fun m => by
            rw [← HSET.out]; exact (HW3.out.only ((Only.refl [] wr).drewN m) (by simp)).set t _
          have hos : ∀ m, Only [w.heap.size + 1 + 1 + 1] W ((wr.drewN m).setCell ⟨w.heap.size + 1 + 1 + 1, t, none⟩ (.int .u32 ((xa + Sha.sml xb 7 18 3 + xc + Sha.sml xd 17 19 10) % 4294967296 : Nat))) := fun m => (HOR.out.drewN m).setCell (.inl (by simp)) _
          generalize hg : World.setCell _ _ _ = w9
          have hs9 := hg ▸ hs _
          have hos9 := hg ▸ hos _
          have HS9 := Lib.hid hs9; have HOS9 := Lib.hid hos9
          clear hs hos hs9 hos9 hg ca cb cc cd ct hfr HW3 HOR wa wb wc wd na nb nc nd za zb zc zd
          go_wp2_with fail
          go_roundw
          case rel => exact ⟨n + 1, by have := HN.out; omega, by have := HT1.out; go_num, HS9.out, HOS9.out⟩
          case measure => have := HTB.out; simp [intOf]; omega
        · obtain rfl : n = 48 := by omega
          have hfull : Sha.wz (Sha.sch l 48) = Sha.sch l 48 := by simp [Sha.wz, hlen]
          rw [hfull] at HW3
          subst ht
          obtain ⟨W3, hW3⟩ : ∃ W3, W3 = wr := ⟨_, rfl⟩
          subst hW3
          clear hn hlt hfull
          obtain ⟨WS, hWS⟩ : ∃ WS, Sha.sch l 48 = WS := ⟨_, rfl⟩
          rw [hWS] at HW3 hlen hslt
          have HWS := Lib.hid hWS; have HLEN := Lib.hid hlen; have HSLT := Lib.hid hslt
          clear hWS hlen hslt
          have hasz : A.size = 8 := by rw [HA.out]; simp [h8.1]
          have hai : (Tryd.prog.info? 85).map (·.size) = some A.size := by rw [hasz]; kernel_rfl
          have ha1 : A.all (·.oneCell') = true := by rw [HA.out]; exact u32vs_one h
          have g0 := HOR.out.heap G0.out (by simp; omega)
          have HAS := Lib.hid hasz; have HAI := Lib.hid hai; have HA1 := Lib.hid ha1; have HG0 := Lib.hid g0
          clear hasz hai ha1 g0
          go_upto_region 12 with (first
            | (refine wpList_load_row rfl 85 _ rfl w.heap.size rfl _ A _ _ HG0.out Tryd.underlying85 rfl HAI.out ?_)
            | (refine wpList_store_row rfl 85 _ _ rfl W3.heap.size A rfl rfl _ _ (heap_alloc_new W3 _) HAI.out HAS.out.symm HA1.out ?_))
          try simp only [Act.put]
          have hb4 : ∀ z, ((W3.alloc (.cells z 85)).setRow W3.heap.size A).heap[W3.heap.size]? = some (.cells A 85 (0, 0)) := fun z => setRow_heap _ _ z A _ _ (heap_alloc_new W3 _)
          have ho4 : ∀ z : Obj, Only [] W3 ((W3.alloc z).setRow W3.heap.size A) := fun z => ((Only.refl [] W3).alloc _).setRow (.inr (Nat.le_refl _)) A
          generalize hg : World.setRow _ _ _ = W4
          have hb4' := hg ▸ hb4 _
          have ho4' := hg ▸ ho4 _
          have hV : Wds W4 W3.heap.size 85 h := by unfold Wds; rw [← HA.out]; exact hb4'
          have HV := Lib.hid hV
          have HW4 := Lib.hid (HW3.out.only ho4' (by simp))
          have HG04 := Lib.hid (ho4'.heap HG0.out (by simp))
          have HO4 : Hid (Only [] w W4) := (HO.out.trans HOR.out (by simp) (by simp; omega)).then ho4'
          have HG24 := Lib.hid (ho4'.heap (HOR.out.heap G2.out (by simp)) (by simp))
          have HSZ4 : Hid (w.heap.size + 1 + 1 + 1 < W3.heap.size) := by have := HW3.out.lt; exact this
          have htop : W4.heap.size = W3.heap.size + 1 := by rw [← hg]; simp [World.setRow]
          have HTOP := Lib.hid htop
          clear htop
          clear hb4 ho4 hg hb4' ho4' hV HW3 HG0 HOR
          generalize W3.heap.size = B4 at *
          have HTB : Hid (Tab W4) := HT.out.only HO4.out (by simp)
          go_wp2_with fail
          go_loopw [61] (fun i wr => ∃ t : Nat, t ≤ 64 ∧ i = .int .i64 t ∧ Wds wr B4 85 (Sha.rnds WS h t) ∧ Only [B4] W4 wr) (fun i _ => 64 - (intOf i).toNat)
          case atStart => exact ⟨0, by omega, rfl, HV.out, Only.refl _ _⟩
          case round =>
            obtain ⟨t, ht, rfl, hv, hov⟩ := hrel
            by_cases hlt : t < 64
            · obtain ⟨a, b, c, d, e, f, g, i, hst, la, lb, lc, ld, le, lf, lg, li⟩ := ((h8.rnds WS t)).parts
              have hnext : Sha.rnds WS h (t + 1) = Sha.rnd (Sha.rnds WS h t) (Sha.K.getD t 0) (WS.getD t 0) := rfl
              rw [hst] at hv hnext
              rw [Sha.rnd_eight] at hnext
              have c0 := hv.cell 0 (by simp)
              have c1 := hv.cell 1 (by simp)
              have c2 := hv.cell 2 (by simp)
              have c3 := hv.cell 3 (by simp)
              have c4 := hv.cell 4 (by simp)
              have c5 := hv.cell 5 (by simp)
              have c6 := hv.cell 6 (by simp)
              have c7 := hv.cell 7 (by simp)
              have hf := hv.free
              simp only [List.getD_cons_zero, List.getD_cons_succ] at c0 c1 c2 c3 c4 c5 c6 c7
              have hk := (HTB.out.only hov (by have := HSZ4.out; simp; omega)) t hlt
              have hw := (HW4.out.only hov (by have := HSZ4.out; simp; omega)).cell t (by rw [HLEN.out]; omega)
              obtain ⟨kt, hkt⟩ : ∃ kt, Sha.K.getD t 0 = kt := ⟨_, rfl⟩
              obtain ⟨wt, hwt⟩ : ∃ wt, WS.getD t 0 = wt := ⟨_, rfl⟩
              rw [hkt] at hk hnext
              rw [hwt] at hw hnext
              have zt : (0 : Int) ≤ (t : Int) := by omega
              have zt2 : (t : Int) < 64 := by omega
              have x1 := u32_and_nat e f le lf
              have x2 : bits .xor .u32 (if IntKind.u32.signed = true then -1 else IntKind.u32.max) (e : Int) = ((4294967295 - e : Nat) : Int) := u32_not e le
              have x3 := u32_and_nat (4294967295 - e) g (by omega) lg
              have x4 := u32_xor_nat (e &&& f) ((4294967295 - e) &&& g) (Nat.and_lt_two_pow (n := 32) _ lf) (Nat.and_lt_two_pow (n := 32) _ lg)
              have x5 := u32_and_nat a b la lb
              have x6 := u32_and_nat a c la lc
              have x7 := u32_and_nat b c lb lc
              have x8 := u32_xor_nat (a &&& b) (a &&& c) (Nat.and_lt_two_pow (n := 32) _ lb) (Nat.and_lt_two_pow (n := 32) _ lc)
              have x9 := u32_xor_nat ((a &&& b) ^^^ (a &&& c)) (b &&& c) (Nat.xor_lt_two_pow (n := 32) (Nat.and_lt_two_pow (n := 32) _ lb) (Nat.and_lt_two_pow (n := 32) _ lc)) (Nat.and_lt_two_pow (n := 32) _ lc)
              have HST := Lib.hid hst; have HN := Lib.hid hnext; have HKT := Lib.hid hkt; have HWT := Lib.hid hwt; have HV4 := Lib.hid hv; have HOV := Lib.hid hov
              clear hst hnext hkt hwt hv hov
              go_upto_region 15 with fail
              go_quiet (fail)
              go_upto_region 16 with fail
              go_quiet ((go_at_call 57; exact quiet_add_same ((turned_6 e le _).mono fun _ _ h => ⟨h.1, h.2.symm⟩)))
              go_upto_region 17 with fail
              go_quiet ((go_at_call 57; exact quiet_add_same ((turned_2 a la _).mono fun _ _ h => ⟨h.1, h.2.symm⟩)))
              go_upto_region 18 with fail
              have hone : Sha.one e f g i kt wt = (i + Sha.big e 6 11 25 + (e &&& f ^^^ (4294967295 - e) &&& g) + kt + wt) % 4294967296 := rfl
              have htwo : Sha.two a b c = (Sha.big a 2 13 22 + (a &&& b ^^^ a &&& c ^^^ b &&& c)) % 4294967296 := rfl
              rw [sum_one, sum_two (Sha.big a 2 13 22)]
              rw [← hone, ← htwo]
              generalize hgw : World.drewN (World.drewN (World.drewN wr _) _) _ = w1
              have hv1 : Wds w1 B4 85 [a, b, c, d, e, f, g, i] := hgw ▸ HV4.out
              have hov1 : Only [B4] W4 w1 := hgw ▸ ((HOV.out.drewN _).drewN _).drewN _
              have HV1 := Lib.hid hv1; have HOV1 := Lib.hid hov1
              clear hone htwo hgw hv1 hov1 HV4 HOV x1 x2 x3 x4 x5 x6 x7 x8 x9 c0 c1 c2 c3 c4 c5 c6 c7 hf hk hw
              generalize Sha.one e f g i kt wt = one1 at *
              generalize Sha.two a b c = two1 at *
              go_region_law (refine step_copy_splice rfl (.tmp 110) (.tmp 111) 93 93 rfl 33 Tryd.underlying93 (by kernel_rfl) (some ⟨B4, 1, none⟩) (some ⟨B4, 0, none⟩) 7 7 7 8 rfl rfl B4 1 [u32v a, u32v b, u32v c, u32v d, u32v e, u32v f, u32v g, u32v i] 85 HV1.out [u32v a, u32v b, u32v c, u32v d, u32v e, u32v f, u32v g] rfl (fun _ => ⟨rfl, _, rfl, copy_src HV1.out⟩) (Nat.le_refl 8) (fun v hv => by simp only [List.mem_cons, List.not_mem_nil, or_false] at hv; rcases hv with rfl | rfl | rfl | rfl | rfl | rfl | rfl <;> rfl) B4 w1.drew (Below.refl _ _) (Nat.le_refl _) ?_; intro w2 HG2 hb2)
              have hv2 : Wds w2 B4 85 [a, a, b, c, d, e, f, g] := HG2.out
              have hov2 := only_top HOV1.out.drew hb2 (by have := HTOP.out; omega)
              clear HG2 hb2 HV1
              have d0 := hv2.cell 0 (by simp)
              have d4 := hv2.cell 4 (by simp)
              have hf := hv2.free
              have hf0 := hf 0
              have hf4 := hf 4
              simp only [List.getD_cons_zero, List.getD_cons_succ] at d0 d4
              have HV2 := Lib.hid hv2; have HOV2 := Lib.hid hov2
              clear hv2 hov2 hf
              go_upto_region 20 with fail
              rw [sum_two d one1]
              generalize hgw : World.setCell _ _ _ = w3
              have hv3 : Wds w3 B4 85 [a, a, b, c, (d + one1) % 4294967296, e, f, g] := hgw ▸ HV2.out.set 4 _
              have hov3 : Only [B4] W4 w3 := hgw ▸ HOV2.out.setCell (.inl (by simp)) _
              have d0 := hv3.cell 0 (by simp)
              have hf0 := hv3.free 0
              simp only [List.getD_cons_zero, List.getD_cons_succ] at d0
              have HV3 := Lib.hid hv3; have HOV3 := Lib.hid hov3
              clear hgw hv3 hov3 HV2 HOV2 d4 hf4
              go_upto_region 21 with fail
              rw [sum_two one1 two1]
              generalize hgw : World.setCell _ _ _ = w4
              have hv4 : Wds w4 B4 85 (Sha.rnds WS h (t + 1)) := by rw [HN.out]; exact hgw ▸ HV3.out.set 0 _
              have hov4 : Only [B4] W4 w4 := hgw ▸ HOV3.out.setCell (.inl (by simp)) _
              have HV4 := Lib.hid hv4; have HOV4 := Lib.hid hov4
              clear hgw hv4 hov4 HV3 HOV3 d0 hf0
              go_wp2_with fail
              go_roundw
              case rel => exact ⟨t + 1, by omega, by go_num, HV4.out, HOV4.out⟩
              case measure => simp [intOf]; omega
            · obtain rfl : t = 64 := by omega
              obtain ⟨R, hR⟩ : ∃ R, Sha.rnds WS h 64 = R := ⟨_, rfl⟩
              have hR8 : R.length = 8 := by rw [← hR]; exact (h8.rnds WS 64).1
              rw [hR] at hv
              have hcomp : Sha.sumTo R h 8 = Sha.comp h l := by rw [Sha.sumTo_all R h hR8 h8.1, ← hR, ← HWS.out]; rfl
              obtain ⟨W5, hW5⟩ : ∃ W5, W5 = wr := ⟨_, rfl⟩
              subst hW5
              have HR8 := Lib.hid hR8; have HC := Lib.hid hcomp; have H8 := Lib.hid h8; have HV := Lib.hid hv
              have HHL := Lib.hid h8.1
              have HS0 : Hid (Wds W5 w.heap.size 85 h) := by unfold Wds; rw [← HA.out]; exact hov.heap HG04.out (by have := HSZ4.out; simp; omega)
              have HG2 := Lib.hid (hov.heap HG24.out (by have := HSZ4.out; simp; omega))
              have HOV := Lib.hid hov
              clear hR hR8 hcomp hv hov ht hlt h8
              go_upto_region 23 with fail
              rw [show ((64 : Nat) : Int) = 64 from rfl]
              go_loopw [123] (fun i wr => ∃ t : Nat, t ≤ 8 ∧ i = .int .i64 t ∧ Wds wr B4 85 (Sha.sumTo R h t) ∧ Only [B4] W5 wr) (fun i _ => 8 - (intOf i).toNat)
              case atStart => exact ⟨0, by omega, rfl, by rw [Sha.sumTo_zero]; exact HV.out, Only.refl _ _⟩
              case round =>
                obtain ⟨t, ht, rfl, hv, hov⟩ := hrel
                by_cases hlt : t < 8
                · have hget := Sha.sumTo_get R h t HR8.out HHL.out hlt
                  have hsucc := Sha.sumTo_succ R h t HR8.out HHL.out hlt
                  have c1 := hv.cell t (by rw [Sha.sumTo_length R h t HR8.out HHL.out ht]; exact hlt)
                  have c2 := (HS0.out.only hov (by have := HSZ4.out; simp; omega)).cell t (by rw [HHL.out]; exact hlt)
                  have hf := hv.free t
                  rw [hget] at c1
                  have zt : (0 : Int) ≤ (t : Int) := by omega
                  have zt2 : (t : Int) < 8 := by omega
                  obtain ⟨x, hx⟩ : ∃ x, R.getD t 0 = x := ⟨_, rfl⟩
                  obtain ⟨y, hy⟩ : ∃ y, h.getD t 0 = y := ⟨_, rfl⟩
                  rw [hx] at c1 hsucc
                  rw [hy] at c2 hsucc
                  have HSU := Lib.hid hsucc; have HV5 := Lib.hid hv; have HOV5 := Lib.hid hov
                  clear hget hsucc hx hy hv hov
                  go_upto_region 25 with fail
                  go_region
                  rw [sum_two x y]
                  have hs6 : Wds ((wr.setCell ⟨B4, t, none⟩ (.int .u32 ((x + y) % 4294967296 : Nat))).drew) B4 85 (Sha.sumTo R h (t + 1)) := by
                    rw [← HSU.out]; exact (HV5.out.set t _)
                  have ho6 : Only [B4] W5 ((wr.setCell ⟨B4, t, none⟩ (.int .u32 ((x + y) % 4294967296 : Nat))).drew) := (HOV5.out.setCell (.inl (by simp)) _).drew
                  generalize World.drew _ = w6 at *
                  have HS6 := Lib.hid hs6; have HO6 := Lib.hid ho6
                  clear hs6 ho6 c1 c2 hf HV5 HOV5 HSU
                  go_wp2_with fail
                  go_roundw
                  case rel => exact ⟨t + 1, by omega, by go_num, HS6.out, HO6.out⟩
                  case measure => simp [intOf]; omega
                · obtain rfl : t = 8 := by omega
                  rw [HC.out] at hv
                  obtain ⟨C, hC⟩ : ∃ C, ((Sha.comp h l).map u32v).toArray = C := ⟨_, rfl⟩
                  have hlen : (Sha.comp h l).length = 8 := (H8.out.comp l).1
                  have hcs : C.size = 8 := by rw [← hC]; simp [hlen]
                  have hci : (Tryd.prog.info? 85).map (·.size) = some C.size := by rw [hcs]; kernel_rfl
                  have hc1 : C.all (·.oneCell') = true := by rw [← hC]; exact u32vs_one _
                  have hv' : wr.heap[B4]? = some (.cells C 85 (0, 0)) := by rw [← hC]; exact hv
                  have hg2 := hov.heap HG2.out (by have := HSZ4.out; simp; omega)
                  have hofin : Only [] w wr := only_own (only_own HO4.out HOV.out (by have := HSZ4.out; omega)) hov (by have := HSZ4.out; omega)
                  have HV' := Lib.hid hv'; have HG2' := Lib.hid hg2; have HCI := Lib.hid hci; have HC1 := Lib.hid hc1; have HOF := Lib.hid hofin; have HCC := Lib.hid hC; have HCS := Lib.hid hcs
                  clear hv hov hlen hcs hci hc1 hv' hg2 hofin hC ht hlt
                  go_wp2_with (first
                    | (refine wpList_load_row rfl 85 _ rfl B4 rfl _ C _ _ HV'.out Tryd.underlying85 rfl HCI.out ?_)
                    | (refine wpList_store_row rfl 85 _ _ rfl (w.heap.size + 1 + 1) C rfl rfl _ _ HG2'.out HCI.out HCS.out.symm HC1.out ?_))
                  have hres : (wr.setRow (w.heap.size + 1 + 1) C).heap[w.heap.size + 1 + 1]? = some (.cells C 85 (0, 0)) := setRow_heap _ _ _ C _ _ HG2'.out
                  have hof : Only [] w (wr.setRow (w.heap.size + 1 + 1) C) := HOF.out.setRow (.inr (by omega)) C
                  generalize World.setRow _ _ _ = w8 at *
                  refine bodyPost_ret (v := .agg C) (results_cell_row rfl _ _ (w.heap.size + 1 + 1) 85 C (0, 0) _ rfl hres Tryd.underlying85 rfl HCI.out) rfl ⟨by rw [HCC.out], hof⟩
end Go.Proofs.YtpgcfpfmicghnaaDoor.sha
