/-
  THE WALK of merkle.Of.
-/
import Derived.Test.YtpgcfpfmicghnaaDoorMrkSpan
import Derived.Test.YtpgcfpfmicghnaaDoorMrkNode
import Derived.Test.YtpgcfpfmicghnaaDoorMrkRoot
import Derived.Test.YtpgcfpfmicghnaaDoorMrkRNode
import Derived.Test.YtpgcfpfmicghnaaDoorMrkId
import Derived.Test.YtpgcfpfmicghnaaDoorGenM
import Derived.Laws.ResultCell
set_option linter.unusedVariables false
set_option linter.unusedSimpArgs false
namespace Go.Proofs.YtpgcfpfmicghnaaDoor.mrk
open Go Go.RowKit Go.Lm Go.ChangeShapes Go.WideShapes Go.Proofs.YtpgcfpfmicghnaaDoor.sha

/-- Block b holds a manifest. -/
def M3 (w : World) (b : Nat) (t : TypeId) (s p : Nat) (u : Value) : Prop := w.heap[b]? = some (.cells #[.int .u64 (s : Nat), .int .u32 (p : Nat), u] t (0, 0))
theorem M3.only {S : List Nat} {w w' : World} {b : Nat} {t : TypeId} {s p : Nat} {u : Value} (h : M3 w b t s p u) (ho : Only S w w') (hn : b ∉ S) : M3 w' b t s p u := ho.heap h hn
theorem M3.lt {w : World} {b : Nat} {t : TypeId} {s p : Nat} {u : Value} (h : M3 w b t s p u) : b < w.heap.size := lt_of_block h
theorem M3.cells {w : World} {b : Nat} {t : TypeId} {s p : Nat} {u : Value} (h : M3 w b t s p u) : w.cell? ⟨b, 0, none⟩ = some (.int .u64 (s : Nat)) ∧ w.cell? ⟨b, 1, none⟩ = some (.int .u32 (p : Nat)) ∧ w.cell? ⟨b, 2, none⟩ = some u ∧ ∀ k, w.frozen? ⟨b, k, none⟩ = false := by
  unfold M3 at h
  exact ⟨by rw [cell_of_row _ _ _ _ _ _ h]; rfl, by rw [cell_of_row _ _ _ _ _ _ h]; rfl, by rw [cell_of_row _ _ _ _ _ _ h]; rfl, fun k => by simp [World.frozen?, h]⟩
theorem M3.set {w : World} {b : Nat} {t : TypeId} {s p : Nat} {u : Value} (h : M3 w b t s p u) (u' : Value) : M3 (w.setCell ⟨b, 2, none⟩ u') b t s p u' := (Go.Lm.heap_setCell_same (k := 2) h _).trans rfl
theorem M3.set3 {w : World} {b : Nat} {t : TypeId} {s p : Nat} {u : Value} (h : M3 w b t s p u) (s' p' : Nat) (u' : Value) : M3 (((w.setCell ⟨b, 0, none⟩ (.int .u64 (s' : Nat))).setCell ⟨b, 1, none⟩ (.int .u32 (p' : Nat))).setCell ⟨b, 2, none⟩ u') b t s' p' u' :=
  (Go.Lm.heap_setCell_same (k := 2) (Go.Lm.heap_setCell_same (k := 1) (Go.Lm.heap_setCell_same (k := 0) h _) _) _).trans rfl
theorem results_row_tmp {P : Program} {fn : Func} {p q : Tmp} {ty : TypeId} (h : fn.results = #[.cell p ty, .tmp q]) (tmps : Array Value) (w : World) (g : Nat) (t : TypeId) (cs : Array Value) (fr : Nat × Nat) (d : TypeDesc)
    (hp : tmps.getD p undef = .pointer (some ⟨g, 0, none⟩)) (hg : w.heap[g]? = some (.cells cs t fr))
    (hu : P.underlying ty = some d) (hd : (match d with | .struct _ | .array _ _ => true | _ => false) = true) (hi : (P.info? ty).map (·.size) = some cs.size) :
    (results fn tmps).run P w = .ok (.tuple #[.agg cs, tmps.getD q undef]) w := by
  rw [results_cell_tmp h]
  have hp' : tmps[p]?.getD undef = .pointer (some ⟨g, 0, none⟩) := by simpa using hp
  simp [hp', asAddr, run_loadVar_row w g t ty cs fr d hg hu hd hi, Result.andThen]

def leavesD (b : List UInt8) (p n : Nat) : List (List UInt8) := (List.range n).map fun i => leafD ((b.drop (p * i)).take p)
theorem leavesD_succ (b : List UInt8) (p n : Nat) : leavesD b p (n + 1) = leavesD b p n ++ [leafD ((b.drop (p * n)).take p)] := by simp [leavesD, List.range_succ]
theorem leavesD_length (b : List UInt8) (p n : Nat) : (leavesD b p n).length = n := by simp [leavesD]
theorem leavesD_32 (b : List UInt8) (p n : Nat) : D32 (leavesD b p n) := by
  intro d hd
  obtain ⟨i, _, rfl⟩ := List.mem_map.1 hd
  exact Sha.sum_length _
theorem part_eq (b : List UInt8) (p A : Nat) (h : A < b.length) : (b.take (A + min (b.length - A) p)).drop A = (b.drop A).take p := by
  rw [List.drop_take, Nat.add_sub_cancel_left]
  by_cases hp : b.length - A ≤ p
  · rw [Nat.min_eq_left hp, List.take_of_length_le (by simp), List.take_of_length_le (by simp; omega)]
  · rw [Nat.min_eq_right (by omega)]
theorem cnt_zero {s : Nat} {P : Int} (h : (cnt s P).2 = 0) : ∃ p : Nat, P = (p : Nat) ∧ 0 < p ∧ p ≤ 65536 ∧ cntN s p ≤ 1024 := by
  unfold cnt at h
  split at h
  · simp at h
  · rename_i hp
    obtain ⟨p, rfl⟩ : ∃ p : Nat, P = (p : Nat) := ⟨P.toNat, by omega⟩
    rw [Int.toNat_natCast] at h
    split at h
    · simp at h
    · exact ⟨p, rfl, by omega, by omega, by omega⟩
/-- 'append(v, d)' of one digest that lies in a block. -/
theorem app_dig2 {x : World} {B g : Nat} {v : Value} {S : List (List UInt8)} {d : List UInt8} (hown : OD x B v S) (hd : d.length = 32) (hn : S.length ≤ 1000000) (hB : B ≤ x.heap.size) {C : Array Value} (hC : dv d = .agg C) {t : TypeId} {fr : Nat × Nat} (hg : x.heap[g]? = some (.cells C t fr)) {ty : TypeId} :
    ∃ v' x', (Builtin.append_ #[22, 22] ty #[v, .slice (some ⟨g, 0, none⟩) 1 1]).run Tryd.prog x = .ok v' x' ∧ OD x' B v' (S ++ [d]) ∧ x.grownBy x' v.ownBlock := by
  obtain ⟨i, z, hi, hz, hzs, hsz, hby⟩ := info_sum'
  have hC' : C = (d.map u8v).toArray := by unfold dv at hC; injection hC with h; exact h.symm
  obtain ⟨v', w', hrun, ho, hg, _⟩ := run_append_own (P := Tryd.prog) x B 22 ty 25 i z 32 32 Tryd.underlying22 hi hz hsz hby hzs (by decide) v S.length (dcells S) hown.1 ⟨g, 0, none⟩ 1 1 (d.map u8v) (by simp [hd])
    (fun j u hj => by
      rw [Addr.add_mid, Nat.zero_add, cell_of_row _ _ _ C _ _ hg, hC']
      simpa using hj)
    (fun u hu => by obtain ⟨x, _, rfl⟩ := List.mem_map.1 hu; rfl) (by unfold maxLen; omega) (by omega) hB
  refine ⟨v', w', hrun, ⟨?_, ?_⟩, hg⟩
  · rw [dcells_append, List.length_append]
    simpa [dcells] using ho
  · intro x hx
    rcases List.mem_append.1 hx with h | h
    · exact hown.2 x h
    · rw [List.mem_singleton.1 h]; exact hd
theorem size_u8' : (Tryd.prog.info? 5).map (·.size) = some 1 := by kernel_rfl
theorem run_sub_u64 (a : Option Addr) (n cap lo hi : Nat) (h1 : lo ≤ hi) (h2 : hi ≤ cap) (w : World) : (Instr.slice 23 (.slice a n cap) (some (.int .u64 lo)) (some (.int .u64 hi)) none).run Tryd.prog w = .ok (subv a cap lo hi) w := by
  rw [run_slice_lh w 23 a n cap (by rw [Tryd.underlying23, elem_eq Tryd.underlying23]) .u64 .u64 lo hi (by omega) (by omega) (by omega), elem_eq Tryd.underlying23, sizeOf_one size_u8']
  simp [Result.andThen, sliced, subv]

set_option maxRecDepth 100000 in
set_option maxHeartbeats 4000000 in
theorem of_bad (w : World) (v : Value) (b : List UInt8) (P : Int) (hv : BS w v b) (hb : b.length ≤ 100000) (hc : (cnt b.length P).2 ≠ 0) : Calls Tryd.prog 17 #[v, .int .i64 P] w fun e w' => e = .returned (.tuple #[.agg #[.int .u64 0, .int .u32 0, .slice none 0 0], .int .i64 ((cnt b.length P).2 : Nat)]) ∧ Only [] w w' := by
  obtain ⟨a, cap, rfl, k1, k2, -⟩ := hv
  unfold maxLen at k2
  obtain ⟨s, hs⟩ : ∃ s, b.length = s := ⟨_, rfl⟩
  rw [hs] at hb hc k1 ⊢
  have hcc := fun W => count_c W s P (by omega)
  obtain ⟨N, hN⟩ : ∃ N, (cnt s P).1 = N := ⟨_, rfl⟩
  obtain ⟨E, hE⟩ : ∃ E, (cnt s P).2 = E := ⟨_, rfl⟩
  rw [hN, hE] at hcc
  rw [hE] at hc ⊢
  have HC := Lib.hid hcc
  clear hs hN hE hcc
  have heI : ¬ ((E : Int) = 0) := by omega
  have hws : IntKind.u64.wrap (s : Int) = (s : Int) := by rw [IntKind.wrap_u64]; omega
  go_enter Tryd.func17, Tryd.ntmps17
  go_wp2_with fail
  refine (HC.out _).mono ?_
  rintro e w1 ⟨rfl, rfl⟩
  go_wp2_with fail
  have ho : Only [] w (w.alloc (.cells #[.int .u64 0, .int .u32 0, .slice none 0 0] 35 (0, 0))) := (Only.refl [] w).alloc _
  --@b
  refine bodyPost_ret (v := .tuple #[.agg #[.int .u64 0, .int .u32 0, .slice none 0 0], .int .i64 E]) (by rw [results_cell_tmp rfl]; go_simp) rfl ⟨rfl, ?_⟩
  first | exact ho | exact ((((ho.setCell (.inr (Nat.le_refl _)) _).setCell (.inr (Nat.le_refl _)) _).setCell (.inr (Nat.le_refl _)) _)) | exact ho.setRow (.inr (Nat.le_refl _)) _

set_option maxRecDepth 100000 in
set_option maxHeartbeats 4000000 in
theorem of_ok (w : World) (v : Value) (b : List UInt8) (p : Nat) (hv : BS w v b) (hb : b.length ≤ 100000) (hp0 : 0 < p) (hp1 : p ≤ 65536) (hn : cntN b.length p ≤ 1024) (hT : Tab w) :
    Calls Tryd.prog 17 #[v, .int .i64 (p : Nat)] w fun e w' => ∃ u, e = .returned (.tuple #[.agg #[.int .u64 (b.length : Nat), .int .u32 (p : Nat), u], .int .i64 0]) ∧ OD w' w.heap.size u (leavesD b p (cntN b.length p)) ∧ Only [] w w' := by
  have HV := Lib.hid hv; have HT := Lib.hid hT
  obtain ⟨a, cap, rfl, k1, k2, -⟩ := hv
  unfold maxLen at k2
  obtain ⟨s, hs⟩ : ∃ s, b.length = s := ⟨_, rfl⟩
  rw [hs] at hb hn k1 HV ⊢
  have HSL := Lib.hid hs
  obtain ⟨n, hn'⟩ : ∃ n, cntN s p = n := ⟨_, rfl⟩
  have hcc := fun W => count_c W s (p : Nat) (by omega)
  rw [cnt_ok s p hp0 hp1 hn] at hcc
  have hsp := fun W i hi => span_c W s p i (by omega) hp0 hp1 hn hi
  rw [hn'] at hn hcc hsp ⊢
  have HCN := Lib.hid hcc; have HSP := Lib.hid hsp; have HLT := Lib.hid (fun i (hi : i < n) => span_lt s p i hp0 (by rw [hn']; exact hi))
  have hws : IntKind.u64.wrap (s : Int) = (s : Int) := by rw [IntKind.wrap_u64]; omega
  have hwp : IntKind.u32.wrap (p : Int) = (p : Int) := by rw [IntKind.wrap_u32]; omega
  clear hs hn' hcc hsp hT hp0
  go_enter Tryd.func17, Tryd.ntmps17
  go_wp2_with fail
  refine (HCN.out _).mono ?_
  rintro e w1 ⟨rfl, rfl⟩
  --@0
  go_upto_region 5 with fail
  --@1
  generalize hg : World.alloc _ _ = w1
  have he1 : w1 = (w.alloc (.cells #[.int .u64 0, .int .u32 0, .slice none 0 0] 35 (0, 0))).alloc (.cells #[.int .u64 (s : Nat), .int .u32 (p : Nat), .slice none 0 0] 35 (0, 0)) := hg.symm.trans rfl
  have ho1 : Only [] w w1 := by rw [he1]; exact ((Only.refl [] w).alloc _).alloc _
  have h2 := two w (.cells #[.int .u64 0, .int .u32 0, .slice none 0 0] 35 (0, 0)) (.cells #[.int .u64 (s : Nat), .int .u32 (p : Nat), .slice none 0 0] 35 (0, 0))
  rw [← he1] at h2
  have hm1 : M3 w1 (w.heap.size + 1) 35 s p (.slice none 0 0) := h2.2
  have hz1 : M3 w1 w.heap.size 35 0 0 (.slice none 0 0) := h2.1
  have hsz : w1.heap.size = w.heap.size + 2 := by rw [he1]; simp
  clear hg he1 h2
  obtain ⟨q, hq⟩ : ∃ q, w.heap.size = q := ⟨_, rfl⟩
  rw [hq] at hm1 hz1 hsz ⊢
  have HQ := Lib.hid hq; have HM1 := Lib.hid hm1; have HZ1 := Lib.hid hz1; have HO1 := Lib.hid ho1; have HSZ := Lib.hid hsz
  clear hq hm1 hz1 ho1 hsz
  go_wp2_with fail
  --@2
  go_loopw [32] (fun c wx => ∃ (k : Nat) (u : Value), c = .int .i64 (k : Nat) ∧ k ≤ n ∧ M3 wx (q + 1) 35 s p u ∧ M3 wx q 35 0 0 (.slice none 0 0) ∧ OD wx (q + 2) u (leavesD b p k) ∧ Only [] w wx) (fun c _ => n - (intOf c).toNat)
  case atStart => exact ⟨0, _, rfl, Nat.zero_le _, HM1.out, HZ1.out, OD.nil _ _, HO1.out⟩
  case round =>
    obtain ⟨k, u, rfl, hk, hm, hz, hod, ho⟩ := hrel
    have HM := Lib.hid hm; have HZ := Lib.hid hz; have HOD := Lib.hid hod; have HO := Lib.hid ho
    clear hm hz hod ho
    obtain ⟨ua, uc, rfl, -, -⟩ := HOD.out.slice
    rw [leavesD_length] at HM HOD
    obtain ⟨c0, c1, c2, cf⟩ := HM.out.cells
    by_cases hlt : k < n
    · have hltI : (k : Int) < (n : Int) := by omega
      go_wp2_with fail
      --@3
      refine (HSP.out wr k hlt).mono ?_
      rintro e wr' ⟨rfl, rfl⟩
      have hA := HLT.out k hlt
      have hpe := part_eq b p (p * k) (by rw [HSL.out]; exact hA)
      rw [HSL.out] at hpe
      have hnx := leavesD_succ b p k
      rw [← hpe] at hnx
      obtain ⟨A, hA'⟩ : ∃ A, p * k = A := ⟨_, rfl⟩
      rw [hA'] at hA hnx ⊢
      obtain ⟨L, hL⟩ : ∃ L, min (s - A) p = L := ⟨_, rfl⟩
      rw [hL] at hnx ⊢
      obtain ⟨E', hE'⟩ : ∃ E, A + L = E := ⟨_, rfl⟩
      have hAL : E' ≤ s := by omega
      have hbs := fun (x : Later [] wr.drew) => leaf_c x.at' _ _ ((HV.out.only (((HO.out).drew).then x.only) (by simp)).sub A E' (by omega) (by rw [HSL.out]; exact hAL)) (by simp only [List.length_drop, List.length_take, HSL.out]; omega) (HT.out.only (((HO.out).drew).then x.only) (by simp))
      rw [hE'] at hnx
      obtain ⟨d, hd⟩ : ∃ d, leafD ((b.take E').drop A) = d := ⟨_, rfl⟩
      rw [hd] at hnx hbs
      have hdl : d.length = 32 := by rw [← hd]; exact Sha.sum_length _
      obtain ⟨E, hev, hes, hei, he1⟩ := store_facts d hdl
      rw [hev] at hbs
      have HLF := Lib.hid hbs; have HES : Hid (E.size = 32) := Lib.hid hes; have HEV := Lib.hid hev; have HEL := Lib.hid hdl; have HNX := Lib.hid hnx
      have hwL : IntKind.u64.wrap (L : Int) = (L : Int) := by rw [IntKind.wrap_u64]; omega
      have hwE : IntKind.u64.wrap ((A : Int) + (L : Int)) = (E' : Int) := by rw [IntKind.wrap_u64]; omega
      have hrs := fun W : World => run_sub_u64 a s cap A E' (by omega) (by omega) W
      have HUL : Hid ((leavesD b p k).length ≤ 1000000) := Lib.hid (by rw [leavesD_length]; omega)
      have HAL := Lib.hid hAL; have HAE := Lib.hid hE'
      clear hpe hA' hL hd hdl hev hes hei he1 hnx hbs hE'
      go_upto_region 11 with fail
      --@4
      refine wp_region_M [] (by kernel_rfl) ?_
      change wpAnyM _ _ _ _ _ _ _ _ (World.drew _)
      have c2' : ∀ x : Later [] wr.drew, x.at'.cell? ⟨q + 1, 2, none⟩ = some (.slice ua k uc) := fun x => (Only.refl [] wr).drew.then x.only |>.cell c2 (by simp)
      have HBW : Hid (q + 2 ≤ wr.drew.heap.size) := Lib.hid (by have := HO1.out.size; have := HSZ.out; have := HM.out.lt; exact Nat.succ_le_of_lt HM.out.lt)
      --@5
      refine wpAnyM_take (i := 0) (oi := { dst := some 48, op := .fieldAddr 35 (.tmp 8) 2, type := 0, pos := "merkle.go:84", after := #[], guard := none }) rfl (by kernel_rfl) (by kernel_rfl) (by kernel_rfl) (YieldsOn.pure (by rfl) (by intro x; first | (go_simp; first | done | rfl) | (unfold execOp; simp only [Sem.run_bind]; go_simp; first | done | rfl))) (by exact fun _ _ _ h => h) ?_
      try simp only [Act.put, List.setIfInBounds_toArray, List.set_cons_zero, List.set_cons_succ]
      refine wpAnyM_take (i := 1) (oi := { dst := some 49, op := .load 22 (.tmp 48), type := 22, pos := "merkle.go:84", after := #[{ on := 0, ground := .data }], guard := none }) rfl (by kernel_rfl) (by kernel_rfl) (by kernel_rfl) (YieldsOn.value (by rfl) (by rfl) (by intro x; first | (go_simp; first | done | rfl) | (unfold execOp; simp only [Sem.run_bind]; go_simp; first | done | rfl))) (by exact fun _ _ _ h => h) ?_
      try simp only [Act.put, List.setIfInBounds_toArray, List.set_cons_zero, List.set_cons_succ]
      refine wpAnyM_take (i := 2) (oi := { dst := some 50, op := .move (.tmp 0), type := 23, pos := "merkle.go:84", after := #[], guard := none }) rfl (by kernel_rfl) (by kernel_rfl) (by kernel_rfl) (YieldsOn.pure (by rfl) (by intro x; first | (go_simp; first | done | rfl) | (unfold execOp; simp only [Sem.run_bind]; go_simp; first | done | rfl))) (by exact fun _ _ _ h => h) ?_
      try simp only [Act.put, List.setIfInBounds_toArray, List.set_cons_zero, List.set_cons_succ]
      refine wpAnyM_take (i := 3) (oi := { dst := some 51, op := .move (.tmp 10), type := 32, pos := "merkle.go:84", after := #[], guard := none }) rfl (by kernel_rfl) (by kernel_rfl) (by kernel_rfl) (YieldsOn.pure (by rfl) (by intro x; first | (go_simp; first | done | rfl) | (unfold execOp; simp only [Sem.run_bind]; go_simp; first | done | rfl))) (by exact fun _ _ _ h => h) ?_
      try simp only [Act.put, List.setIfInBounds_toArray, List.set_cons_zero, List.set_cons_succ]
      refine wpAnyM_take (i := 4) (oi := { dst := some 52, op := .move (.tmp 10), type := 32, pos := "merkle.go:84", after := #[], guard := none }) rfl (by kernel_rfl) (by kernel_rfl) (by kernel_rfl) (YieldsOn.pure (by rfl) (by intro x; first | (go_simp; first | done | rfl) | (unfold execOp; simp only [Sem.run_bind]; go_simp; first | done | rfl))) (by exact fun _ _ _ h => h) ?_
      try simp only [Act.put, List.setIfInBounds_toArray, List.set_cons_zero, List.set_cons_succ]
      refine wpAnyM_take (i := 5) (oi := { dst := some 53, op := .move (.tmp 11), type := 3, pos := "merkle.go:84", after := #[], guard := none }) rfl (by kernel_rfl) (by kernel_rfl) (by kernel_rfl) (YieldsOn.pure (by rfl) (by intro x; first | (go_simp; first | done | rfl) | (unfold execOp; simp only [Sem.run_bind]; go_simp; first | done | rfl))) (by exact fun _ _ _ h => h) ?_
      try simp only [Act.put, List.setIfInBounds_toArray, List.set_cons_zero, List.set_cons_succ]
      refine wpAnyM_take (i := 6) (oi := { dst := some 54, op := .convert 3 32 (.tmp 53), type := 32, pos := "merkle.go:84", after := #[{ on := 5, ground := .data }], guard := none }) rfl (by kernel_rfl) (by kernel_rfl) (by kernel_rfl) (YieldsOn.value (by rfl) (by rfl) (by intro x; first | (go_simp; first | done | rfl) | (unfold execOp; simp only [Sem.run_bind]; go_simp; first | done | rfl))) (by exact fun _ _ _ h => h) ?_
      try simp only [Act.put, List.setIfInBounds_toArray, List.set_cons_zero, List.set_cons_succ]
      refine wpAnyM_take (i := 7) (oi := { dst := some 55, op := .binOp BinOp.add 32 (.tmp 52) (.tmp 54) 32, type := 32, pos := "merkle.go:84", after := #[{ on := 4, ground := .data }, { on := 6, ground := .data }], guard := none }) rfl (by kernel_rfl) (by kernel_rfl) (by kernel_rfl) (YieldsOn.value (by rfl) (by rfl) (by intro x; first | (go_simp; first | done | rfl) | (unfold execOp; simp only [Sem.run_bind]; go_simp; first | done | rfl))) (by exact fun _ _ _ h => h) ?_
      try simp only [Act.put, List.setIfInBounds_toArray, List.set_cons_zero, List.set_cons_succ]
      --@r7
      refine wpAnyM_take (i := 8) (oi := { dst := some 56, op := .slice 23 (.tmp 50) (some (.tmp 51)) (some (.tmp 55)) none, type := 23, pos := "merkle.go:84", after := #[{ on := 2, ground := .data }, { on := 3, ground := .data }, { on := 7, ground := .data }], guard := none }) rfl (by kernel_rfl) (by kernel_rfl) (by kernel_rfl) (YieldsOn.value (by rfl) (by rfl) (by intro x; first | (go_simp; first | done | rfl) | (unfold execOp; simp only [Sem.run_bind]; go_simp; first | done | rfl))) (by exact fun _ _ _ h => h) ?_
      try simp only [Act.put, List.setIfInBounds_toArray, List.set_cons_zero, List.set_cons_succ]
      refine wpAnyM_take (i := 9) (oi := { dst := some 57, op := .call { callee := Callee.value (.func 13), args := #[.tmp 56], argTypes := #[23] }, type := 25, pos := "merkle.go:84", after := #[{ on := 8, ground := .data }], guard := none }) rfl (by kernel_rfl) (by kernel_rfl) (by kernel_rfl) (YieldsOn.call (by rfl) (by rfl) (by intro x; go_simp; first | done | rfl | exact ⟨rfl, rfl⟩) (fun x => HLF.out x)) (by exact fun _ _ _ h => h) ?_
      try simp only [Act.put, List.setIfInBounds_toArray, List.set_cons_zero, List.set_cons_succ]
      --@r9
      refine wpAnyM_one (i := 10) (o := { dst := some 58, op := .buildSlice 22 1 #[(0, .tmp 57)], type := 22, pos := "merkle.go:84", after := #[{ on := 9, ground := .data }], guard := none }) (by kernel_rfl) rfl (fun x1 hx1 K hK => ?_)
      refine step_one_dig rfl (.tmp 57) rfl E rfl HES.out ?_
      refine hK _ _ ((Only.refl [] x1).alloc _) ?_
      clear hK K
      try simp only [Act.put, List.setIfInBounds_toArray, List.set_cons_zero, List.set_cons_succ]
      --@r10
      refine wpAnyM_last (i := 11) (o := { dst := some 59, op := .call { callee := Callee.builtin Builtin.append, args := #[.tmp 49, .tmp 58], argTypes := #[22, 22] }, type := 22, pos := "merkle.go:84", after := #[{ on := 1, ground := .data }, { on := 10, ground := .data }, { on := 9, ground := .chain }], guard := none }) (by kernel_rfl) rfl (by kernel_rfl) (fun x2 hx2 K hK => ?_)
      have hxx : Only [] wr x2 := ((Only.refl [] wr).drew).then (hx1.then (((Only.refl [] x1).alloc (.cells E 25)).then hx2))
      have hBx : q + 2 ≤ x2.heap.size := by have h1 := hxx.size; have h2 := HM.out.lt; omega
      obtain ⟨u', x3, hrun, hod3, hg3⟩ := app_dig2 (ty := 22) (HOD.out.only hxx (by simp)) HEL.out HUL.out hBx HEV.out (hx2.heap (heap_alloc_new x1 (.cells E 25)) (by simp))
      have hnr : ∀ j, j < q + 2 → j ∉ (Value.slice ua k uc).ownBlock.toList := fun j hj hm => by have := (HOD.out.lt (c := j) (by simpa using hm)).1; omega
      have HM3 := Lib.hid ((HM.out.only hxx (by simp)).only (Only.of_grown hg3) (hnr (q + 1) (by omega)))
      have HZ3 := Lib.hid ((HZ.out.only hxx (by simp)).only (Only.of_grown hg3) (hnr q (by omega)))
      have HO3 : Hid (Only [] w x3) := Lib.hid ((HO.out.then hxx).trans (Only.of_grown hg3) (by simp) (fun i hi => .inr (by have := HQ.out; rcases Nat.lt_or_ge i (q + 2) with h | h; exact absurd hi (hnr i h); omega)))
      rw [← HNX.out] at hod3
      have HOD3 := Lib.hid hod3; have HRUN := Lib.hid hrun
      clear hod3 hrun hg3 hnr hBx hxx
      obtain ⟨va, vc, hva, -, -⟩ := HOD3.out.slice
      rw [leavesD_length] at hva
      subst hva
      refine step_append_run rfl (.tmp 49) (.tmp 58) 22 rfl rfl rfl HRUN.out ?_
      refine hK _ _ ?_
      clear hK K
      try simp only [Act.put, List.setIfInBounds_toArray, List.set_cons_zero, List.set_cons_succ]
      --@r11
      refine wpAnyM_take (i := 12) (oi := { dst := some 60, op := .fieldAddr 35 (.tmp 8) 2, type := 0, pos := "merkle.go:84", after := #[{ on := 0, ground := .phase }, { on := 1, ground := .phase }, { on := 2, ground := .phase }, { on := 3, ground := .phase }, { on := 4, ground := .phase }, { on := 5, ground := .phase }, { on := 6, ground := .phase }, { on := 7, ground := .phase }, { on := 8, ground := .phase }, { on := 9, ground := .phase }, { on := 10, ground := .phase }, { on := 11, ground := .phase }], guard := none }) rfl (by kernel_rfl) (by kernel_rfl) (by kernel_rfl) (YieldsOn.pure (by rfl) (by intro x; first | (go_simp; first | done | rfl) | (unfold execOp; simp only [Sem.run_bind]; go_simp; first | done | rfl))) (by exact fun _ _ _ h => h) ?_
      try simp only [Act.put, List.setIfInBounds_toArray, List.set_cons_zero, List.set_cons_succ]
      refine wpAnyM_last (i := 13) (o := { dst := none, op := .store 22 (.tmp 60) (.tmp 59), type := 0, pos := "merkle.go:84", after := #[{ on := 12, ground := .data }, { on := 11, ground := .data }, { on := 11, ground := .chain }, { on := 0, ground := .phase }, { on := 1, ground := .phase }, { on := 2, ground := .phase }, { on := 3, ground := .phase }, { on := 4, ground := .phase }, { on := 5, ground := .phase }, { on := 6, ground := .phase }, { on := 7, ground := .phase }, { on := 8, ground := .phase }, { on := 9, ground := .phase }, { on := 10, ground := .phase }, { on := 11, ground := .phase }], guard := none }) (by kernel_rfl) rfl (by kernel_rfl) (fun x4 hx4 K hK => ?_)
      obtain ⟨-, -, c2x, cfx⟩ := (HM3.out.only hx4 (by simp)).cells
      --@r12
      rw [if_pos (by rfl)]
      unfold Oper.wp execOp
      go_simp
      --@r12b
      refine hK _ _ ?_
      clear hK K
      try simp only [Act.put, List.setIfInBounds_toArray, List.set_cons_zero, List.set_cons_succ]
      refine wpAnyM_done (by kernel_rfl) (fun x5 hx5 => ?_) _
      --@r13
      have HM5 := Lib.hid (((HM3.out.only hx4 (by simp)).set (.slice va (k + 1) vc)).only hx5 (by simp))
      have HZ5 : Hid (M3 x5 q 35 0 0 (.slice none 0 0)) := Lib.hid (M3.only (S := [q + 1]) (HZ3.out.only hx4 (by simp)) (((Only.refl [q + 1] x4).setCell (.inl (by simp)) (.slice va (k + 1) vc)).then (hx5.mono (by simp))) (by simp))
      have HO5 : Hid (Only [] w x5) := Lib.hid (((HO3.out.then hx4).setCell (.inr (by have := HQ.out; show w.heap.size ≤ q + 1; omega)) (.slice va (k + 1) vc)).then hx5)
      have HOD5 := Lib.hid (OD.only (S := [q + 1]) (HOD3.out.only hx4 (by simp)) (((Only.refl [q + 1] x4).setCell (.inl (by simp)) (.slice va (k + 1) vc)).then (hx5.mono (by simp))) (fun c hc => by have := (HOD3.out.lt hc).1; simp; omega))
      clear HM3 HZ3 HO3 HOD3 c2x cfx hx4 hx5 HRUN
      go_wp2_with fail
      --@6
      go_roundw
      case rel => exact ⟨k + 1, _, by go_num, by omega, HM5.out, HZ5.out, HOD5.out, HO5.out⟩
      case measure => simp [intOf]; omega
    · have hkn : k = n := by omega
      subst hkn
      --@7
      obtain ⟨d0, d1, d2, df⟩ := HZ.out.cells
      go_wp2_with fail
      --@8
      have hres := HZ.out.set3 s p (.slice ua k uc)
      have hof : Only [] w (((wr.setCell ⟨q, 0, none⟩ (.int .u64 (s : Nat))).setCell ⟨q, 1, none⟩ (.int .u32 (p : Nat))).setCell ⟨q, 2, none⟩ (.slice ua k uc)) := ((HO.out.setCell (.inr (by have := HQ.out; show w.heap.size ≤ q; omega)) _).setCell (.inr (by have := HQ.out; show w.heap.size ≤ q; omega)) _).setCell (.inr (by have := HQ.out; show w.heap.size ≤ q; omega)) _
      have hod9 : OD (((wr.setCell ⟨q, 0, none⟩ (.int .u64 (s : Nat))).setCell ⟨q, 1, none⟩ (.int .u32 (p : Nat))).setCell ⟨q, 2, none⟩ (.slice ua k uc)) (q + 2) (.slice ua k uc) (leavesD b p k) := OD.only (S := [q]) HOD.out ((((Only.refl [q] wr).setCell (.inl (by simp)) _).setCell (.inl (by simp)) _).setCell (.inl (by simp)) _) (fun c hc => by have := (HOD.out.lt hc).1; simp; omega)
      refine bodyPost_ret (v := .tuple #[.agg #[.int .u64 (s : Nat), .int .u32 (p : Nat), .slice ua k uc], .int .i64 0]) (results_row_tmp (p := 4) (q := 5) rfl _ _ q 35 _ (0, 0) _ rfl hres Tryd.underlying35 rfl (by kernel_rfl)) rfl ⟨_, rfl, ?_, hof⟩
      refine ⟨⟨hod9.1.1, ?_⟩, hod9.2⟩
      rcases hod9.1.2 with hn | ⟨g, cap', cur, h1, h2, rest⟩
      · exact .inl hn
      · exact .inr ⟨g, cap', cur, h1, by have := HQ.out; omega, rest⟩
end Go.Proofs.YtpgcfpfmicghnaaDoor.mrk
