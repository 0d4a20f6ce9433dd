/-
  THE WALK of Root.
-/
import Derived.Test.YtpgcfpfmicghnaaDoorMrkNode
import Derived.Test.YtpgcfpfmicghnaaDoorMrkBits
import Derived.StillTailTactics
import Derived.WalkMore
import Derived.Deep.AppendLies
import Derived.Deep.RegionLaw
set_option linter.unusedVariables false
set_option linter.unusedSimpArgs false
namespace Go.Proofs.YtpgcfpfmicghnaaDoor.mrk
open Go Go.RowKit Go.Lm Go.ChangeShapes Go.WideShapes Go.Proofs.YtpgcfpfmicghnaaDoor.sha

def rootD (ds : List (List UInt8)) : List UInt8 := Mrk.root (Sha.sum []) nodeD ds
theorem node_length (l r : List UInt8) : (nodeD l r).length = 32 := Sha.sum_length _
theorem root_length (ds : List (List UInt8)) (h : D32 ds) : (rootD ds).length = 32 := by
  unfold rootD
  rw [Mrk.root]
  split
  · cases ds with
    | nil => exact Sha.sum_length _
    | cons d ds => exact h d (by simp)
  · exact node_length _ _
def vlen : Value → Nat
  | .slice _ n _ => n
  | _ => 0
theorem app_dig {w1 wr : World} {B : Nat} {v : Value} {S : List (List UInt8)} {d : List UInt8} (hown : OD wr B v S) (hd : d.length = 32) (hn : S.length ≤ 1000000) (hB : B ≤ wr.heap.size) (h1 : w1.heap.size ≤ B) (ho : Only [] w1 wr) (C : Array Value) (hC : dv d = .agg C) :
    ∃ v' w', (∀ ty, (Builtin.append_ #[22, 22] ty #[v, .slice (some ⟨wr.heap.size, 0, none⟩) 1 1]).run Tryd.prog (wr.alloc (.cells C 25 (0, 0))) = .ok v' w') ∧ OD w' B v' (S ++ [d]) ∧ Only [] w1 w' := by
  have hC' : C = (d.map u8v).toArray := by unfold dv at hC; injection hC with h; exact h.symm
  obtain ⟨v', w', hrun, hov, hg⟩ := run_append_dig (ty := 22) (T := 25) (fr := (0, 0)) hown hd hn hB C hC'
  refine ⟨v', w', fun ty => ?_, hov, (ho.alloc _).trans (Only.of_grown hg) (by simp) (fun i hi => .inr ?_)⟩
  · exact hrun
  · have hi2 : v.ownBlock = some i := by
      cases hu : v.ownBlock with
      | none => rw [hu] at hi; simp at hi
      | some g => rw [hu] at hi; simp at hi; rw [hi]
    have := (hown.lt hi2).1
    omega

/-- A slice literal of one digest, as a step of a region. -/
theorem step_one_dig {ops : Array Oper} {o : Oper} {a : Act} {w : World} {K : Act → World → Prop} {Q : Exit → Act → World → Prop} {E : Prop} (hgd : o.guard = none) (x : Operand) (ho : o.op = .buildSlice 22 1 #[(0, x)]) (C : Array Value) (hx : a.eval x = .agg C) (hC : C.size = 32)
    (h : K (a.put o.dst (.slice (some ⟨w.heap.size, 0, none⟩) 1 1)) (w.alloc (.cells C 25))) : if Region.wanted o (yielded ops a.tmps) = true then Oper.wp Tryd.prog o a w K Q else E := by
  have hw : Region.wanted o (yielded ops a.tmps) = true := by simp [Region.wanted, hgd]
  rw [if_pos hw]
  unfold Oper.wp execOp
  simp only [ho, Sem.run_bind, List.map_toArray, List.map_cons, List.map_nil, hx, run_one_dig C hC w, Result.andThen_ok]
  exact h
theorem join_facts {wx : World} {B : Nat} {v : Value} {U : List (List UInt8)} {p : Nat} (hod : OD wx B v U) (hp : U.length = p + 2) : ∃ (g c : Nat) (X Y : List Value) (x y : List UInt8), v = .slice (some ⟨g, 0, none⟩) (p + 2) c ∧ p + 2 ≤ c ∧ c ≤ maxLen ∧ X.length = 32 ∧ Y.length = 32 ∧
    wx.rangeAt g (p * 32) X ∧ wx.rangeAt g ((p + 1) * 32) Y ∧ dv x = .agg X.toArray ∧ dv y = .agg Y.toArray ∧ x.length = 32 ∧ y.length = 32 ∧ OD wx B (.slice (some ⟨g, 0, none⟩) p c) (U.take p) ∧ Mrk.join (Sha.sum []) nodeD U = U.take p ++ [nodeD x y] := by
  have h32 := hod.2
  rcases hod.1.2 with ⟨_, h0⟩ | ⟨g, c, cur, rfl, _, _, h1, h2, _⟩
  · omega
  · rw [hp] at h1 hod ⊢
    obtain ⟨b, off, he, hx⟩ := DS.at hod.ds p (by omega)
    obtain ⟨rfl, rfl⟩ : g = b ∧ 0 = off := by simpa using he
    obtain ⟨b, off, he, hy⟩ := DS.at hod.ds (p + 1) (by omega)
    obtain ⟨rfl, rfl⟩ : g = b ∧ 0 = off := by simpa using he
    have lx : U[p].length = 32 := h32 _ (List.getElem_mem _)
    have ly : U[p + 1].length = 32 := h32 _ (List.getElem_mem _)
    refine ⟨g, c, U[p].map u8v, U[p + 1].map u8v, U[p], U[p + 1], rfl, h1, h2, by simp [lx], by simp [ly], ?_, ?_, rfl, rfl, lx, ly, ?_, ?_⟩
    · rw [Nat.zero_add, Nat.mul_comm] at hx; exact hx
    · rw [Nat.zero_add, Nat.mul_comm] at hy; exact hy
    · have h := hod.take p (by omega) (by omega)
      have e : subd (some ⟨g, 0, none⟩) c 0 p = .slice (some ⟨g, 0, none⟩) p c := by
        unfold subd
        split <;> simp [Addr.add]
      rw [e] at h
      exact h
    · unfold Mrk.join
      have e2 : U.length - 2 = p := by omega
      have e1 : U.length - 1 = p + 1 := by omega
      rw [e2, e1]
      rw [List.getD_eq_getElem?_getD, List.getD_eq_getElem?_getD, List.getElem?_eq_getElem (by omega), List.getElem?_eq_getElem (by omega)]
      rfl

set_option maxRecDepth 100000 in
set_option maxHeartbeats 8000000 in
theorem root_c (w : World) (v : Value) (ds : List (List UInt8)) (hv : DS w v ds) (hn : ds.length ≤ 100000) (hT : Tab w) (hZ : Tz w) : Calls Tryd.prog 11 #[v] w fun e w' => e = .returned (dv (rootD ds)) ∧ Only [] w w' := by
  have HT := Lib.hid hT; have HTZ := Lib.hid hZ; have HV := Lib.hid hv
  have HR32 := Lib.hid (root_length ds hv.choose_spec.choose_spec.2.2.2.2.1)
  obtain ⟨a, cap, rfl, k1, k2, -, k3, -⟩ := hv
  have H32 := Lib.hid k3
  obtain ⟨n, hnn⟩ : ∃ n, ds.length = n := ⟨_, rfl⟩
  rw [hnn] at hn k1 HV ⊢
  unfold maxLen at k2
  have HN := Lib.hid hnn
  obtain ⟨R, hR⟩ : ∃ R, rootD ds = R := ⟨_, rfl⟩
  rw [hR] at HR32 ⊢
  have HR := Lib.hid hR
  clear hT hZ k3 hnn hR
  go_enter Tryd.func11, Tryd.ntmps11
  go_wp2_with fail
  go_step3
  --@z
  generalize hg : World.alloc _ _ = w1
  have he : w1 = w.alloc (.cells (List.replicate 32 (Value.int .u8 0)).toArray 25 (0, 0)) := hg.symm.trans rfl
  have HZ1 : Hid (w1.heap[w.heap.size]? = some (.cells (List.replicate 32 (Value.int .u8 0)).toArray 25 (0, 0))) := Lib.hid (by rw [he]; exact heap_alloc_new w _)
  have HO1 : Hid (Only [] w w1) := Lib.hid (by rw [he]; exact (Only.refl [] w).alloc _)
  have HT1 := Lib.hid (HT.out.only HO1.out (by simp))
  have HTZ1 := Lib.hid (HTZ.out.only HO1.out (by simp))
  have HV1 := Lib.hid (HV.out.only HO1.out (by simp))
  obtain ⟨q, hq⟩ : ∃ q, w.heap.size = q := ⟨_, rfl⟩
  rw [hq] at HZ1 ⊢
  have HQ := Lib.hid hq
  clear hg he HT HTZ HV hq
  --@0
  by_cases h0 : n = 0
  · subst h0
    go_wp2_with fail
    refine (of_c w1 _ [] (BS.nil w1) (by simp) HT1.out).mono ?_
    rintro e w4 ⟨rfl, ho4⟩
    have HO4 := Lib.hid (HO1.out.then ho4)
    have HZR4 := Lib.hid (ho4.heap HZ1.out (by simp))
    have hre : R = Sha.sum [] := by
      rw [← HR.out, List.eq_nil_of_length_eq_zero HN.out]
      exact Mrk.root_nil _ _
    clear ho4
    obtain ⟨D, hdv, hcs, hci, hc1⟩ : ∃ D : Array Value, dv (Sha.sum []) = .agg D ∧ D.size = 32 ∧ (Tryd.prog.info? 25).map (·.size) = some D.size ∧ D.all (·.oneCell') = true :=
      ⟨((Sha.sum []).map u8v).toArray, rfl, by simp [Sha.sum_length], by simp only [List.size_toArray, List.length_map, Sha.sum_length]; kernel_rfl, u8vs_one _⟩
    rw [hdv]
    have HDV : Hid (dv R = .agg D) := Lib.hid (by rw [hre, hdv])
    have HDS := Lib.hid hcs; have HDI := Lib.hid hci; have HD1 := Lib.hid hc1
    clear hcs hci hc1 hdv hre
    go_wp2_with (refine wpList_store_row rfl 25 _ _ rfl q D rfl rfl _ _ HZR4.out HDI.out (by rw [HDS.out]; simp) HD1.out ?_)
    have hres : (w4.setRow q D).heap[q]? = some (.cells D 25 (0, 0)) := setRow_heap _ _ _ D _ _ HZR4.out
    have hof : Only [] w (w4.setRow q D) := HO4.out.setRow (.inr (by have := HQ.out; omega)) D
    generalize World.setRow _ _ _ = w8 at *
    (try simp only [Exit.noGoto_ret])
    refine bodyPost_ret (v := .agg D) (results_cell_row rfl _ _ q 25 D (0, 0) _ rfl hres Tryd.underlying25 rfl HDI.out) rfl ⟨by rw [HDV.out], hof⟩
  · have hb : ((n : Int) == 0) = false := by rw [beq_eq_false_iff_ne]; omega
    have hb2 : ¬ ((n : Int) = 0) := by omega
    go_wp2_with fail
    --@1
    obtain ⟨B, hB⟩ : ∃ B, w1.heap.size = B := ⟨_, rfl⟩
    have HB := Lib.hid hB
    clear hB
    go_loopw [3, 14] (fun s i wr => ∃ k : Nat, k ≤ n ∧ i = .int .i64 (k : Nat) ∧ OD wr B s (Mrk.procs (Sha.sum []) nodeD 0 [] (ds.take k)) ∧ Only [] w1 wr) (fun _ i _ => n - (intOf i).toNat)
    case atStart => exact ⟨0, Nat.zero_le _, rfl, OD.nil _ _, Only.refl _ _⟩
    case round =>
      obtain ⟨k, hk, rfl, hod, ho⟩ := hrel
      have HOD := Lib.hid hod; have HO := Lib.hid ho
      obtain ⟨wq, hwq⟩ : ∃ wq, wq = wr := ⟨_, rfl⟩
      subst hwq
      by_cases hlt : k < n
      · have hltI : (k : Int) < (n : Int) := by omega
        have hkl : k < ds.length := by rw [HN.out]; exact hlt
        obtain ⟨b, off, rfl, hrg⟩ := DS.at (HV1.out.only HO.out (by simp)) k hkl
        have hdl : ds[k].length = 32 := H32.out _ (List.getElem_mem hkl)
        have hnext := Mrk.procs_next (Sha.sum []) nodeD ds k hkl
        have hlen := Mrk.procs_length (Sha.sum []) nodeD ds k (by omega)
        obtain ⟨d, hd⟩ : ∃ d, ds[k] = d := ⟨_, rfl⟩
        rw [hd] at hrg hdl hnext
        rw [Nat.mul_comm 32 k] at hrg
        obtain ⟨cs, hcs⟩ : ∃ cs, d.map u8v = cs := ⟨_, rfl⟩
        rw [hcs] at hrg
        have hcl : cs.length = 32 := by rw [← hcs, List.length_map, hdl]
        have hmi : (Tryd.prog.info? 25).map (·.size) = some cs.length := by rw [hcl]; kernel_rfl
        have hc1 : cs.toArray.all (·.oneCell') = true := by rw [← hcs]; exact u8vs_one d
        have hdv : dv d = .agg cs.toArray := by unfold dv; rw [hcs]
        have HRG := Lib.hid hrg; have HMI := Lib.hid hmi; have HNEXT := Lib.hid hnext; have HLEN := Lib.hid hlen; have HDL := Lib.hid hdl
        have HCS : Hid (cs.toArray.size = 32) := Lib.hid (by rw [List.size_toArray]; exact hcl)
        have HCL := Lib.hid hcl; have HC1 := Lib.hid hc1; have HDV := Lib.hid hdv
        clear hod ho hrg hmi hnext hlen hdl hkl hd hcs hcl hc1 hdv
        obtain ⟨S, hS⟩ : ∃ S, Mrk.procs (Sha.sum []) nodeD 0 [] (ds.take k) = S := ⟨_, rfl⟩
        rw [hS] at HOD HNEXT HLEN
        obtain ⟨sa, sc, rfl, q1, q2⟩ := HOD.out.slice
        clear hS q1 q2
        obtain ⟨m, hm⟩ : ∃ m, S.length = m := ⟨_, rfl⟩
        rw [hm] at HOD HLEN ⊢
        have HM := Lib.hid hm
        clear hm
        --@2
        go_upto_region 7 with (first
          | (refine wpList_load_mid rfl 25 _ rfl b (off + k * 32) rfl cs _ HRG.out Tryd.underlying25 rfl HMI.out ?_)
          | (refine wpList_store_row rfl 25 _ _ rfl wq.heap.size cs.toArray rfl rfl _ _ (heap_alloc_new wq _) (by rw [List.size_toArray]; exact HMI.out) (Eq.trans (b := 32) rfl HCS.out.symm) HC1.out ?_))
        --@3
        have hr7 := setRow_heap (wq.alloc (.cells (List.replicate 32 (Value.int .u8 0)).toArray 25 (0, 0))) wq.heap.size _ cs.toArray _ _ (heap_alloc_new wq _)
        have ho7 : Only [] w1 ((wq.alloc (.cells (List.replicate 32 (Value.int .u8 0)).toArray 25 (0, 0))).setRow wq.heap.size cs.toArray) := (HO.out.alloc _).setRow (.inr HO.out.size) _
        have hod7 : OD ((wq.alloc (.cells (List.replicate 32 (Value.int .u8 0)).toArray 25 (0, 0))).setRow wq.heap.size cs.toArray) B (.slice sa m sc) S :=
          HOD.out.kept fun c hc => by
            have := (HOD.out.lt hc).2
            rw [setRow_other _ _ _ _ (by omega), Below.heap_alloc _ _ _ this]
        change Code.wp _ _ _ _ ((wq.alloc (.cells (List.replicate 32 (Value.int .u8 0)).toArray 25 (0, 0))).setRow wq.heap.size cs.toArray)
        generalize World.setRow _ _ _ = w7 at *
        obtain ⟨q5, hq5⟩ : ∃ q5, wq.heap.size = q5 := ⟨_, rfl⟩
        rw [hq5] at hr7 ⊢
        have HR7 := Lib.hid hr7; have HO7 := Lib.hid ho7; have HOD7 := Lib.hid hod7
        clear hr7 ho7 hod7 hq5 HRG HOD HO
        obtain ⟨v8, w8, hrun, hod8, ho8⟩ := app_dig HOD7.out HDL.out (by rw [HM.out]; have := HLEN.out; have := Mrk.pc_le k; omega) (by have := HO7.out.size; have := HB.out; omega) (by have := HB.out; omega) HO7.out _ HDV.out
        have HRUN := Lib.hid hrun; have HOD8 := Lib.hid hod8; have HO8 := Lib.hid ho8
        clear hrun ho8 hod8
        go_wp2_with (first
          | (refine wpList_one_dig rfl _ rfl cs.toArray rfl HCS.out ?_)
          | (refine wpList_load_row rfl 25 _ rfl q5 rfl _ cs.toArray _ _ HR7.out Tryd.underlying25 rfl (by rw [List.size_toArray]; exact HMI.out) ?_)
          | (at_builtin; refine wpList_append_run rfl _ _ _ rfl rfl rfl (HRUN.out _) ?_))
        --@4
        have hTk : Mrk.tz (k + 1) ≤ m := by have := (Mrk.pc_next k).1; have := HLEN.out; omega
        have hm9 : m ≤ 100000 := by have := HLEN.out; have := Mrk.pc_le k; omega
        have htz := tz_c w8 (k + 1) (by omega) (by omega) (HTZ1.out.only HO8.out (by simp))
        obtain ⟨T, hTe⟩ : ∃ T, Mrk.tz (k + 1) = T := ⟨_, rfl⟩
        rw [hTe] at htz hTk HNEXT
        refine Calls.mono (show Calls Tryd.prog 28 #[.int .u64 ((k : Int) + 1)] w8 _ from htz) ?_
        rintro e w' ⟨rfl, rfl⟩
        clear htz hTe
        go_wp2_with fail
        --@5
        go_loopw [3, 27] (fun s j wx => ∃ t : Nat, t ≤ T ∧ j = .int .i64 (t : Nat) ∧ OD wx B s (Mrk.joins (Sha.sum []) nodeD t (S ++ [d])) ∧ Only [] w1 wx) (fun _ j _ => T - (intOf j).toNat)
        case atStart => exact ⟨0, Nat.zero_le _, rfl, HOD8.out, HO8.out⟩
        case round =>
          clear HOD8 HO8 HRUN HR7 HO7 HOD7
          obtain ⟨t, ht, rfl, hodx, hox⟩ := hrel
          have HODX := Lib.hid hodx; have HOX := Lib.hid hox
          obtain ⟨wx, hwx⟩ : ∃ wx, wx = wr := ⟨_, rfl⟩
          subst hwx
          by_cases hltT : t < T
          · have hltTI : (t : Int) < (T : Int) := by omega
            have hUl := Mrk.joins_length (Sha.sum []) nodeD t (S ++ [d]) (by rw [List.length_append, HM.out]; simp; omega)
            rw [List.length_append, HM.out, List.length_singleton] at hUl
            have hjn := Mrk.joins_succ (Sha.sum []) nodeD t (S ++ [d])
            obtain ⟨U, hU⟩ : ∃ U, Mrk.joins (Sha.sum []) nodeD t (S ++ [d]) = U := ⟨_, rfl⟩
            rw [hU] at hUl hjn HODX hodx
            obtain ⟨p, hp⟩ : ∃ p, U.length = p + 2 := ⟨U.length - 2, by omega⟩
            obtain ⟨g, c, X, Y, x, y, rfl, hpc, hcm, hXl, hYl, hrx, hry, hdx, hdy, hlx, hly, hodp, hje⟩ := join_facts hodx hp
            rw [hje] at hjn
            unfold maxLen at hcm
            have hXi : (Tryd.prog.info? 25).map (·.size) = some X.length := by rw [hXl]; kernel_rfl
            have hYi : (Tryd.prog.info? 25).map (·.size) = some Y.length := by rw [hYl]; kernel_rfl
            have hnc := fun W hW => node_c W x y hlx hly hW
            rw [hdx, hdy] at hnc
            have HRX := Lib.hid hrx; have HRY := Lib.hid hry; have HXI := Lib.hid hXi; have HYI := Lib.hid hYi; have HNC := Lib.hid hnc; have HODP := Lib.hid hodp; have HJN := Lib.hid hjn
            have hp2 : ((p + 2 : Nat) : Int) - 2 = (p : Int) := by omega
            have hp1 : ((p + 2 : Nat) : Int) - 1 = ((p + 1 : Nat) : Int) := by omega
            have hpm : p ≤ 100000 := by omega
            have HXL := Lib.hid hXl; have HYL := Lib.hid hYl
            have HPS : Hid ((U.take p).length ≤ 1000000) := Lib.hid (by rw [List.length_take]; omega)
            obtain ⟨Dg, hDg⟩ : ∃ Dg, ((nodeD x y).map u8v).toArray = Dg := ⟨_, rfl⟩
            have hdv : dv (nodeD x y) = .agg Dg := by unfold dv; rw [hDg]
            have HDS : Hid (Dg.size = 32) := Lib.hid (by rw [← hDg, List.size_toArray, List.length_map, node_length])
            rw [hdv] at HNC
            have HDV := Lib.hid hdv
            clear hodx hox hU hUl hrx hry hdx hdy hXi hYi hnc hodp hje hjn hlx hly hXl hYl hdv hDg hp HODX
            obtain ⟨u2, hu2⟩ : ∃ u2, p + 2 = u2 := ⟨_, rfl⟩
            obtain ⟨u1, hu1⟩ : ∃ u1, p + 1 = u1 := ⟨_, rfl⟩
            rw [hu2] at hp2 hp1 hpc ⊢
            rw [hu1] at hp1 HRY
            have hu9 : u2 ≤ 100002 := by omega
            have hpu : (p : Int) < (u2 : Int) := by omega
            have hpu1 : (u1 : Int) < (u2 : Int) := by omega
            have hpc2 : (p : Int) ≤ (c : Int) := by omega
            have hwp : IntKind.i64.wrap (p : Int) = (p : Int) := by rw [IntKind.wrap_i64]; omega
            have hwu : IntKind.i64.wrap (u1 : Int) = (u1 : Int) := by rw [IntKind.wrap_i64]; omega
            have HU12 := Lib.hid (⟨hu1, hu2⟩ : _ ∧ _)
            clear hu1 hu2
            --@6
            go_upto_region 11 with fail
            have HTx := Lib.hid (HT1.out.only HOX.out.drew (by simp))
            have HOD9 : Hid (Only [] w1 wx.drew) := Lib.hid HOX.out.drew
            have HODD : Hid (OD wx.drew B (.slice (some ⟨g, 0, none⟩) p c) (U.take p)) := Lib.hid (HODP.out.only (Only.refl [] wx).drew (by simp))
            have HRX : Hid (wx.drew.rangeAt g (p * 32) X) := Lib.hid HRX.out
            have HRY : Hid (wx.drew.rangeAt g (u1 * 32) Y) := Lib.hid HRY.out
            --@7
            --<<region A
            refine wp_region_any (by kernel_rfl) ?_
            change wpAny _ _ _ _ _ _ _ (World.drew _)
            generalize World.drew _ = wd at *
            refine wpAny_take (i := 0) (oi := { dst := some 31, op := .move (.tmp 3), type := 22, pos := "merkle.go:47", after := #[], guard := none }) (v := .slice (some ⟨g, 0, none⟩) u2 c) rfl (by kernel_rfl) (by kernel_rfl) (by kernel_rfl) (fun _ _ _ h => h) (Or.inl ⟨by rfl, by (intro w; go_simp; first | done | with_reducible rfl)⟩) ?_
            try simp only [Act.put, List.setIfInBounds_toArray, List.set_cons_zero, List.set_cons_succ]
            --@r0
            refine wpAny_take (i := 1) (oi := { dst := some 32, op := .move (.tmp 6), type := 3, pos := "merkle.go:47", after := #[], guard := none }) (v := .int .i64 (u2 : Nat)) rfl (by kernel_rfl) (by kernel_rfl) (by kernel_rfl) (fun _ _ _ h => h) (Or.inl ⟨by rfl, by (intro w; go_simp; first | done | with_reducible rfl)⟩) ?_
            try simp only [Act.put, List.setIfInBounds_toArray, List.set_cons_zero, List.set_cons_succ]
            --@r1
            refine wpAny_take (i := 2) (oi := { dst := some 33, op := .binOp .sub 3 (.tmp 32) (.const (.int .i64 2)) 3, type := 3, pos := "merkle.go:47", after := #[{ on := 1, ground := .data }], guard := none }) (v := .int .i64 (p : Nat)) rfl (by kernel_rfl) (by kernel_rfl) (by kernel_rfl) (fun _ _ _ h => h) (Or.inl ⟨by rfl, by (intro w; go_simp; first | done | with_reducible rfl)⟩) ?_
            try simp only [Act.put, List.setIfInBounds_toArray, List.set_cons_zero, List.set_cons_succ]
            --@r2
            refine wpAny_take (i := 3) (oi := { dst := some 34, op := .slice 22 (.tmp 31) none (some (.tmp 33)) none, type := 22, pos := "merkle.go:47", after := #[{ on := 0, ground := .data }, { on := 2, ground := .data }], guard := none }) (v := .slice (some ⟨g, 0, none⟩) p c) rfl (by kernel_rfl) (by kernel_rfl) (by kernel_rfl) (fun _ _ _ h => h) (Or.inl ⟨by rfl, by (intro w; go_simp; first | done | with_reducible rfl)⟩) ?_
            try simp only [Act.put, List.setIfInBounds_toArray, List.set_cons_zero, List.set_cons_succ]
            --@r3
            refine wpAny_take (i := 4) (oi := { dst := some 35, op := .move (.tmp 3), type := 22, pos := "merkle.go:47", after := #[], guard := none }) (v := .slice (some ⟨g, 0, none⟩) u2 c) rfl (by kernel_rfl) (by kernel_rfl) (by kernel_rfl) (fun _ _ _ h => h) (Or.inl ⟨by rfl, by (intro w; go_simp; first | done | with_reducible rfl)⟩) ?_
            try simp only [Act.put, List.setIfInBounds_toArray, List.set_cons_zero, List.set_cons_succ]
            --@r4
            refine wpAny_take (i := 5) (oi := { dst := some 36, op := .move (.tmp 6), type := 3, pos := "merkle.go:47", after := #[], guard := none }) (v := .int .i64 (u2 : Nat)) rfl (by kernel_rfl) (by kernel_rfl) (by kernel_rfl) (fun _ _ _ h => h) (Or.inl ⟨by rfl, by (intro w; go_simp; first | done | with_reducible rfl)⟩) ?_
            try simp only [Act.put, List.setIfInBounds_toArray, List.set_cons_zero, List.set_cons_succ]
            --@r5
            refine wpAny_take (i := 6) (oi := { dst := some 37, op := .binOp .sub 3 (.tmp 36) (.const (.int .i64 2)) 3, type := 3, pos := "merkle.go:47", after := #[{ on := 5, ground := .data }], guard := none }) (v := .int .i64 (p : Nat)) rfl (by kernel_rfl) (by kernel_rfl) (by kernel_rfl) (fun _ _ _ h => h) (Or.inl ⟨by rfl, by (intro w; go_simp; first | done | with_reducible rfl)⟩) ?_
            try simp only [Act.put, List.setIfInBounds_toArray, List.set_cons_zero, List.set_cons_succ]
            --@r6
            refine wpAny_take (i := 7) (oi := { dst := some 38, op := .indexAddr 22 (.tmp 35) (.tmp 37), type := 0, pos := "merkle.go:47", after := #[{ on := 4, ground := .data }, { on := 6, ground := .data }], guard := none }) (v := .pointer (some ⟨g, p * 32, none⟩)) rfl (by kernel_rfl) (by kernel_rfl) (by kernel_rfl) (fun _ _ _ h => h) (Or.inl ⟨by rfl, by (intro w; go_simp; first | done | with_reducible rfl)⟩) ?_
            try simp only [Act.put, List.setIfInBounds_toArray, List.set_cons_zero, List.set_cons_succ]
            --@r7
            refine wpAny_take (i := 9) (oi := { dst := some 40, op := .move (.tmp 3), type := 22, pos := "merkle.go:47", after := #[], guard := none }) (v := .slice (some ⟨g, 0, none⟩) u2 c) rfl (by kernel_rfl) (by kernel_rfl) (by kernel_rfl) (fun _ _ _ h => h) (Or.inl ⟨by rfl, by (intro w; go_simp; first | done | with_reducible rfl)⟩) ?_
            try simp only [Act.put, List.setIfInBounds_toArray, List.set_cons_zero, List.set_cons_succ]
            --@r9
            refine wpAny_take (i := 10) (oi := { dst := some 41, op := .move (.tmp 6), type := 3, pos := "merkle.go:47", after := #[], guard := none }) (v := .int .i64 (u2 : Nat)) rfl (by kernel_rfl) (by kernel_rfl) (by kernel_rfl) (fun _ _ _ h => h) (Or.inl ⟨by rfl, by (intro w; go_simp; first | done | with_reducible rfl)⟩) ?_
            try simp only [Act.put, List.setIfInBounds_toArray, List.set_cons_zero, List.set_cons_succ]
            --@r10
            refine wpAny_take (i := 11) (oi := { dst := some 42, op := .binOp .sub 3 (.tmp 41) (.const (.int .i64 1)) 3, type := 3, pos := "merkle.go:47", after := #[{ on := 10, ground := .data }], guard := none }) (v := .int .i64 (u1 : Nat)) rfl (by kernel_rfl) (by kernel_rfl) (by kernel_rfl) (fun _ _ _ h => h) (Or.inl ⟨by rfl, by (intro w; go_simp; first | done | with_reducible rfl)⟩) ?_
            try simp only [Act.put, List.setIfInBounds_toArray, List.set_cons_zero, List.set_cons_succ]
            --@r11
            refine wpAny_take (i := 12) (oi := { dst := some 43, op := .indexAddr 22 (.tmp 40) (.tmp 42), type := 0, pos := "merkle.go:47", after := #[{ on := 9, ground := .data }, { on := 11, ground := .data }], guard := none }) (v := .pointer (some ⟨g, u1 * 32, none⟩)) rfl (by kernel_rfl) (by kernel_rfl) (by kernel_rfl) (fun _ _ _ h => h) (Or.inl ⟨by rfl, by (intro w; go_simp; first | done | with_reducible rfl)⟩) ?_
            try simp only [Act.put, List.setIfInBounds_toArray, List.set_cons_zero, List.set_cons_succ]
            --@r12
            refine wpAny_ready (rs := [8, 13]) (by kernel_rfl) (by simp) ?_
            refine AllReady.cons (o := { dst := some 39, op := .load 25 (.tmp 38), type := 25, pos := "merkle.go:47", after := #[{ on := 7, ground := .data }], guard := none }) rfl (fun K hK => ?_) ?_
            rotate_left
            refine AllReady.cons (o := { dst := some 44, op := .load 25 (.tmp 43), type := 25, pos := "merkle.go:47", after := #[{ on := 12, ground := .data }], guard := none }) rfl (fun K hK => ?_) ?_
            rotate_left
            exact AllReady.nil
            --@s
            focus
              refine step_load_mid rfl 25 (.tmp 38) rfl g (p * 32) (by rfl) _ _ HRX.out Tryd.underlying25 rfl HXI.out ?_
              refine hK _ _ ?_
              clear hK K
              try simp only [Act.put, List.setIfInBounds_toArray, List.set_cons_zero, List.set_cons_succ]
              refine wpAny_ready (rs := [13]) (by kernel_rfl) (by simp) ?_
              refine AllReady.cons (o := { dst := some 44, op := .load 25 (.tmp 43), type := 25, pos := "merkle.go:47", after := #[{ on := 12, ground := .data }], guard := none }) rfl (fun K hK => ?_) AllReady.nil
              refine step_load_mid rfl 25 (.tmp 43) rfl g (u1 * 32) (by rfl) _ _ HRY.out Tryd.underlying25 rfl HYI.out ?_
              refine hK _ _ ?_
              clear hK K
              try simp only [Act.put, List.setIfInBounds_toArray, List.set_cons_zero, List.set_cons_succ]
            rotate_left
            focus
              refine step_load_mid rfl 25 (.tmp 43) rfl g (u1 * 32) (by rfl) _ _ HRY.out Tryd.underlying25 rfl HYI.out ?_
              refine hK _ _ ?_
              clear hK K
              try simp only [Act.put, List.setIfInBounds_toArray, List.set_cons_zero, List.set_cons_succ]
              refine wpAny_ready (rs := [8]) (by kernel_rfl) (by simp) ?_
              refine AllReady.cons (o := { dst := some 39, op := .load 25 (.tmp 38), type := 25, pos := "merkle.go:47", after := #[{ on := 7, ground := .data }], guard := none }) rfl (fun K hK => ?_) AllReady.nil
              refine step_load_mid rfl 25 (.tmp 38) rfl g (p * 32) (by rfl) _ _ HRX.out Tryd.underlying25 rfl HXI.out ?_
              refine hK _ _ ?_
              clear hK K
              try simp only [Act.put, List.setIfInBounds_toArray, List.set_cons_zero, List.set_cons_succ]
            --@t
            all_goals
              refine wpAny_ready (rs := [14]) (by kernel_rfl) (by simp) ?_
              refine AllReady.cons (o := { dst := some 45, op := .call { callee := .value (.func 15), args := #[.tmp 39, .tmp 44], argTypes := #[25, 25] }, type := 25, pos := "merkle.go:47", after := #[{ on := 8, ground := .data }, { on := 13, ground := .data }], guard := none }) rfl (fun K hK => ?_) AllReady.nil
              go_simp
              refine (HNC.out _ HTx.out).mono ?_
              rintro e w2 ⟨rfl, ho2⟩
              have HO2 := Lib.hid (HOD9.out.then ho2)
              obtain ⟨v3, w3, hrun2, hod3, ho3⟩ := app_dig (HODD.out.only ho2 (by simp)) (node_length x y) HPS.out (by have := HO2.out.size; have := HB.out; omega) (by have := HB.out; omega) HO2.out _ HDV.out
              have HRUN2 := Lib.hid hrun2; have HOD3 := Lib.hid hod3; have HO3 := Lib.hid ho3
              clear ho2 hrun2 hod3 ho3
              refine hK _ _ ?_
              clear hK K
              try simp only [Act.put, List.setIfInBounds_toArray, List.set_cons_zero, List.set_cons_succ]
              --@u
              refine wpAny_ready (rs := [15]) (by kernel_rfl) (by simp) ?_
              refine AllReady.cons (o := { dst := some 46, op := .buildSlice 22 1 #[(0, .tmp 45)], type := 22, pos := "merkle.go:47", after := #[{ on := 14, ground := .data }], guard := none }) rfl (fun K hK => ?_) AllReady.nil
              refine step_one_dig rfl (.tmp 45) rfl Dg (by rfl) HDS.out ?_
              refine hK _ _ ?_
              clear hK K
              try simp only [Act.put, List.setIfInBounds_toArray, List.set_cons_zero, List.set_cons_succ]
              --@v
              refine wpAny_ready (rs := [16]) (by kernel_rfl) (by simp) ?_
              refine AllReady.cons (o := { dst := some 47, op := .call { callee := .builtin .append, args := #[.tmp 34, .tmp 46], argTypes := #[22, 22] }, type := 22, pos := "merkle.go:47", after := #[{ on := 3, ground := .data }, { on := 15, ground := .data }, { on := 14, ground := .chain }], guard := none }) rfl (fun K hK => ?_) AllReady.nil
              refine step_append_run rfl (.tmp 34) (.tmp 46) 22 rfl (by rfl) (by rfl) (HRUN2.out _) ?_
              refine hK _ _ ?_
              clear hK K
              try simp only [Act.put, List.setIfInBounds_toArray, List.set_cons_zero, List.set_cons_succ]
              --@w
              refine wpAny_ready (rs := [17]) (by kernel_rfl) (by simp) ?_
              refine AllReady.cons (o := { dst := some 3, op := .assign (.tmp 47), type := 22, pos := "merkle.go:47", after := #[{ on := 16, ground := .data }, { on := 16, ground := .chain }, { on := 0, ground := .phase }, { on := 1, ground := .phase }, { on := 2, ground := .phase }, { on := 3, ground := .phase }, { on := 4, ground := .phase }, { on := 5, ground := .phase }, { on := 6, ground := .phase }, { on := 7, ground := .phase }, { on := 8, ground := .phase }, { on := 9, ground := .phase }, { on := 10, ground := .phase }, { on := 11, ground := .phase }, { on := 12, ground := .phase }, { on := 13, ground := .phase }, { on := 14, ground := .phase }, { on := 15, ground := .phase }, { on := 16, ground := .phase }], guard := none }) rfl (fun K hK => ?_) AllReady.nil
              go_simp
              refine hK _ _ ?_
              clear hK K
              try simp only [Act.put, List.setIfInBounds_toArray, List.set_cons_zero, List.set_cons_succ]
              --@x
              refine wpAny_done (by kernel_rfl) ?_ _
            -->>region A
            --@a
            all_goals
              go_wp2
              go_roundw
              case rel => exact ⟨t + 1, by omega, by go_num, by rw [HJN.out]; exact HOD3.out, HO3.out⟩
              case measure => simp [intOf]; omega
          · have hte : t = T := by omega
            subst hte
            have hjn : Mrk.joins (Sha.sum []) nodeD t (S ++ [d]) = Mrk.procs (Sha.sum []) nodeD 0 [] (ds.take (k + 1)) := HNEXT.out.symm
            rw [hjn] at HODX
            have HJ := Lib.hid HODX.out
            clear hjn hodx HNEXT
            go_wp2
            --@8
            go_roundw
            case rel => exact ⟨k + 1, by omega, by go_num, HODX.out, HOX.out⟩
            case measure => simp [intOf]; omega
      · have hke : k = n := by omega
        subst hke
        have hfin := Mrk.fin_root (Sha.sum []) nodeD ds
        rw [List.take_of_length_le (by rw [HN.out]; exact Nat.le_refl _)] at HOD
        go_wp2
        --@9
        go_step3
        --@b
        go_wp2_with fail
        --@c
        have hne : Mrk.procs (Sha.sum []) nodeD 0 [] ds ≠ [] := by
          intro e
          have h := Mrk.procs_length (Sha.sum []) nodeD ds k (by rw [HN.out]; exact Nat.le_refl _)
          rw [List.take_of_length_le (by rw [HN.out]; exact Nat.le_refl _), e] at h
          have h2 := (Mrk.pc_pos k (by omega))
          rw [List.length_nil] at h
          omega
        obtain ⟨S0, hS0⟩ : ∃ S0, Mrk.procs (Sha.sum []) nodeD 0 [] ds = S0 := ⟨_, rfl⟩
        rw [hS0] at HOD hne hfin
        have hl0 : S0.length ≤ 100000 := by
          have h := Mrk.procs_length (Sha.sum []) nodeD ds k (by rw [HN.out]; exact Nat.le_refl _)
          rw [List.take_of_length_le (by rw [HN.out]; exact Nat.le_refl _), hS0] at h
          have h2 := (Mrk.pc_le k)
          omega
        have hf0 : Mrk.fin (Sha.sum []) nodeD S0 = R := by
          rw [← HR.out]
          exact hfin (fun e => hb2 (by have h := HN.out; rw [e] at h; simp at h; omega))
        have HNE := Lib.hid hne; have HF0 := Lib.hid hf0; have HL0 := Lib.hid hl0
        clear hne hf0 hl0 hfin hS0 hod ho
        go_loopw [3] (fun s wx => ∃ S : List (List UInt8), OD wx B s S ∧ S ≠ [] ∧ Mrk.fin (Sha.sum []) nodeD S = R ∧ S.length ≤ 100000 ∧ Only [] w1 wx) (fun s _ => vlen s)
        case atStart => exact ⟨S0, HOD.out, HNE.out, HF0.out, HL0.out, HO.out⟩
        case round =>
          clear HOD HNE HF0 HL0 HO
          obtain ⟨U, hodx, hne, hfin, hlen, hox⟩ := hrel
          have HODX := Lib.hid hodx; have HOX := Lib.hid hox; have HNE := Lib.hid hne; have HFIN := Lib.hid hfin
          obtain ⟨wx, hwx⟩ : ∃ wx, wx = wr := ⟨_, rfl⟩
          subst hwx
          obtain ⟨m, hm⟩ : ∃ m, U.length = m := ⟨_, rfl⟩
          have hm0 : 0 < m := by rw [← hm]; exact List.length_pos_iff.2 hne
          clear hne hfin hox
          by_cases hm1 : m = 1
          · subst hm1
            have hodx2 := hodx
            obtain ⟨sa, sc, rfl, q1, q2⟩ := hodx.slice
            have HM := Lib.hid hm
            have hUd : ∃ x, U = [x] := List.length_eq_one_iff.1 hm
            obtain ⟨x, rfl⟩ := hUd
            have hxr : R = x := HFIN.out.symm
            subst hxr
            obtain ⟨b, off, rfl, hrx⟩ := DS.at HODX.out.ds 0 (by simp)
            rw [Nat.mul_zero, Nat.add_zero] at hrx
            change wx.rangeAt b off (R.map u8v) at hrx
            have hdv : dv R = .agg (R.map u8v).toArray := rfl
            have hl : (R.map u8v).length = 32 := by rw [List.length_map]; exact HR32.out
            have hone := u8vs_one R
            obtain ⟨D, hD⟩ : ∃ D, R.map u8v = D := ⟨_, rfl⟩
            rw [hD] at hrx hdv hl hone
            have HRX := Lib.hid hrx; have HDV := Lib.hid hdv; have HDL := Lib.hid hl; have HD1 := Lib.hid hone
            have HDS : Hid (D.toArray.size = 32) := Lib.hid (by rw [List.size_toArray]; exact hl)
            have HDI : Hid ((Tryd.prog.info? 25).map (·.size) = some D.length) := Lib.hid (by rw [hl]; kernel_rfl)
            have HZR := Lib.hid (HOX.out.heap HZ1.out (by simp))
            have HO4 := Lib.hid (HO1.out.then HOX.out)
            clear hm q1 q2 hodx hodx2 hrx hlen hdv hl hone hD HODX HFIN HNE
            go_wp2_with (first
              | (refine wpList_load_mid rfl 25 _ rfl b off rfl D _ HRX.out Tryd.underlying25 rfl HDI.out ?_)
              | (refine wpList_store_row rfl 25 _ _ rfl q D.toArray rfl rfl _ _ HZR.out (by rw [List.size_toArray]; exact HDI.out) (Eq.trans (b := 32) rfl HDS.out.symm) HD1.out ?_))
            --@d
            have hres : (wx.setRow q D.toArray).heap[q]? = some (.cells D.toArray 25 (0, 0)) := setRow_heap _ _ _ D.toArray _ _ HZR.out
            have hof : Only [] w (wx.setRow q D.toArray) := HO4.out.setRow (.inr (by have := HQ.out; omega)) D.toArray
            generalize World.setRow _ _ _ = w8 at *
            (try simp only [Exit.noGoto_ret])
            refine bodyPost_ret (v := .agg D.toArray) (results_cell_row rfl _ _ q 25 D.toArray (0, 0) _ rfl hres Tryd.underlying25 rfl (by rw [List.size_toArray]; exact HDI.out)) rfl ⟨by rw [HDV.out], hof⟩
          · obtain ⟨p, hp⟩ : ∃ p, U.length = p + 2 := ⟨m - 2, by omega⟩
            have hjn := Mrk.fin_join' (Sha.sum []) nodeD U (by omega)
            obtain ⟨g, c, X, Y, x, y, rfl, hpc, hcm, hXl, hYl, hrx, hry, hdx, hdy, hlx, hly, hodp, hje⟩ := join_facts hodx hp
            rw [hje, HFIN.out] at hjn
            unfold maxLen at hcm
            have hXi : (Tryd.prog.info? 25).map (·.size) = some X.length := by rw [hXl]; kernel_rfl
            have hYi : (Tryd.prog.info? 25).map (·.size) = some Y.length := by rw [hYl]; kernel_rfl
            have hnc := fun W hW => node_c W x y hlx hly hW
            rw [hdx, hdy] at hnc
            have HRX0 := Lib.hid hrx; have HRY0 := Lib.hid hry; have HXI := Lib.hid hXi; have HYI := Lib.hid hYi; have HNC := Lib.hid hnc; have HODP := Lib.hid hodp; have HJN := Lib.hid hjn
            have hp2 : ((p + 2 : Nat) : Int) - 2 = (p : Int) := by omega
            have hp1 : ((p + 2 : Nat) : Int) - 1 = ((p + 1 : Nat) : Int) := by omega
            have hpm : p ≤ 100000 := by omega
            have HXL := Lib.hid hXl; have HYL := Lib.hid hYl
            have HPS : Hid ((U.take p).length ≤ 1000000) := Lib.hid (by rw [List.length_take]; omega)
            have HPL : Hid ((U.take p ++ [nodeD x y]).length ≤ 100000 ∧ vlen (.slice (some ⟨g, 0, none⟩) (p + 2) c) = (U.take p ++ [nodeD x y]).length + 1) := Lib.hid (by rw [List.length_append, List.length_take, List.length_singleton, Nat.min_eq_left (by omega)]; exact ⟨by omega, rfl⟩)
            obtain ⟨Dg, hDg⟩ : ∃ Dg, ((nodeD x y).map u8v).toArray = Dg := ⟨_, rfl⟩
            have hdv : dv (nodeD x y) = .agg Dg := by unfold dv; rw [hDg]
            have HDS : Hid (Dg.size = 32) := Lib.hid (by rw [← hDg, List.size_toArray, List.length_map, node_length])
            rw [hdv] at HNC
            have HDV := Lib.hid hdv
            clear hodx hrx hry hdx hdy hXi hYi hnc hodp hje hjn hlx hly hXl hYl hdv hDg hp HODX hm hm0 hm1 hlen HFIN HNE
            obtain ⟨u2, hu2⟩ : ∃ u2, p + 2 = u2 := ⟨_, rfl⟩
            obtain ⟨u1, hu1⟩ : ∃ u1, p + 1 = u1 := ⟨_, rfl⟩
            rw [hu2] at hp2 hp1 hpc HPL ⊢
            rw [hu1] at hp1 HRY0
            have hu9 : u2 ≤ 100002 := by omega
            have hpu : (p : Int) < (u2 : Int) := by omega
            have hpu1 : (u1 : Int) < (u2 : Int) := by omega
            have hpc2 : (p : Int) ≤ (c : Int) := by omega
            have hwp : IntKind.i64.wrap (p : Int) = (p : Int) := by rw [IntKind.wrap_i64]; omega
            have hwu : IntKind.i64.wrap (u1 : Int) = (u1 : Int) := by rw [IntKind.wrap_i64]; omega
            have hn1 : ((u2 : Int) == 1) = false := by rw [beq_eq_false_iff_ne]; omega
            have hn1' : ¬ ((u2 : Int) = 1) := by omega
            have HU12 := Lib.hid (⟨hu1, hu2⟩ : _ ∧ _)
            clear hu1 hu2
            --@e
            go_upto_region 16 with fail
            --@f
            have HTx := Lib.hid (HT1.out.only HOX.out.drew (by simp))
            have HOD9 : Hid (Only [] w1 wx.drew) := Lib.hid HOX.out.drew
            have HODD : Hid (OD wx.drew B (.slice (some ⟨g, 0, none⟩) p c) (U.take p)) := Lib.hid (HODP.out.only (Only.refl [] wx).drew (by simp))
            have HRX : Hid (wx.drew.rangeAt g (p * 32) X) := Lib.hid HRX0.out
            have HRY : Hid (wx.drew.rangeAt g (u1 * 32) Y) := Lib.hid HRY0.out
            --<<region B
            refine wp_region_any (by kernel_rfl) ?_
            change wpAny _ _ _ _ _ _ _ (World.drew _)
            generalize World.drew _ = wd at *
            refine wpAny_take (i := 0) (oi := { dst := some 54, op := .move (.tmp 3), type := 22, pos := "merkle.go:56", after := #[], guard := none }) (v := .slice (some ⟨g, 0, none⟩) u2 c) rfl (by kernel_rfl) (by kernel_rfl) (by kernel_rfl) (fun _ _ _ h => h) (Or.inl ⟨by rfl, by (intro w; go_simp; first | done | with_reducible rfl)⟩) ?_
            try simp only [Act.put, List.setIfInBounds_toArray, List.set_cons_zero, List.set_cons_succ]
            --@yr0
            refine wpAny_take (i := 1) (oi := { dst := some 55, op := .move (.tmp 7), type := 3, pos := "merkle.go:56", after := #[], guard := none }) (v := .int .i64 (u2 : Nat)) rfl (by kernel_rfl) (by kernel_rfl) (by kernel_rfl) (fun _ _ _ h => h) (Or.inl ⟨by rfl, by (intro w; go_simp; first | done | with_reducible rfl)⟩) ?_
            try simp only [Act.put, List.setIfInBounds_toArray, List.set_cons_zero, List.set_cons_succ]
            --@yr1
            refine wpAny_take (i := 2) (oi := { dst := some 56, op := .binOp .sub 3 (.tmp 55) (.const (.int .i64 2)) 3, type := 3, pos := "merkle.go:56", after := #[{ on := 1, ground := .data }], guard := none }) (v := .int .i64 (p : Nat)) rfl (by kernel_rfl) (by kernel_rfl) (by kernel_rfl) (fun _ _ _ h => h) (Or.inl ⟨by rfl, by (intro w; go_simp; first | done | with_reducible rfl)⟩) ?_
            try simp only [Act.put, List.setIfInBounds_toArray, List.set_cons_zero, List.set_cons_succ]
            --@yr2
            refine wpAny_take (i := 3) (oi := { dst := some 57, op := .slice 22 (.tmp 54) none (some (.tmp 56)) none, type := 22, pos := "merkle.go:56", after := #[{ on := 0, ground := .data }, { on := 2, ground := .data }], guard := none }) (v := .slice (some ⟨g, 0, none⟩) p c) rfl (by kernel_rfl) (by kernel_rfl) (by kernel_rfl) (fun _ _ _ h => h) (Or.inl ⟨by rfl, by (intro w; go_simp; first | done | with_reducible rfl)⟩) ?_
            try simp only [Act.put, List.setIfInBounds_toArray, List.set_cons_zero, List.set_cons_succ]
            --@yr3
            refine wpAny_take (i := 4) (oi := { dst := some 58, op := .move (.tmp 3), type := 22, pos := "merkle.go:56", after := #[], guard := none }) (v := .slice (some ⟨g, 0, none⟩) u2 c) rfl (by kernel_rfl) (by kernel_rfl) (by kernel_rfl) (fun _ _ _ h => h) (Or.inl ⟨by rfl, by (intro w; go_simp; first | done | with_reducible rfl)⟩) ?_
            try simp only [Act.put, List.setIfInBounds_toArray, List.set_cons_zero, List.set_cons_succ]
            --@yr4
            refine wpAny_take (i := 5) (oi := { dst := some 59, op := .move (.tmp 7), type := 3, pos := "merkle.go:56", after := #[], guard := none }) (v := .int .i64 (u2 : Nat)) rfl (by kernel_rfl) (by kernel_rfl) (by kernel_rfl) (fun _ _ _ h => h) (Or.inl ⟨by rfl, by (intro w; go_simp; first | done | with_reducible rfl)⟩) ?_
            try simp only [Act.put, List.setIfInBounds_toArray, List.set_cons_zero, List.set_cons_succ]
            --@yr5
            refine wpAny_take (i := 6) (oi := { dst := some 60, op := .binOp .sub 3 (.tmp 59) (.const (.int .i64 2)) 3, type := 3, pos := "merkle.go:56", after := #[{ on := 5, ground := .data }], guard := none }) (v := .int .i64 (p : Nat)) rfl (by kernel_rfl) (by kernel_rfl) (by kernel_rfl) (fun _ _ _ h => h) (Or.inl ⟨by rfl, by (intro w; go_simp; first | done | with_reducible rfl)⟩) ?_
            try simp only [Act.put, List.setIfInBounds_toArray, List.set_cons_zero, List.set_cons_succ]
            --@yr6
            refine wpAny_take (i := 7) (oi := { dst := some 61, op := .indexAddr 22 (.tmp 58) (.tmp 60), type := 0, pos := "merkle.go:56", after := #[{ on := 4, ground := .data }, { on := 6, ground := .data }], guard := none }) (v := .pointer (some ⟨g, p * 32, none⟩)) rfl (by kernel_rfl) (by kernel_rfl) (by kernel_rfl) (fun _ _ _ h => h) (Or.inl ⟨by rfl, by (intro w; go_simp; first | done | with_reducible rfl)⟩) ?_
            try simp only [Act.put, List.setIfInBounds_toArray, List.set_cons_zero, List.set_cons_succ]
            --@yr7
            refine wpAny_take (i := 9) (oi := { dst := some 63, op := .move (.tmp 3), type := 22, pos := "merkle.go:56", after := #[], guard := none }) (v := .slice (some ⟨g, 0, none⟩) u2 c) rfl (by kernel_rfl) (by kernel_rfl) (by kernel_rfl) (fun _ _ _ h => h) (Or.inl ⟨by rfl, by (intro w; go_simp; first | done | with_reducible rfl)⟩) ?_
            try simp only [Act.put, List.setIfInBounds_toArray, List.set_cons_zero, List.set_cons_succ]
            --@yr9
            refine wpAny_take (i := 10) (oi := { dst := some 64, op := .move (.tmp 7), type := 3, pos := "merkle.go:56", after := #[], guard := none }) (v := .int .i64 (u2 : Nat)) rfl (by kernel_rfl) (by kernel_rfl) (by kernel_rfl) (fun _ _ _ h => h) (Or.inl ⟨by rfl, by (intro w; go_simp; first | done | with_reducible rfl)⟩) ?_
            try simp only [Act.put, List.setIfInBounds_toArray, List.set_cons_zero, List.set_cons_succ]
            --@yr10
            refine wpAny_take (i := 11) (oi := { dst := some 65, op := .binOp .sub 3 (.tmp 64) (.const (.int .i64 1)) 3, type := 3, pos := "merkle.go:56", after := #[{ on := 10, ground := .data }], guard := none }) (v := .int .i64 (u1 : Nat)) rfl (by kernel_rfl) (by kernel_rfl) (by kernel_rfl) (fun _ _ _ h => h) (Or.inl ⟨by rfl, by (intro w; go_simp; first | done | with_reducible rfl)⟩) ?_
            try simp only [Act.put, List.setIfInBounds_toArray, List.set_cons_zero, List.set_cons_succ]
            --@yr11
            refine wpAny_take (i := 12) (oi := { dst := some 66, op := .indexAddr 22 (.tmp 63) (.tmp 65), type := 0, pos := "merkle.go:56", after := #[{ on := 9, ground := .data }, { on := 11, ground := .data }], guard := none }) (v := .pointer (some ⟨g, u1 * 32, none⟩)) rfl (by kernel_rfl) (by kernel_rfl) (by kernel_rfl) (fun _ _ _ h => h) (Or.inl ⟨by rfl, by (intro w; go_simp; first | done | with_reducible rfl)⟩) ?_
            try simp only [Act.put, List.setIfInBounds_toArray, List.set_cons_zero, List.set_cons_succ]
            --@yr12
            refine wpAny_ready (rs := [8, 13]) (by kernel_rfl) (by simp) ?_
            refine AllReady.cons (o := { dst := some 62, op := .load 25 (.tmp 61), type := 25, pos := "merkle.go:56", after := #[{ on := 7, ground := .data }], guard := none }) rfl (fun K hK => ?_) ?_
            rotate_left
            refine AllReady.cons (o := { dst := some 67, op := .load 25 (.tmp 66), type := 25, pos := "merkle.go:56", after := #[{ on := 12, ground := .data }], guard := none }) rfl (fun K hK => ?_) ?_
            rotate_left
            exact AllReady.nil
            --@ys
            focus
              refine step_load_mid rfl 25 (.tmp 61) rfl g (p * 32) (by rfl) _ _ HRX.out Tryd.underlying25 rfl HXI.out ?_
              refine hK _ _ ?_
              clear hK K
              try simp only [Act.put, List.setIfInBounds_toArray, List.set_cons_zero, List.set_cons_succ]
              refine wpAny_ready (rs := [13]) (by kernel_rfl) (by simp) ?_
              refine AllReady.cons (o := { dst := some 67, op := .load 25 (.tmp 66), type := 25, pos := "merkle.go:56", after := #[{ on := 12, ground := .data }], guard := none }) rfl (fun K hK => ?_) AllReady.nil
              refine step_load_mid rfl 25 (.tmp 66) rfl g (u1 * 32) (by rfl) _ _ HRY.out Tryd.underlying25 rfl HYI.out ?_
              refine hK _ _ ?_
              clear hK K
              try simp only [Act.put, List.setIfInBounds_toArray, List.set_cons_zero, List.set_cons_succ]
            rotate_left
            focus
              refine step_load_mid rfl 25 (.tmp 66) rfl g (u1 * 32) (by rfl) _ _ HRY.out Tryd.underlying25 rfl HYI.out ?_
              refine hK _ _ ?_
              clear hK K
              try simp only [Act.put, List.setIfInBounds_toArray, List.set_cons_zero, List.set_cons_succ]
              refine wpAny_ready (rs := [8]) (by kernel_rfl) (by simp) ?_
              refine AllReady.cons (o := { dst := some 62, op := .load 25 (.tmp 61), type := 25, pos := "merkle.go:56", after := #[{ on := 7, ground := .data }], guard := none }) rfl (fun K hK => ?_) AllReady.nil
              refine step_load_mid rfl 25 (.tmp 61) rfl g (p * 32) (by rfl) _ _ HRX.out Tryd.underlying25 rfl HXI.out ?_
              refine hK _ _ ?_
              clear hK K
              try simp only [Act.put, List.setIfInBounds_toArray, List.set_cons_zero, List.set_cons_succ]
            --@yt
            all_goals
              refine wpAny_ready (rs := [14]) (by kernel_rfl) (by simp) ?_
              refine AllReady.cons (o := { dst := some 68, op := .call { callee := .value (.func 15), args := #[.tmp 62, .tmp 67], argTypes := #[25, 25] }, type := 25, pos := "merkle.go:56", after := #[{ on := 8, ground := .data }, { on := 13, ground := .data }], guard := none }) rfl (fun K hK => ?_) AllReady.nil
              go_simp
              refine (HNC.out _ HTx.out).mono ?_
              rintro e w2 ⟨rfl, ho2⟩
              have HO2 := Lib.hid (HOD9.out.then ho2)
              obtain ⟨v3, w3, hrun2, hod3, ho3⟩ := app_dig (HODD.out.only ho2 (by simp)) (node_length x y) HPS.out (by have := HO2.out.size; have := HB.out; omega) (by have := HB.out; omega) HO2.out _ HDV.out
              have HRUN2 := Lib.hid hrun2; have HOD3 := Lib.hid hod3; have HO3 := Lib.hid ho3
              clear ho2 hrun2 hod3 ho3
              refine hK _ _ ?_
              clear hK K
              try simp only [Act.put, List.setIfInBounds_toArray, List.set_cons_zero, List.set_cons_succ]
              --@yu
              refine wpAny_ready (rs := [15]) (by kernel_rfl) (by simp) ?_
              refine AllReady.cons (o := { dst := some 69, op := .buildSlice 22 1 #[(0, .tmp 68)], type := 22, pos := "merkle.go:56", after := #[{ on := 14, ground := .data }], guard := none }) rfl (fun K hK => ?_) AllReady.nil
              refine step_one_dig rfl (.tmp 68) rfl Dg (by rfl) HDS.out ?_
              refine hK _ _ ?_
              clear hK K
              try simp only [Act.put, List.setIfInBounds_toArray, List.set_cons_zero, List.set_cons_succ]
              --@yv
              refine wpAny_ready (rs := [16]) (by kernel_rfl) (by simp) ?_
              refine AllReady.cons (o := { dst := some 70, op := .call { callee := .builtin .append, args := #[.tmp 57, .tmp 69], argTypes := #[22, 22] }, type := 22, pos := "merkle.go:56", after := #[{ on := 3, ground := .data }, { on := 15, ground := .data }, { on := 14, ground := .chain }], guard := none }) rfl (fun K hK => ?_) AllReady.nil
              refine step_append_run rfl (.tmp 57) (.tmp 69) 22 rfl (by rfl) (by rfl) (HRUN2.out _) ?_
              refine hK _ _ ?_
              clear hK K
              try simp only [Act.put, List.setIfInBounds_toArray, List.set_cons_zero, List.set_cons_succ]
              --@yw
              refine wpAny_ready (rs := [17]) (by kernel_rfl) (by simp) ?_
              refine AllReady.cons (o := { dst := some 3, op := .assign (.tmp 70), type := 22, pos := "merkle.go:56", after := #[{ on := 16, ground := .data }, { on := 16, ground := .chain }, { on := 0, ground := .phase }, { on := 1, ground := .phase }, { on := 2, ground := .phase }, { on := 3, ground := .phase }, { on := 4, ground := .phase }, { on := 5, ground := .phase }, { on := 6, ground := .phase }, { on := 7, ground := .phase }, { on := 8, ground := .phase }, { on := 9, ground := .phase }, { on := 10, ground := .phase }, { on := 11, ground := .phase }, { on := 12, ground := .phase }, { on := 13, ground := .phase }, { on := 14, ground := .phase }, { on := 15, ground := .phase }, { on := 16, ground := .phase }], guard := none }) rfl (fun K hK => ?_) AllReady.nil
              go_simp
              refine hK _ _ ?_
              clear hK K
              try simp only [Act.put, List.setIfInBounds_toArray, List.set_cons_zero, List.set_cons_succ]
              --@yx
              refine wpAny_done (by kernel_rfl) ?_ _
            -->>region B
            --@g
            all_goals
              go_wp2
              --@h
              go_roundw
              case rel => exact ⟨_, HOD3.out, by simp, HJN.out, HPL.out.1, HO3.out⟩
              case measure => rw [HPL.out.2]; obtain ⟨sa, sc, e, -, -⟩ := HOD3.out.slice; rw [e]; exact Nat.lt_succ_self _
end Go.Proofs.YtpgcfpfmicghnaaDoor.mrk
