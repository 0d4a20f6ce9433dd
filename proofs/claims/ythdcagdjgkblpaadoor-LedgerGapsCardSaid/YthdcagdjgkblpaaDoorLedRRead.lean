/-
  THE WALK of the reference's Read.
-/
import Derived.Test.YthdcagdjgkblpaaDoorLedAwake
import Derived.Test.YthdcagdjgkblpaaDoorCurRef
set_option linter.unusedVariables false
set_option linter.unusedSimpArgs false
namespace Go.Lm.Led
theorem one_at (l : List UInt8) (k : Nat) (h : 13 * k + 13 ≤ l.length) : one (part l k) =
    if ((l[13 * k]'(by omega)).toNat = 1 ∨ (l[13 * k]'(by omega)).toNat = 2) ∧ put (l[13 * k]'(by omega)).toNat (Cur.le ((l.drop (13 * k + 1)).take 8)) = part l k then some ((l[13 * k]'(by omega)).toNat, Cur.le ((l.drop (13 * k + 1)).take 8)) else none := by
  have e : part l k = l[13 * k]'(by omega) :: (l.drop (13 * k + 1)).take 12 := by
    unfold part
    rw [List.drop_eq_getElem_cons (by omega)]
    rfl
  have e2 : ((l.drop (13 * k + 1)).take 12).take 8 = (l.drop (13 * k + 1)).take 8 := by rw [List.take_take]; rfl
  rw [e, one_cons, e2]
theorem all_take (l : List UInt8) (k : Nat) (R : List (Nat × Nat)) (h1 : ∀ j (h : j < R.length), one (part l j) = some R[j]) (hk : R.length = k) (h2 : one (part l k) = none) : all l = R := by
  subst hk
  exact all_of l R h1 h2
end Go.Lm.Led
namespace Go.Proofs.YthdcagdjgkblpaaDoor.led
open Go Go.RowKit Go.Lm Go.Proofs.YthdcagdjgkblpaaDoor.cur Go.Proofs.YthdcagdjgkblpaaDoor.crc

/-- 'append(v, r)' of a record, one's own. -/
theorem run_append_two {P : Program} {w : World} {B : Nat} {t ty e : TypeId} {i : TypeInfo} {z : Value} {bytes : Nat} (ht : P.underlying t = some (.slice e)) (hi : P.info? e = some i) (hz : i.zero = some z) (hsize : i.size = 2) (hby : i.bytes = bytes) (hzs : z.cells.size = 2)
    {v : Value} {n : Nat} {l : List Value} {x y : Value} (hown : w.ownsRow B e 2 v n l) (h1 : x.oneCell' = true) (h2 : y.oneCell' = true) (h63 : n + 1 ≤ maxLen) (hbytes : (n + 1) * bytes ≤ 140737488355328) (hbase : B ≤ w.heap.size) {T : TypeId} :
    ∃ v' w', (Builtin.append_ #[t, t] ty #[v, .slice (some ⟨w.heap.size, 0, none⟩) 1 1]).run P (w.alloc (.cells #[x, y] T (0, 0))) = .ok v' w' ∧ w'.ownsRow B e 2 v' (n + 1) (l ++ [x, y]) ∧ (w.alloc (.cells #[x, y] T (0, 0))).grownBy w' v.ownBlock := by
  have hp := P2.cells (P2.new w T x y)
  have hnews : ∀ j u, [x, y][j]? = some u → (w.alloc (.cells #[x, y] T (0, 0))).cell? ((⟨w.heap.size, 0, none⟩ : Addr).add j) = some u := by
    intro j u hj
    match j, hj with
    | 0, hj =>
      simp at hj
      subst hj
      rw [add_none]
      exact hp.1
    | 1, hj =>
      simp at hj
      subst hj
      rw [add_none]
      exact hp.2.1
  obtain ⟨v', w', hrun, ho, hg, _⟩ := run_append_own (P := P) (w := w.alloc (.cells #[x, y] T (0, 0))) (ty := ty) B t e i z 2 bytes ht hi hz hsize hby hzs (by decide) v n l (row_only hown ((Only.refl [] w).alloc _)) ⟨w.heap.size, 0, none⟩ 1 1 [x, y] rfl hnews (by intro u hu; simp at hu; rcases hu with rfl | rfl <;> assumption) h63 hbytes (by simp; omega)
  exact ⟨v', w', hrun, ho, hg⟩
theorem info_rr : (Tryd.prog.info? 33).map (fun i => (i.zero, i.size, i.bytes)) = some (some (.agg #[.int .u8 0, .int .u64 0]), 2, 16) := by kernel_rfl

theorem one_at_cd (l : List UInt8) (k : Nat) (h : 13 * k + 13 ≤ l.length) : ∃ K V : Nat, K < 256 ∧ V < 18446744073709551616 ∧ (l[13 * k]'(by omega)).toNat = K ∧ (Cur.rnum (l.drop (13 * k + 1)) 0 8).2.2 = V ∧ Led.one (Led.part l k) = if (K = 1 ∨ K = 2) ∧ Led.put K V = Led.part l k then some (K, V) else none := by
  have e2 : Cur.rnum (l.drop (13 * k + 1)) 0 8 = ((l.drop (13 * k + 1)).drop 8, 0, Cur.le ((l.drop (13 * k + 1)).take 8)) := by
    simp only [Cur.rnum, Cur.rtake]
    rw [if_neg (by simp), if_neg (by decide), if_neg (by simp; omega)]
    rfl
  have h3 := Cur.le_lt ((l.drop (13 * k + 1)).take 8)
  have h4 : 256 ^ ((l.drop (13 * k + 1)).take 8).length ≤ 256 ^ 8 := Nat.pow_le_pow_right (by decide) (by simp; omega)
  exact ⟨_, _, (l[13 * k]'(by omega)).toNat_lt, by omega, rfl, by rw [e2], Led.one_at l k h⟩

set_option maxRecDepth 100000 in
set_option maxHeartbeats 8000000 in
theorem rread_c (w : World) (s : ByteArray) (hs : s.size ≤ 1000000) : Calls Tryd.prog 11 #[.string s] w fun e w' =>
    (∃ u, e = .returned (.tuple #[u, .int .i64 (13 * (Led.all s.data.toList).length : Nat)]) ∧ w'.ownsRow w.heap.size 33 2 u (Led.all s.data.toList).length (cellsR (Led.all s.data.toList))) ∧ Only [] w w' := by
  have hls : s.data.toList.length = s.size := len_data s
  obtain ⟨l, hl⟩ : ∃ l, s.data.toList = l := ⟨_, rfl⟩
  rw [hl] at hls ⊢
  have HL := Lib.hid hl; have HLS := Lib.hid hls
  clear hl hls
  obtain ⟨B, hB⟩ : ∃ B, w.heap.size = B := ⟨_, rfl⟩
  rw [hB]
  have HB := Lib.hid hB
  clear hB
  go_enter Tryd.func11, Tryd.ntmps11
  go_wp2_with fail
  go_loopw [4, 5] (fun x y wr => ∃ (R : List (Nat × Nat)), 13 * R.length ≤ l.length ∧ y = .int .i64 (13 * R.length : Nat) ∧ wr.ownsRow B 33 2 x R.length (cellsR R) ∧ (∀ j (h : j < R.length), Led.one (Led.part l j) = some R[j]) ∧ Only [] w wr) (fun x y _ => l.length - (intOf y).toNat)
  case atStart => exact ⟨[], Nat.zero_le _, rfl, World.ownsRow_nil _ _ _ _, fun j h => by simp at h, Only.refl _ _⟩
  case round =>
    obtain ⟨R, hR, rfl, hrow, hall, ho⟩ := hrel
    have hrl : R.length ≤ 80000 := by have := HLS.out; omega
    obtain ⟨m, hm⟩ : ∃ m, R.length = m := ⟨_, rfl⟩
    have HRow := Lib.hid hrow; have HAll := Lib.hid hall; have HO := Lib.hid ho; have HM := Lib.hid hm
    rw [hm] at HRow hrl hR ⊢
    clear hrow hall ho hm
    by_cases hlt : 13 * m + 13 ≤ l.length
    · obtain ⟨K, V, hK, hV, hk0, hv0, hone⟩ := one_at_cd l m hlt
      have hlt2 : 13 * m + 13 ≤ s.size := by have := HLS.out; omega
      have hgl : (13 * (m : Int)).toNat = 13 * m := by omega
      have HK0 := Lib.hid hk0; have HV0 := Lib.hid hv0; have HONE := Lib.hid hone
      clear hk0 hv0 hone
      --@1
      go_wp2_with fail
      have hex : (s.extract (13 * m + 1) s.size).data.toList = l.drop (13 * m + 1) := by
        rw [← HL.out]
        simp only [ByteArray.data_extract, Array.toList_extract, List.extract_eq_take_drop]
        rw [List.take_of_length_le (by simp)]
      have hexs : (s.extract (13 * m + 1) s.size).size ≤ 140737488355328 := by rw [ByteArray.size_extract]; omega
      have hrn := refnumber_c wr (s.extract (13 * m + 1) s.size) 0 8 hexs
      rw [hex] at hrn
      refine hrn.mono ?_
      clear hrn hex hexs
      rintro e w1 ⟨s', rfl, -, ho1⟩
      rw [HV0.out]
      have HO1 := Lib.hid (HO.out.then ho1)
      have HRow1 := Lib.hid (row_only HRow.out ho1)
      clear ho1 HRow
      generalize (Cur.rnum (List.drop (13 * m + 1) l) 0 8).2.1 = E1
      unfold RV
      --@2
      go_upto_region 6 with fail
      --@3
      have hsk : ∀ h, (s[13 * m]'h).toNat = K := by
        intro h
        rw [← HK0.out]
        congr 1
        have := HL.out
        subst this
        rfl
      simp only [hsk]
      clear hsk
      have hrec : P2 ((w1.alloc (.cells #[.string s', .int .i64 E1] 57)).alloc (.cells #[.int .u8 (K : Int), .int .u64 (V : Int)] 33)) (w1.heap.size + 1) 33 (.int .u8 (K : Int)) (.int .u64 (V : Int)) := by
        have h := P2.new (w1.alloc (.cells #[.string s', .int .i64 E1] 57)) 33 (.int .u8 (K : Int)) (.int .u64 (V : Int))
        rwa [World.size_alloc] at h
      have HO2 : Hid (Only [] w ((w1.alloc (.cells #[.string s', .int .i64 E1] 57)).alloc (.cells #[.int .u8 (K : Int), .int .u64 (V : Int)] 33))) := (HO1.out.alloc _).alloc _
      have HRow2 : Hid (((w1.alloc (.cells #[.string s', .int .i64 E1] 57)).alloc (.cells #[.int .u8 (K : Int), .int .u64 (V : Int)] 33)).ownsRow B 33 2 u4 m (cellsR R)) := row_only HRow1.out (((Only.refl [] w1).alloc _).alloc _)
      generalize ((w1.alloc (.cells #[.string s', .int .i64 E1] 57)).alloc (.cells #[.int .u8 (K : Int), .int .u64 (V : Int)] 33)) = W2 at *
      generalize hqe : w1.heap.size + 1 = q at *
      clear hqe HO1 HRow1
      obtain ⟨c0, c1, cf⟩ := P2.cells hrec
      have HREC := Lib.hid hrec
      clear hrec
      have hx13 : (s.extract (13 * m) (13 * m + 13)).data.toList = Led.part l m := by
        rw [← HL.out]
        simp only [ByteArray.data_extract, Array.toList_extract, List.extract_eq_take_drop]
        unfold Led.part
        congr 1
        omega
      have HX13 := Lib.hid hx13
      clear hx13
      by_cases hk : K = 1 ∨ K = 2
      · have HQ : Hid (∀ W : World, Calls Tryd.prog 13 #[.agg #[.int .u8 (K : Int), .int .u64 (V : Int)]] W fun e w' => e = .returned (.string ⟨(Led.put K V).toArray⟩) ∧ Only [] W w') := fun W => rput_yes W K V hk hV
        obtain ⟨T, hT⟩ : ∃ T : ByteArray, (⟨(Led.put K V).toArray⟩ : ByteArray) = T := ⟨_, rfl⟩
        rw [hT] at HQ
        have i1 : (13 * (m : Int) + 13).toNat = 13 * m + 13 := by omega
        have i2 : (13 * (m : Int) + 13) ≤ (s.size : Int) := by omega
        have i3 : (0 : Int) ≤ 13 * (m : Int) := by omega
        have i4 : 13 * (m : Int) ≤ 13 * (m : Int) + 13 := by omega
        have i5 : IntKind.i64.wrap (13 * (m : Int) + 13) = 13 * (m : Int) + 13 := by rw [IntKind.wrap_i64]; omega
        --@4
        have hcmp : (T.toList == (s.extract (13 * m) (13 * m + 13)).toList) = decide (Led.put K V = Led.part l m) := by
          rw [ByteArray.toList_eq, ByteArray.toList_eq, HX13.out, ← hT, Bool.eq_iff_iff, beq_iff_eq, decide_eq_true_iff]
        by_cases he : Led.put K V = Led.part l m
        · have hone : Led.one (Led.part l m) = some (K, V) := by rw [HONE.out, if_pos ⟨hk, he⟩]
          rw [decide_eq_true he] at hcmp
          have HONE2 := Lib.hid hone
          clear hone he hT hk
          --@4
          go_region_with (go_at_call 13; refine (HQ.out _).mono ?_; rintro e w' ⟨rfl, ho'⟩; have hoq : Only [] W2 w' := (by first | exact (Only.refl [] W2).then ho' | exact (Only.refl [] W2).drew.then ho'); have HOQ := Lib.hid hoq; clear ho' hoq)
          --@5
          have hrow3 := row_only HRow2.out HOQ.out
          obtain ⟨⟨zi, hi, hii⟩⟩ : Nonempty { zi // Tryd.prog.info? 33 = some zi ∧ (zi.zero, zi.size, zi.bytes) = (some (.agg #[.int .u8 0, .int .u64 0]), 2, 16) } := by
            have h := info_rr
            rw [Option.map_eq_some_iff] at h
            obtain ⟨zi, h1, h2⟩ := h
            exact ⟨⟨zi, h1, h2⟩⟩
          simp only [Prod.mk.injEq] at hii
          rename_i w'
          obtain ⟨v', w3, hrun, hrow4, hg⟩ := run_append_two (P := Tryd.prog) (ty := 27) (T := 33) (x := .int .u8 (K : Int)) (y := .int .u64 (V : Int)) Tryd.underlying27 hi hii.1 hii.2.1 hii.2.2 rfl hrow3 rfl rfl (by unfold maxLen; omega) (by omega) (by have := HO2.out.size; have := HOQ.out.size; have := HB.out; omega)
          have HRUN := Lib.hid hrun; have HROW4 := Lib.hid hrow4
          have HO3 : Hid (Only [] w w3) := by
            have h1 := (HO2.out.then HOQ.out).alloc (.cells #[.int .u8 (K : Int), .int .u64 (V : Int)] 33 (0, 0))
            have h2 := Only.of_grown hg
            refine h1.trans h2 (by simp) (fun i hi => .inr ?_)
            have : u4.ownBlock = some i := by
              cases hu : u4.ownBlock with
              | none => rw [hu] at hi; simp at hi
              | some g => rw [hu] at hi; simp at hi; rw [hi]
            have := (World.ownsRow.lt hrow3 i this).1
            have := HB.out
            omega
          obtain ⟨d0, d1, df⟩ := P2.cells (HREC.out.only HOQ.out (by simp))
          clear hrun hrow3 hrow4 hg c0 c1 cf
          --@6
          go_wp2_with (at_builtin; refine wpList_append_run rfl _ _ _ rfl rfl rfl HRUN.out ?_)
          --@7
          go_roundw
          case rel =>
            refine ⟨R ++ [(K, V)], by rw [List.length_append, HM.out]; simp; omega, ?_, ?_, ?_, HO3.out⟩
            · rw [List.length_append, HM.out]
              go_num
            · rw [cellsR_snoc, List.length_append, HM.out]
              exact HROW4.out
            · intro j hj
              rw [List.length_append, HM.out] at hj
              by_cases hjm : j < m
              · rw [HAll.out j (by rw [HM.out]; exact hjm), List.getElem_append_left (by rw [HM.out]; exact hjm)]
              · have hje : j = m := by simp at hj; omega
                subst hje
                rw [HONE2.out, List.getElem_append_right (by rw [HM.out]; omega)]
                simp [HM.out]
          case measure => simp [intOf]; omega
        · have hall := Led.all_take l m R HAll.out HM.out (by rw [HONE.out, if_neg (fun h => he h.2)])
          rw [decide_eq_false he] at hcmp
          have HALL := Lib.hid hall
          clear hall he hT hk
          --@8
          go_region_with (go_at_call 13; refine (HQ.out _).mono ?_; rintro e w' ⟨rfl, ho'⟩; have hoq : Only [] W2 w' := (by first | exact (Only.refl [] W2).then ho' | exact (Only.refl [] W2).drew.then ho'); have HOQ := Lib.hid hoq; clear ho' hoq)
          --@9
          go_wp2
          go_ret2
          refine ⟨⟨u4, by rw [HALL.out, HM.out]; simp, ?_⟩, HO2.out.then HOQ.out⟩
          rw [HALL.out, HM.out]
          exact row_only HRow2.out HOQ.out
      · have HQ : Hid (∀ W : World, Calls Tryd.prog 13 #[.agg #[.int .u8 (K : Int), .int .u64 (V : Int)]] W fun e w' => e = .returned (.string ⟨#[]⟩) ∧ Only [] W w') := fun W => rput_no W K V hk
        have i1 : (13 * (m : Int) + 13).toNat = 13 * m + 13 := by omega
        have i2 : (13 * (m : Int) + 13) ≤ (s.size : Int) := by omega
        have i3 : (0 : Int) ≤ 13 * (m : Int) := by omega
        have i4 : 13 * (m : Int) ≤ 13 * (m : Int) + 13 := by omega
        have i5 : IntKind.i64.wrap (13 * (m : Int) + 13) = 13 * (m : Int) + 13 := by rw [IntKind.wrap_i64]; omega
        obtain ⟨T, hT⟩ : ∃ T : ByteArray, (⟨#[]⟩ : ByteArray) = T := ⟨_, rfl⟩
        rw [hT] at HQ
        have hcmp : (T.toList == (s.extract (13 * m) (13 * m + 13)).toList) = false := by
          rw [ByteArray.toList_eq, ByteArray.toList_eq, HX13.out, ← hT, beq_eq_false_iff_ne]
          intro e
          have h2 := congrArg List.length e
          unfold Led.part at h2
          rw [List.length_take, List.length_drop] at h2
          simp at h2
          omega
        have hall := Led.all_take l m R HAll.out HM.out (by rw [HONE.out, if_neg (fun h => hk h.1)])
        have HALL := Lib.hid hall
        clear hall hT hk
        --@10
        go_region_with (go_at_call 13; refine (HQ.out _).mono ?_; rintro e w' ⟨rfl, ho'⟩; have hoq : Only [] W2 w' := (by first | exact (Only.refl [] W2).then ho' | exact (Only.refl [] W2).drew.then ho'); have HOQ := Lib.hid hoq; clear ho' hoq)
        --@11
        go_wp2
        go_ret2
        refine ⟨⟨u4, by rw [HALL.out, HM.out]; simp, ?_⟩, HO2.out.then HOQ.out⟩
        rw [HALL.out, HM.out]
        exact row_only HRow2.out HOQ.out
    · have hlt2 : ¬ (13 * (m : Int) + 13 ≤ (s.size : Int)) := by have := HLS.out; omega
      have hall := Led.all_take l m R HAll.out HM.out (by
        cases e : Led.one (Led.part l m) with
        | none => rfl
        | some r =>
          have h2 := Led.one_length e
          unfold Led.part at h2
          rw [List.length_take, List.length_drop] at h2
          omega)
      have HALL := Lib.hid hall
      clear hall
      --@12
      go_wp2
      go_ret2
      refine ⟨⟨u4, by rw [HALL.out, HM.out]; simp, ?_⟩, HO.out⟩
      rw [HALL.out, HM.out]
      exact HRow.out
end Go.Proofs.YthdcagdjgkblpaaDoor.led
