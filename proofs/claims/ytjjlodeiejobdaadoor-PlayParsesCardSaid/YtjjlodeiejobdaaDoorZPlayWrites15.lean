/- Play: the document's Step, walked, II. Condition: the line is not too long. -/
import Derived.Test.YtjjlodeiejobdaaDoorZPlayWrites13
namespace Go.Proofs.YtjjlodeiejobdaaDoor
open Go.RowKit Go.Shelf
set_option maxRecDepth 100000 in
set_option maxHeartbeats 16000000 in
theorem step_ak (x : ByteArray) (hxs : x.size ≤ 30000) (hT : wdT (wdAt ((splL 32 x.data.toList).headD []) 14) = [65, 75]) (w : World) : Calls Tryd.prog 23 #[.string x] w (ReadR (rdL x.data.toList) w) := by
  obtain ⟨q0, rs, hq⟩ := pcs_cons 32 x
  have hpb := pcs_back 32 x
  have HSP := Lib.hid (fun y => split31_any 32 x (by omega) y)
  have HSZ := Lib.hid (fun (p : ByteArray) (hq : p ∈ pcsB 32 x) => pcs_size hq)
  obtain ⟨ps, hps⟩ : ∃ ps, ps = pcsB 32 x := ⟨_, rfl⟩
  rw [← hps] at hpb HSP HSZ hq
  have hpb1 := congrArg List.length hpb
  rw [List.length_map] at hpb1
  obtain ⟨m, hm⟩ : ∃ m, m + 1 = ps.length := ⟨rs.length, by rw [hq]; rfl⟩
  rw [← hm] at hpb1
  unfold SplR at HSP
  rw [← hm] at HSP
  have HPB := Lib.hid (And.intro hpb (And.intro hpb1.symm hm.symm))
  obtain ⟨p0, hp0⟩ : ∃ p0, ps[0]? = some p0 := ⟨q0, by rw [hq]; rfl⟩
  have HP0 := Lib.hid hp0
  have hw0 : (splL 32 x.data.toList).headD [] = p0.data.toList := by rw [← hpb, hq] ; rw [hq] at hp0; cases hp0; rfl
  rw [hw0] at hT
  have HW0 := Lib.hid hw0
  have HT := Lib.hid hT
  have HGT := Lib.hid (show ∀ j, j < m + 1 → ∃ p, ps[j]? = some p ∧ p.data.toList = (splL 32 x.data.toList).getD j [] ∧ p.size ≤ x.size from fun j hj => by
    have h1 : ps[j]? = some (ps[j]'(by omega)) := List.getElem?_eq_getElem (by omega)
    refine ⟨_, h1, ?_, HSZ.out _ (List.getElem_mem _)⟩
    rw [← hpb, List.getD, List.getElem?_map, h1]
    rfl)
  have hml : m ≤ 30001 := by
    have h1 := pcs_many 32 x
    rw [← hps, ← hm] at h1
    omega
  have HML := Lib.hid hml
  have hb0 := (Below.refl w.heap.size w).alloc (Nat.le_refl _) (.cells (stpC (stp0 0 0)).toArray 39)
  have hG0 : StpAt (w.alloc (.cells (stpC (stp0 0 0)).toArray 39)) w.heap.size (stp0 0 0) := heap_alloc_new _ _
  have H0 := Lib.hid (And.intro hb0 hG0)
  have HXS := Lib.hid hxs
  clear hpb hpb1 hps hq hm hp0 hw0 hT hml hb0 hG0 hxs
  go_enter Tryd.func23, Tryd.ntmps23
  go_upto_region 1 with fail
  change Code.wp _ _ _ _ (w.alloc (.cells (stpC (stp0 0 0)).toArray 39))
  generalize w.alloc (.cells (stpC (stp0 0 0)).toArray 39) = wa at *
  go_upto_region 2 with (go_at_call 22; refine (HSP.out wa).mono ?_; rintro e wb ⟨g, cap, rfl, hps, hb1⟩; have H1 := Lib.hid (And.intro (H0.out.1.trans (hb1.mono H0.out.1.size)) (And.intro (H0.out.2.below hb1) hps)); clear hb1 hps)
  clear H0 HSP
  go_upto_region 4 with fail
  change Code.wp _ _ _ _ (wb.alloc (.cells (stpC (stp0 0 0)).toArray 39))
  have hb2 := (Below.refl wb.heap.size wb).alloc (Nat.le_refl _) (.cells (stpC (stp0 0 0)).toArray 39)
  have HI := Lib.hid (show StI w w.heap.size g wb.heap.size ps (stp0 0 0) (wb.alloc (.cells (stpC (stp0 0 0)).toArray 39)) from ⟨H1.out.2.1.below hb2, H1.out.2.2.below hb2, heap_alloc_new _ _, H1.out.1.trans (hb2.mono H1.out.1.size), Nat.le_refl _, H1.out.2.1.lt, H1.out.2.2.lt⟩)
  generalize wb.alloc (.cells (stpC (stp0 0 0)).toArray 39) = wc at *
  generalize wb.heap.size = g5 at *
  clear hb2 H1
  go_loopw [6] (fun s6 wr => ∃ i : Nat, s6 = .int .u8 (i : Int) ∧ 1 ≤ i ∧ i ≤ 14 ∧ StI w w.heap.size g g5 ps (stp0 (wdAt p0.data.toList i) 0) wr) (fun s6 _ => 14 - (intOf s6).toNat)
  case atStart => exact ⟨1, rfl, Nat.le_refl _, by decide, HI.out⟩
  case round =>
    clear HI
    obtain ⟨i, rfl, hi1, hi14, hI⟩ := hrel
    have HI := Lib.hid hI
    clear hI
    by_cases hlt : i < 14
    · have hlt' : (i : Int) < 14 := by omega
      have HW := Lib.hid (fun y => word_any i (by omega) y)
      have hw8 : IntKind.u8.wrap ((i : Int) + 1) = (i : Int) + 1 := by rw [IntKind.wrap_u8']; omega
      have hpc := HI.out.piece HP0.out
      obtain ⟨nm, hnm⟩ : ∃ nm : ByteArray, nm = ⟨(wdN i).toArray⟩ := ⟨_, rfl⟩
      unfold TwoS at HW
      rw [← hnm] at HW
      have HNM := Lib.hid (show nm.data.toList = wdN i by rw [hnm])
      clear hnm
      go_upto_region 7 with (go_at_call 34; refine (HW.out wr).mono ?_; rintro e w2 ⟨rfl, hb2⟩; replace HI := Lib.hid (HI.out.below hb2); clear hb2)
      clear hpc HW
      have hpc := HI.out.piece HP0.out
      by_cases hq : wdN i = p0.data.toList
      · have hqv : (nm.toList == p0.toList) = true := by rw [beq_iff_eq, ByteArray.toList_eq, ByteArray.toList_eq, HNM.out]; exact hq
        have HD := Lib.hid (show wdAt p0.data.toList (i + 1) = i by unfold wdAt; rw [if_pos ⟨hi1, hq⟩])
        clear hq
        obtain ⟨q0, q1, q2, q3, q6, q7, q8, q9, q10⟩ := StpAt.cells HI.out.s
        have hth := thaw_row 0 HI.out.s
        go_upto_region 5 with fail
        have HI2 := HI.out.set (stp0 i 0) 0 (.int .u8 (i : Int)) rfl
        replace HI := Lib.hid HI2
        clear HI2 hth hpc
        clear q0 q1 q2 q3 q6 q7 q8 q9 q10
        generalize w2.setCell ⟨g5, 0, none⟩ (.int .u8 (i : Int)) = w3 at *
        go_wp2
        go_roundw
        case rel => exact ⟨i + 1, (by first | rfl | simp), by omega, hlt, by rw [HD.out]; exact HI.out⟩
        case measure => simp only [intOf]; omega
      · have hqv : (nm.toList == p0.toList) = false := by rw [beq_eq_false_iff_ne, ByteArray.toList_eq, ByteArray.toList_eq, HNM.out]; exact hq
        have HD := Lib.hid (show wdAt p0.data.toList (i + 1) = wdAt p0.data.toList i by conv => lhs; unfold wdAt; rw [if_neg (fun h => hq h.2)])
        clear hq
        go_wp2
        go_roundw
        case rel => exact ⟨i + 1, (by first | rfl | simp), by omega, hlt, by rw [HD.out]; exact HI.out⟩
        case measure => simp only [intOf]; omega
    have hlt' : ¬ (i : Int) < 14 := by omega
    obtain rfl : i = 14 := by omega
    clear hi1 hi14 hlt
    obtain ⟨d, hd⟩ : ∃ d, d = wdAt p0.data.toList 14 := ⟨_, rfl⟩
    rw [← hd] at HI HT
    have hd14 : d ≤ 13 := by rw [hd]; exact wdAt_lt _ 13
    have HD := Lib.hid (And.intro hd hd14)
    have HW := Lib.hid (fun y => word_any d (by omega) y)
    rw [HT.out] at HW
    unfold TwoS at HW
    clear hd hd14
    obtain ⟨f0, f1, f2, f3, f6, f7, f8, f9, f10⟩ := StpAt.cells HI.out.s
    go_upto_region 10 with (go_at_call 34; refine (HW.out _).mono ?_; rintro e w2 ⟨rfl, hb2⟩; replace HI := Lib.hid (HI.out.below hb2); clear hb2)
    clear f0 f1 f2 f3 f6 f7 f8 f9 f10 HW
    have hdn : d ≠ 12 := fun e => by
      have h := HT.out
      rw [e] at h
      revert h
      decide
    have hd12 : ((d : Int) == 12) = false := by rw [beq_eq_false_iff_ne]; omega
    by_cases hm1 : 1 ≤ m
    · have hg1 : (m : Int) + 1 > 1 := by omega
      by_cases hm2 : 2 ≤ m
      · have hg2 : (m : Int) + 1 > 2 := by omega
        obtain ⟨p1, hp1, ht1, hz1⟩ := HGT.out 1 (by omega)
        have HP1 := Lib.hid (And.intro hp1 ht1)
        have HC1 := Lib.hid (fun y => small31_any p1 (by have := HXS.out; omega) y)
        clear hp1 ht1 hz1
        go_upto_region 11 with fail
        have hpc := HI.out.piece HP1.out.1
        obtain ⟨q0, q1, q2, q3, q6, q7, q8, q9, q10⟩ := StpAt.cells HI.out.s
        have hth := thaw_row 1 HI.out.s
        go_upto_region 12 with (go_at_call 40; refine (HC1.out _).mono ?_; rintro e v1 ⟨⟨bb, rfl⟩, rfl⟩)
        have HI2 := HI.out.set { (stp0 d 0) with a := smV p1.data.toList } 1 (.int .u8 (smV p1.data.toList : Int)) rfl
        replace HI := Lib.hid HI2
        clear HI2 hth hpc HC1
        clear q0 q1 q2 q3 q6 q7 q8 q9 q10
        generalize World.setCell _ ⟨g5, 1, none⟩ (.int .u8 (smV p1.data.toList : Int)) = wn1 at *
        have hwm : wrap64 (m : Int) = (m : Int) := wrap64_id (by have := HML.out; omega)
        obtain ⟨p9, hp9, ht9, hz9⟩ := HGT.out m (by omega)
        have HP9 := Lib.hid (And.intro hp9 ht9)
        have HC9 := Lib.hid (fun y => number31_any p9 (by have := HXS.out; omega) y)
        clear hp9 ht9 hz9
        go_upto_region 15 with fail
        have hpc := HI.out.piece HP9.out.1
        obtain ⟨q0, q1, q2, q3, q6, q7, q8, q9, q10⟩ := StpAt.cells HI.out.s
        have hth := thaw_row 3 HI.out.s
        go_upto_region 16 with (go_at_call 41; refine (HC9.out _).mono ?_; rintro e v1 ⟨⟨bb, rfl⟩, rfl⟩)
        have HI2 := HI.out.set { ({ (stp0 d 0) with a := smV p1.data.toList } : StpV) with k := numV p9.data.toList } 3 (.int .i64 (numV p9.data.toList)) rfl
        replace HI := Lib.hid HI2
        clear HI2 hth hpc HC9
        clear q0 q1 q2 q3 q6 q7 q8 q9 q10
        generalize World.setCell _ ⟨g5, 3, none⟩ (.int .i64 (numV p9.data.toList)) = wn9 at *
        have f0 : World.cell? _ ⟨g5, 0, none⟩ = some (.int .u8 (d : Int)) := (StpAt.cells HI.out.s).1
        go_upto_region 35 with fail
        clear f0
        obtain ⟨SF, hSF⟩ : ∃ SF : StpV, SF = { ({ (stp0 d 0) with a := smV p1.data.toList } : StpV) with k := numV p9.data.toList } := ⟨_, rfl⟩
        rw [← hSF] at HI
        have HSF := Lib.hid (show SF = stepW (splL 32 x.data.toList) by
          rw [hSF]
          unfold stepW
          rw [HW0.out, ← HD.out.1, HT.out]
          have eA : stA [65, 75] (splL 32 x.data.toList) (stp0 d 0) = { (stp0 d 0) with a := smV p1.data.toList } := by
            unfold stA
            rw [if_pos (by rw [HPB.out.2.1]; exact ⟨by omega, by decide⟩)]
            rw [← HP1.out.2]
          rw [eA]
          have eB : stB [65, 75] (splL 32 x.data.toList) { (stp0 d 0) with a := smV p1.data.toList } = { (stp0 d 0) with a := smV p1.data.toList } := by
            unfold stB
            rw [if_neg (by rintro ⟨_, q⟩; revert q; decide)]
          rw [eB]
          have eK : stK [65, 75] (splL 32 x.data.toList) { (stp0 d 0) with a := smV p1.data.toList } = { { (stp0 d 0) with a := smV p1.data.toList } with k := numV p9.data.toList } := by
            unfold stK
            rw [if_pos (by decide)]
            rw [HPB.out.2.1, Nat.add_sub_cancel, ← HP9.out.2]
          rw [eK]
          unfold stC
          rw [if_neg (fun q => hdn q.1)])
        clear hSF
        have hof := step_ok (splL 32 x.data.toList) (fun p hp => by
          have h1 := HPB.out.1
          rw [← h1] at hp
          obtain ⟨q, hq, rfl⟩ := List.mem_map.1 hp
          have h2 := HSZ.out q hq
          have h3 := HXS.out
          have h4 : q.data.toList.length = q.size := Array.length_toList
          omega)
        rw [← HSF.out] at hof
        have HOK := Lib.hid hof
        clear hof
        have HSAY := Lib.hid (fun y => say31_any SF HOK.out.1 HOK.out.2 y)
        have HR := Lib.hid (range_row HI.out.s)
        go_upto_region 36 with (first
          | (with_reducible refine wpList_load_mid rfl 39 _ rfl g5 0 rfl (stpC SF) _ HR.out Tryd.underlying39 rfl (stpC_size SF) ?_)
          | (go_at_call 20; refine (HSAY.out _).mono ?_; rintro e w9 ⟨hb9, X, rfl, hX, hXz⟩; replace HI := Lib.hid (HI.out.below hb9); have HXX := Lib.hid hX; clear hb9 hX hXz))
        clear HR HSAY
        have HR := Lib.hid (range_row HI.out.s)
        cases hR : sayL SF with
        | none =>
          have HN := Lib.hid (fin_no HSF.out (by rw [hR]; exact fun e => by cases e))
          clear hR
          simp only [Option.isSome_none]
          go_wp2_with (first
            | (with_reducible refine wpList_load_mid rfl 39 _ rfl g5 0 rfl (stpC SF) _ HR.out Tryd.underlying39 rfl (stpC_size SF) ?_)
            | ((with_reducible refine wpList_store_mid rfl 39 _ _ rfl w.heap.size 0 _ rfl rfl ?_ ?_ ?_ ?_); exact there_row (cs := stpC (stp0 0 0)) HI.out.z; exact stpC_size SF; exact all_oneCell_toArray (stpC_one SF)))
          change bodyPost _ _ _ _ _ (w9.setCells w.heap.size 0 (stpC SF))
          have hza : StpAt (w9.setCells w.heap.size 0 (stpC SF)) w.heap.size SF := by rw [st_eq]; exact rowSt_row (stpC SF) [] (stpC (stp0 0 0)) w9 HI.out.z rfl
          have hzb : Below w.heap.size w (w9.setCells w.heap.size 0 (stpC SF)) := by rw [st_eq]; exact rowSt_below (g := w.heap.size) (n := w.heap.size) (Nat.le_refl _) (stpC SF) 0 _ HI.out.bel
          have HZ9 := Lib.hid (And.intro hza hzb)
          clear hza hzb
          generalize w9.setCells w.heap.size 0 (stpC SF) = wz at *
          refine bodyPost_ret (v := .tuple #[stpV SF, .bool false]) (by simp [results, Tryd.results23, show (asAddr (Value.pointer (some ⟨w.heap.size, 0, none⟩))).run Tryd.prog wz = .ok ⟨w.heap.size, 0, none⟩ wz from rfl, stp_loadVar HZ9.out.1]) rfl ?_
          exact .bad HZ9.out.2 HN.out _
        | some l =>
          obtain rfl := HXX.out l hR
          have hxe : (l == x.toList) = decide (l = x.data.toList) := by rw [Bool.eq_iff_iff, beq_iff_eq, decide_eq_true_iff, ByteArray.toList_eq]
          simp only [Option.isSome_some]
          by_cases hl : l = x.data.toList
          · have HY := Lib.hid (fin_yes HOK.out.1 (by rw [hR, hl]))
            rw [decide_eq_true hl] at hxe
            clear hR hl
            go_wp2_with (first
              | (with_reducible refine wpList_load_mid rfl 39 _ rfl g5 0 rfl (stpC SF) _ HR.out Tryd.underlying39 rfl (stpC_size SF) ?_)
              | ((with_reducible refine wpList_store_mid rfl 39 _ _ rfl w.heap.size 0 _ rfl rfl ?_ ?_ ?_ ?_); exact there_row (cs := stpC (stp0 0 0)) HI.out.z; exact stpC_size SF; exact all_oneCell_toArray (stpC_one SF)))
            change bodyPost _ _ _ _ _ (w9.setCells w.heap.size 0 (stpC SF))
            have hza : StpAt (w9.setCells w.heap.size 0 (stpC SF)) w.heap.size SF := by rw [st_eq]; exact rowSt_row (stpC SF) [] (stpC (stp0 0 0)) w9 HI.out.z rfl
            have hzb : Below w.heap.size w (w9.setCells w.heap.size 0 (stpC SF)) := by rw [st_eq]; exact rowSt_below (g := w.heap.size) (n := w.heap.size) (Nat.le_refl _) (stpC SF) 0 _ HI.out.bel
            have HZ9 := Lib.hid (And.intro hza hzb)
            clear hza hzb
            generalize w9.setCells w.heap.size 0 (stpC SF) = wz at *
            refine bodyPost_ret (v := .tuple #[stpV SF, .bool true]) (by simp [results, Tryd.results23, show (asAddr (Value.pointer (some ⟨w.heap.size, 0, none⟩))).run Tryd.prog wz = .ok ⟨w.heap.size, 0, none⟩ wz from rfl, stp_loadVar HZ9.out.1]) rfl ?_
            exact .good HZ9.out.2 HY.out
          · have HN := Lib.hid (fin_no HSF.out (by rw [hR]; intro e; exact hl (Option.some.inj e)))
            rw [decide_eq_false hl] at hxe
            clear hR hl
            go_wp2_with (first
              | (with_reducible refine wpList_load_mid rfl 39 _ rfl g5 0 rfl (stpC SF) _ HR.out Tryd.underlying39 rfl (stpC_size SF) ?_)
              | ((with_reducible refine wpList_store_mid rfl 39 _ _ rfl w.heap.size 0 _ rfl rfl ?_ ?_ ?_ ?_); exact there_row (cs := stpC (stp0 0 0)) HI.out.z; exact stpC_size SF; exact all_oneCell_toArray (stpC_one SF)))
            change bodyPost _ _ _ _ _ (w9.setCells w.heap.size 0 (stpC SF))
            have hza : StpAt (w9.setCells w.heap.size 0 (stpC SF)) w.heap.size SF := by rw [st_eq]; exact rowSt_row (stpC SF) [] (stpC (stp0 0 0)) w9 HI.out.z rfl
            have hzb : Below w.heap.size w (w9.setCells w.heap.size 0 (stpC SF)) := by rw [st_eq]; exact rowSt_below (g := w.heap.size) (n := w.heap.size) (Nat.le_refl _) (stpC SF) 0 _ HI.out.bel
            have HZ9 := Lib.hid (And.intro hza hzb)
            clear hza hzb
            generalize w9.setCells w.heap.size 0 (stpC SF) = wz at *
            refine bodyPost_ret (v := .tuple #[stpV SF, .bool false]) (by simp [results, Tryd.results23, show (asAddr (Value.pointer (some ⟨w.heap.size, 0, none⟩))).run Tryd.prog wz = .ok ⟨w.heap.size, 0, none⟩ wz from rfl, stp_loadVar HZ9.out.1]) rfl ?_
            exact .bad HZ9.out.2 HN.out _
      · have hg2 : ¬ ((m : Int) + 1 > 2) := by omega
        obtain ⟨p1, hp1, ht1, hz1⟩ := HGT.out 1 (by omega)
        have HP1 := Lib.hid (And.intro hp1 ht1)
        have HC1 := Lib.hid (fun y => small31_any p1 (by have := HXS.out; omega) y)
        clear hp1 ht1 hz1
        go_upto_region 11 with fail
        have hpc := HI.out.piece HP1.out.1
        obtain ⟨q0, q1, q2, q3, q6, q7, q8, q9, q10⟩ := StpAt.cells HI.out.s
        have hth := thaw_row 1 HI.out.s
        go_upto_region 12 with (go_at_call 40; refine (HC1.out _).mono ?_; rintro e v1 ⟨⟨bb, rfl⟩, rfl⟩)
        have HI2 := HI.out.set { (stp0 d 0) with a := smV p1.data.toList } 1 (.int .u8 (smV p1.data.toList : Int)) rfl
        replace HI := Lib.hid HI2
        clear HI2 hth hpc HC1
        clear q0 q1 q2 q3 q6 q7 q8 q9 q10
        generalize World.setCell _ ⟨g5, 1, none⟩ (.int .u8 (smV p1.data.toList : Int)) = wn1 at *
        have hwm : wrap64 (m : Int) = (m : Int) := wrap64_id (by have := HML.out; omega)
        obtain ⟨p9, hp9, ht9, hz9⟩ := HGT.out m (by omega)
        have HP9 := Lib.hid (And.intro hp9 ht9)
        have HC9 := Lib.hid (fun y => number31_any p9 (by have := HXS.out; omega) y)
        clear hp9 ht9 hz9
        go_upto_region 15 with fail
        have hpc := HI.out.piece HP9.out.1
        obtain ⟨q0, q1, q2, q3, q6, q7, q8, q9, q10⟩ := StpAt.cells HI.out.s
        have hth := thaw_row 3 HI.out.s
        go_upto_region 16 with (go_at_call 41; refine (HC9.out _).mono ?_; rintro e v1 ⟨⟨bb, rfl⟩, rfl⟩)
        have HI2 := HI.out.set { ({ (stp0 d 0) with a := smV p1.data.toList } : StpV) with k := numV p9.data.toList } 3 (.int .i64 (numV p9.data.toList)) rfl
        replace HI := Lib.hid HI2
        clear HI2 hth hpc HC9
        clear q0 q1 q2 q3 q6 q7 q8 q9 q10
        generalize World.setCell _ ⟨g5, 3, none⟩ (.int .i64 (numV p9.data.toList)) = wn9 at *
        have f0 : World.cell? _ ⟨g5, 0, none⟩ = some (.int .u8 (d : Int)) := (StpAt.cells HI.out.s).1
        go_upto_region 35 with fail
        clear f0
        obtain ⟨SF, hSF⟩ : ∃ SF : StpV, SF = { ({ (stp0 d 0) with a := smV p1.data.toList } : StpV) with k := numV p9.data.toList } := ⟨_, rfl⟩
        rw [← hSF] at HI
        have HSF := Lib.hid (show SF = stepW (splL 32 x.data.toList) by
          rw [hSF]
          unfold stepW
          rw [HW0.out, ← HD.out.1, HT.out]
          have eA : stA [65, 75] (splL 32 x.data.toList) (stp0 d 0) = { (stp0 d 0) with a := smV p1.data.toList } := by
            unfold stA
            rw [if_pos (by rw [HPB.out.2.1]; exact ⟨by omega, by decide⟩)]
            rw [← HP1.out.2]
          rw [eA]
          have eB : stB [65, 75] (splL 32 x.data.toList) { (stp0 d 0) with a := smV p1.data.toList } = { (stp0 d 0) with a := smV p1.data.toList } := by
            unfold stB
            rw [if_neg (by rintro ⟨_, q⟩; revert q; decide)]
          rw [eB]
          have eK : stK [65, 75] (splL 32 x.data.toList) { (stp0 d 0) with a := smV p1.data.toList } = { { (stp0 d 0) with a := smV p1.data.toList } with k := numV p9.data.toList } := by
            unfold stK
            rw [if_pos (by decide)]
            rw [HPB.out.2.1, Nat.add_sub_cancel, ← HP9.out.2]
          rw [eK]
          unfold stC
          rw [if_neg (fun q => hdn q.1)])
        clear hSF
        have hof := step_ok (splL 32 x.data.toList) (fun p hp => by
          have h1 := HPB.out.1
          rw [← h1] at hp
          obtain ⟨q, hq, rfl⟩ := List.mem_map.1 hp
          have h2 := HSZ.out q hq
          have h3 := HXS.out
          have h4 : q.data.toList.length = q.size := Array.length_toList
          omega)
        rw [← HSF.out] at hof
        have HOK := Lib.hid hof
        clear hof
        have HSAY := Lib.hid (fun y => say31_any SF HOK.out.1 HOK.out.2 y)
        have HR := Lib.hid (range_row HI.out.s)
        go_upto_region 36 with (first
          | (with_reducible refine wpList_load_mid rfl 39 _ rfl g5 0 rfl (stpC SF) _ HR.out Tryd.underlying39 rfl (stpC_size SF) ?_)
          | (go_at_call 20; refine (HSAY.out _).mono ?_; rintro e w9 ⟨hb9, X, rfl, hX, hXz⟩; replace HI := Lib.hid (HI.out.below hb9); have HXX := Lib.hid hX; clear hb9 hX hXz))
        clear HR HSAY
        have HR := Lib.hid (range_row HI.out.s)
        cases hR : sayL SF with
        | none =>
          have HN := Lib.hid (fin_no HSF.out (by rw [hR]; exact fun e => by cases e))
          clear hR
          simp only [Option.isSome_none]
          go_wp2_with (first
            | (with_reducible refine wpList_load_mid rfl 39 _ rfl g5 0 rfl (stpC SF) _ HR.out Tryd.underlying39 rfl (stpC_size SF) ?_)
            | ((with_reducible refine wpList_store_mid rfl 39 _ _ rfl w.heap.size 0 _ rfl rfl ?_ ?_ ?_ ?_); exact there_row (cs := stpC (stp0 0 0)) HI.out.z; exact stpC_size SF; exact all_oneCell_toArray (stpC_one SF)))
          change bodyPost _ _ _ _ _ (w9.setCells w.heap.size 0 (stpC SF))
          have hza : StpAt (w9.setCells w.heap.size 0 (stpC SF)) w.heap.size SF := by rw [st_eq]; exact rowSt_row (stpC SF) [] (stpC (stp0 0 0)) w9 HI.out.z rfl
          have hzb : Below w.heap.size w (w9.setCells w.heap.size 0 (stpC SF)) := by rw [st_eq]; exact rowSt_below (g := w.heap.size) (n := w.heap.size) (Nat.le_refl _) (stpC SF) 0 _ HI.out.bel
          have HZ9 := Lib.hid (And.intro hza hzb)
          clear hza hzb
          generalize w9.setCells w.heap.size 0 (stpC SF) = wz at *
          refine bodyPost_ret (v := .tuple #[stpV SF, .bool false]) (by simp [results, Tryd.results23, show (asAddr (Value.pointer (some ⟨w.heap.size, 0, none⟩))).run Tryd.prog wz = .ok ⟨w.heap.size, 0, none⟩ wz from rfl, stp_loadVar HZ9.out.1]) rfl ?_
          exact .bad HZ9.out.2 HN.out _
        | some l =>
          obtain rfl := HXX.out l hR
          have hxe : (l == x.toList) = decide (l = x.data.toList) := by rw [Bool.eq_iff_iff, beq_iff_eq, decide_eq_true_iff, ByteArray.toList_eq]
          simp only [Option.isSome_some]
          by_cases hl : l = x.data.toList
          · have HY := Lib.hid (fin_yes HOK.out.1 (by rw [hR, hl]))
            rw [decide_eq_true hl] at hxe
            clear hR hl
            go_wp2_with (first
              | (with_reducible refine wpList_load_mid rfl 39 _ rfl g5 0 rfl (stpC SF) _ HR.out Tryd.underlying39 rfl (stpC_size SF) ?_)
              | ((with_reducible refine wpList_store_mid rfl 39 _ _ rfl w.heap.size 0 _ rfl rfl ?_ ?_ ?_ ?_); exact there_row (cs := stpC (stp0 0 0)) HI.out.z; exact stpC_size SF; exact all_oneCell_toArray (stpC_one SF)))
            change bodyPost _ _ _ _ _ (w9.setCells w.heap.size 0 (stpC SF))
            have hza : StpAt (w9.setCells w.heap.size 0 (stpC SF)) w.heap.size SF := by rw [st_eq]; exact rowSt_row (stpC SF) [] (stpC (stp0 0 0)) w9 HI.out.z rfl
            have hzb : Below w.heap.size w (w9.setCells w.heap.size 0 (stpC SF)) := by rw [st_eq]; exact rowSt_below (g := w.heap.size) (n := w.heap.size) (Nat.le_refl _) (stpC SF) 0 _ HI.out.bel
            have HZ9 := Lib.hid (And.intro hza hzb)
            clear hza hzb
            generalize w9.setCells w.heap.size 0 (stpC SF) = wz at *
            refine bodyPost_ret (v := .tuple #[stpV SF, .bool true]) (by simp [results, Tryd.results23, show (asAddr (Value.pointer (some ⟨w.heap.size, 0, none⟩))).run Tryd.prog wz = .ok ⟨w.heap.size, 0, none⟩ wz from rfl, stp_loadVar HZ9.out.1]) rfl ?_
            exact .good HZ9.out.2 HY.out
          · have HN := Lib.hid (fin_no HSF.out (by rw [hR]; intro e; exact hl (Option.some.inj e)))
            rw [decide_eq_false hl] at hxe
            clear hR hl
            go_wp2_with (first
              | (with_reducible refine wpList_load_mid rfl 39 _ rfl g5 0 rfl (stpC SF) _ HR.out Tryd.underlying39 rfl (stpC_size SF) ?_)
              | ((with_reducible refine wpList_store_mid rfl 39 _ _ rfl w.heap.size 0 _ rfl rfl ?_ ?_ ?_ ?_); exact there_row (cs := stpC (stp0 0 0)) HI.out.z; exact stpC_size SF; exact all_oneCell_toArray (stpC_one SF)))
            change bodyPost _ _ _ _ _ (w9.setCells w.heap.size 0 (stpC SF))
            have hza : StpAt (w9.setCells w.heap.size 0 (stpC SF)) w.heap.size SF := by rw [st_eq]; exact rowSt_row (stpC SF) [] (stpC (stp0 0 0)) w9 HI.out.z rfl
            have hzb : Below w.heap.size w (w9.setCells w.heap.size 0 (stpC SF)) := by rw [st_eq]; exact rowSt_below (g := w.heap.size) (n := w.heap.size) (Nat.le_refl _) (stpC SF) 0 _ HI.out.bel
            have HZ9 := Lib.hid (And.intro hza hzb)
            clear hza hzb
            generalize w9.setCells w.heap.size 0 (stpC SF) = wz at *
            refine bodyPost_ret (v := .tuple #[stpV SF, .bool false]) (by simp [results, Tryd.results23, show (asAddr (Value.pointer (some ⟨w.heap.size, 0, none⟩))).run Tryd.prog wz = .ok ⟨w.heap.size, 0, none⟩ wz from rfl, stp_loadVar HZ9.out.1]) rfl ?_
            exact .bad HZ9.out.2 HN.out _
    · have hg1 : ¬ ((m : Int) + 1 > 1) := by omega
      have hg2 : ¬ ((m : Int) + 1 > 2) := by omega
      have hwm : wrap64 (m : Int) = (m : Int) := wrap64_id (by have := HML.out; omega)
      obtain ⟨p9, hp9, ht9, hz9⟩ := HGT.out m (by omega)
      have HP9 := Lib.hid (And.intro hp9 ht9)
      have HC9 := Lib.hid (fun y => number31_any p9 (by have := HXS.out; omega) y)
      clear hp9 ht9 hz9
      go_upto_region 15 with fail
      have hpc := HI.out.piece HP9.out.1
      obtain ⟨q0, q1, q2, q3, q6, q7, q8, q9, q10⟩ := StpAt.cells HI.out.s
      have hth := thaw_row 3 HI.out.s
      go_upto_region 16 with (go_at_call 41; refine (HC9.out _).mono ?_; rintro e v1 ⟨⟨bb, rfl⟩, rfl⟩)
      have HI2 := HI.out.set { (stp0 d 0) with k := numV p9.data.toList } 3 (.int .i64 (numV p9.data.toList)) rfl
      replace HI := Lib.hid HI2
      clear HI2 hth hpc HC9
      clear q0 q1 q2 q3 q6 q7 q8 q9 q10
      generalize World.setCell _ ⟨g5, 3, none⟩ (.int .i64 (numV p9.data.toList)) = wn9 at *
      have f0 : World.cell? _ ⟨g5, 0, none⟩ = some (.int .u8 (d : Int)) := (StpAt.cells HI.out.s).1
      go_upto_region 35 with fail
      clear f0
      obtain ⟨SF, hSF⟩ : ∃ SF : StpV, SF = { (stp0 d 0) with k := numV p9.data.toList } := ⟨_, rfl⟩
      rw [← hSF] at HI
      have HSF := Lib.hid (show SF = stepW (splL 32 x.data.toList) by
        rw [hSF]
        unfold stepW
        rw [HW0.out, ← HD.out.1, HT.out]
        have eA : stA [65, 75] (splL 32 x.data.toList) (stp0 d 0) = (stp0 d 0) := by
          unfold stA
          rw [if_neg (by rw [HPB.out.2.1]; omega)]
        rw [eA]
        have eB : stB [65, 75] (splL 32 x.data.toList) (stp0 d 0) = (stp0 d 0) := by
          unfold stB
          rw [if_neg (by rintro ⟨_, q⟩; revert q; decide)]
        rw [eB]
        have eK : stK [65, 75] (splL 32 x.data.toList) (stp0 d 0) = { (stp0 d 0) with k := numV p9.data.toList } := by
          unfold stK
          rw [if_pos (by decide)]
          rw [HPB.out.2.1, Nat.add_sub_cancel, ← HP9.out.2]
        rw [eK]
        unfold stC
        rw [if_neg (fun q => hdn q.1)])
      clear hSF
      have hof := step_ok (splL 32 x.data.toList) (fun p hp => by
        have h1 := HPB.out.1
        rw [← h1] at hp
        obtain ⟨q, hq, rfl⟩ := List.mem_map.1 hp
        have h2 := HSZ.out q hq
        have h3 := HXS.out
        have h4 : q.data.toList.length = q.size := Array.length_toList
        omega)
      rw [← HSF.out] at hof
      have HOK := Lib.hid hof
      clear hof
      have HSAY := Lib.hid (fun y => say31_any SF HOK.out.1 HOK.out.2 y)
      have HR := Lib.hid (range_row HI.out.s)
      go_upto_region 36 with (first
        | (with_reducible refine wpList_load_mid rfl 39 _ rfl g5 0 rfl (stpC SF) _ HR.out Tryd.underlying39 rfl (stpC_size SF) ?_)
        | (go_at_call 20; refine (HSAY.out _).mono ?_; rintro e w9 ⟨hb9, X, rfl, hX, hXz⟩; replace HI := Lib.hid (HI.out.below hb9); have HXX := Lib.hid hX; clear hb9 hX hXz))
      clear HR HSAY
      have HR := Lib.hid (range_row HI.out.s)
      cases hR : sayL SF with
      | none =>
        have HN := Lib.hid (fin_no HSF.out (by rw [hR]; exact fun e => by cases e))
        clear hR
        simp only [Option.isSome_none]
        go_wp2_with (first
          | (with_reducible refine wpList_load_mid rfl 39 _ rfl g5 0 rfl (stpC SF) _ HR.out Tryd.underlying39 rfl (stpC_size SF) ?_)
          | ((with_reducible refine wpList_store_mid rfl 39 _ _ rfl w.heap.size 0 _ rfl rfl ?_ ?_ ?_ ?_); exact there_row (cs := stpC (stp0 0 0)) HI.out.z; exact stpC_size SF; exact all_oneCell_toArray (stpC_one SF)))
        change bodyPost _ _ _ _ _ (w9.setCells w.heap.size 0 (stpC SF))
        have hza : StpAt (w9.setCells w.heap.size 0 (stpC SF)) w.heap.size SF := by rw [st_eq]; exact rowSt_row (stpC SF) [] (stpC (stp0 0 0)) w9 HI.out.z rfl
        have hzb : Below w.heap.size w (w9.setCells w.heap.size 0 (stpC SF)) := by rw [st_eq]; exact rowSt_below (g := w.heap.size) (n := w.heap.size) (Nat.le_refl _) (stpC SF) 0 _ HI.out.bel
        have HZ9 := Lib.hid (And.intro hza hzb)
        clear hza hzb
        generalize w9.setCells w.heap.size 0 (stpC SF) = wz at *
        refine bodyPost_ret (v := .tuple #[stpV SF, .bool false]) (by simp [results, Tryd.results23, show (asAddr (Value.pointer (some ⟨w.heap.size, 0, none⟩))).run Tryd.prog wz = .ok ⟨w.heap.size, 0, none⟩ wz from rfl, stp_loadVar HZ9.out.1]) rfl ?_
        exact .bad HZ9.out.2 HN.out _
      | some l =>
        obtain rfl := HXX.out l hR
        have hxe : (l == x.toList) = decide (l = x.data.toList) := by rw [Bool.eq_iff_iff, beq_iff_eq, decide_eq_true_iff, ByteArray.toList_eq]
        simp only [Option.isSome_some]
        by_cases hl : l = x.data.toList
        · have HY := Lib.hid (fin_yes HOK.out.1 (by rw [hR, hl]))
          rw [decide_eq_true hl] at hxe
          clear hR hl
          go_wp2_with (first
            | (with_reducible refine wpList_load_mid rfl 39 _ rfl g5 0 rfl (stpC SF) _ HR.out Tryd.underlying39 rfl (stpC_size SF) ?_)
            | ((with_reducible refine wpList_store_mid rfl 39 _ _ rfl w.heap.size 0 _ rfl rfl ?_ ?_ ?_ ?_); exact there_row (cs := stpC (stp0 0 0)) HI.out.z; exact stpC_size SF; exact all_oneCell_toArray (stpC_one SF)))
          change bodyPost _ _ _ _ _ (w9.setCells w.heap.size 0 (stpC SF))
          have hza : StpAt (w9.setCells w.heap.size 0 (stpC SF)) w.heap.size SF := by rw [st_eq]; exact rowSt_row (stpC SF) [] (stpC (stp0 0 0)) w9 HI.out.z rfl
          have hzb : Below w.heap.size w (w9.setCells w.heap.size 0 (stpC SF)) := by rw [st_eq]; exact rowSt_below (g := w.heap.size) (n := w.heap.size) (Nat.le_refl _) (stpC SF) 0 _ HI.out.bel
          have HZ9 := Lib.hid (And.intro hza hzb)
          clear hza hzb
          generalize w9.setCells w.heap.size 0 (stpC SF) = wz at *
          refine bodyPost_ret (v := .tuple #[stpV SF, .bool true]) (by simp [results, Tryd.results23, show (asAddr (Value.pointer (some ⟨w.heap.size, 0, none⟩))).run Tryd.prog wz = .ok ⟨w.heap.size, 0, none⟩ wz from rfl, stp_loadVar HZ9.out.1]) rfl ?_
          exact .good HZ9.out.2 HY.out
        · have HN := Lib.hid (fin_no HSF.out (by rw [hR]; intro e; exact hl (Option.some.inj e)))
          rw [decide_eq_false hl] at hxe
          clear hR hl
          go_wp2_with (first
            | (with_reducible refine wpList_load_mid rfl 39 _ rfl g5 0 rfl (stpC SF) _ HR.out Tryd.underlying39 rfl (stpC_size SF) ?_)
            | ((with_reducible refine wpList_store_mid rfl 39 _ _ rfl w.heap.size 0 _ rfl rfl ?_ ?_ ?_ ?_); exact there_row (cs := stpC (stp0 0 0)) HI.out.z; exact stpC_size SF; exact all_oneCell_toArray (stpC_one SF)))
          change bodyPost _ _ _ _ _ (w9.setCells w.heap.size 0 (stpC SF))
          have hza : StpAt (w9.setCells w.heap.size 0 (stpC SF)) w.heap.size SF := by rw [st_eq]; exact rowSt_row (stpC SF) [] (stpC (stp0 0 0)) w9 HI.out.z rfl
          have hzb : Below w.heap.size w (w9.setCells w.heap.size 0 (stpC SF)) := by rw [st_eq]; exact rowSt_below (g := w.heap.size) (n := w.heap.size) (Nat.le_refl _) (stpC SF) 0 _ HI.out.bel
          have HZ9 := Lib.hid (And.intro hza hzb)
          clear hza hzb
          generalize w9.setCells w.heap.size 0 (stpC SF) = wz at *
          refine bodyPost_ret (v := .tuple #[stpV SF, .bool false]) (by simp [results, Tryd.results23, show (asAddr (Value.pointer (some ⟨w.heap.size, 0, none⟩))).run Tryd.prog wz = .ok ⟨w.heap.size, 0, none⟩ wz from rfl, stp_loadVar HZ9.out.1]) rfl ?_
          exact .bad HZ9.out.2 HN.out _
set_option maxRecDepth 100000 in
set_option maxHeartbeats 16000000 in
theorem step_ac (x : ByteArray) (hxs : x.size ≤ 30000) (hT : wdT (wdAt ((splL 32 x.data.toList).headD []) 14) = [65, 67]) (w : World) : Calls Tryd.prog 23 #[.string x] w (ReadR (rdL x.data.toList) w) := by
  obtain ⟨q0, rs, hq⟩ := pcs_cons 32 x
  have hpb := pcs_back 32 x
  have HSP := Lib.hid (fun y => split31_any 32 x (by omega) y)
  have HSZ := Lib.hid (fun (p : ByteArray) (hq : p ∈ pcsB 32 x) => pcs_size hq)
  obtain ⟨ps, hps⟩ : ∃ ps, ps = pcsB 32 x := ⟨_, rfl⟩
  rw [← hps] at hpb HSP HSZ hq
  have hpb1 := congrArg List.length hpb
  rw [List.length_map] at hpb1
  obtain ⟨m, hm⟩ : ∃ m, m + 1 = ps.length := ⟨rs.length, by rw [hq]; rfl⟩
  rw [← hm] at hpb1
  unfold SplR at HSP
  rw [← hm] at HSP
  have HPB := Lib.hid (And.intro hpb (And.intro hpb1.symm hm.symm))
  obtain ⟨p0, hp0⟩ : ∃ p0, ps[0]? = some p0 := ⟨q0, by rw [hq]; rfl⟩
  have HP0 := Lib.hid hp0
  have hw0 : (splL 32 x.data.toList).headD [] = p0.data.toList := by rw [← hpb, hq] ; rw [hq] at hp0; cases hp0; rfl
  rw [hw0] at hT
  have HW0 := Lib.hid hw0
  have HT := Lib.hid hT
  have HGT := Lib.hid (show ∀ j, j < m + 1 → ∃ p, ps[j]? = some p ∧ p.data.toList = (splL 32 x.data.toList).getD j [] ∧ p.size ≤ x.size from fun j hj => by
    have h1 : ps[j]? = some (ps[j]'(by omega)) := List.getElem?_eq_getElem (by omega)
    refine ⟨_, h1, ?_, HSZ.out _ (List.getElem_mem _)⟩
    rw [← hpb, List.getD, List.getElem?_map, h1]
    rfl)
  have hml : m ≤ 30001 := by
    have h1 := pcs_many 32 x
    rw [← hps, ← hm] at h1
    omega
  have HML := Lib.hid hml
  have hb0 := (Below.refl w.heap.size w).alloc (Nat.le_refl _) (.cells (stpC (stp0 0 0)).toArray 39)
  have hG0 : StpAt (w.alloc (.cells (stpC (stp0 0 0)).toArray 39)) w.heap.size (stp0 0 0) := heap_alloc_new _ _
  have H0 := Lib.hid (And.intro hb0 hG0)
  have HXS := Lib.hid hxs
  clear hpb hpb1 hps hq hm hp0 hw0 hT hml hb0 hG0 hxs
  go_enter Tryd.func23, Tryd.ntmps23
  go_upto_region 1 with fail
  change Code.wp _ _ _ _ (w.alloc (.cells (stpC (stp0 0 0)).toArray 39))
  generalize w.alloc (.cells (stpC (stp0 0 0)).toArray 39) = wa at *
  go_upto_region 2 with (go_at_call 22; refine (HSP.out wa).mono ?_; rintro e wb ⟨g, cap, rfl, hps, hb1⟩; have H1 := Lib.hid (And.intro (H0.out.1.trans (hb1.mono H0.out.1.size)) (And.intro (H0.out.2.below hb1) hps)); clear hb1 hps)
  clear H0 HSP
  go_upto_region 4 with fail
  change Code.wp _ _ _ _ (wb.alloc (.cells (stpC (stp0 0 0)).toArray 39))
  have hb2 := (Below.refl wb.heap.size wb).alloc (Nat.le_refl _) (.cells (stpC (stp0 0 0)).toArray 39)
  have HI := Lib.hid (show StI w w.heap.size g wb.heap.size ps (stp0 0 0) (wb.alloc (.cells (stpC (stp0 0 0)).toArray 39)) from ⟨H1.out.2.1.below hb2, H1.out.2.2.below hb2, heap_alloc_new _ _, H1.out.1.trans (hb2.mono H1.out.1.size), Nat.le_refl _, H1.out.2.1.lt, H1.out.2.2.lt⟩)
  generalize wb.alloc (.cells (stpC (stp0 0 0)).toArray 39) = wc at *
  generalize wb.heap.size = g5 at *
  clear hb2 H1
  go_loopw [6] (fun s6 wr => ∃ i : Nat, s6 = .int .u8 (i : Int) ∧ 1 ≤ i ∧ i ≤ 14 ∧ StI w w.heap.size g g5 ps (stp0 (wdAt p0.data.toList i) 0) wr) (fun s6 _ => 14 - (intOf s6).toNat)
  case atStart => exact ⟨1, rfl, Nat.le_refl _, by decide, HI.out⟩
  case round =>
    clear HI
    obtain ⟨i, rfl, hi1, hi14, hI⟩ := hrel
    have HI := Lib.hid hI
    clear hI
    by_cases hlt : i < 14
    · have hlt' : (i : Int) < 14 := by omega
      have HW := Lib.hid (fun y => word_any i (by omega) y)
      have hw8 : IntKind.u8.wrap ((i : Int) + 1) = (i : Int) + 1 := by rw [IntKind.wrap_u8']; omega
      have hpc := HI.out.piece HP0.out
      obtain ⟨nm, hnm⟩ : ∃ nm : ByteArray, nm = ⟨(wdN i).toArray⟩ := ⟨_, rfl⟩
      unfold TwoS at HW
      rw [← hnm] at HW
      have HNM := Lib.hid (show nm.data.toList = wdN i by rw [hnm])
      clear hnm
      go_upto_region 7 with (go_at_call 34; refine (HW.out wr).mono ?_; rintro e w2 ⟨rfl, hb2⟩; replace HI := Lib.hid (HI.out.below hb2); clear hb2)
      clear hpc HW
      have hpc := HI.out.piece HP0.out
      by_cases hq : wdN i = p0.data.toList
      · have hqv : (nm.toList == p0.toList) = true := by rw [beq_iff_eq, ByteArray.toList_eq, ByteArray.toList_eq, HNM.out]; exact hq
        have HD := Lib.hid (show wdAt p0.data.toList (i + 1) = i by unfold wdAt; rw [if_pos ⟨hi1, hq⟩])
        clear hq
        obtain ⟨q0, q1, q2, q3, q6, q7, q8, q9, q10⟩ := StpAt.cells HI.out.s
        have hth := thaw_row 0 HI.out.s
        go_upto_region 5 with fail
        have HI2 := HI.out.set (stp0 i 0) 0 (.int .u8 (i : Int)) rfl
        replace HI := Lib.hid HI2
        clear HI2 hth hpc
        clear q0 q1 q2 q3 q6 q7 q8 q9 q10
        generalize w2.setCell ⟨g5, 0, none⟩ (.int .u8 (i : Int)) = w3 at *
        go_wp2
        go_roundw
        case rel => exact ⟨i + 1, (by first | rfl | simp), by omega, hlt, by rw [HD.out]; exact HI.out⟩
        case measure => simp only [intOf]; omega
      · have hqv : (nm.toList == p0.toList) = false := by rw [beq_eq_false_iff_ne, ByteArray.toList_eq, ByteArray.toList_eq, HNM.out]; exact hq
        have HD := Lib.hid (show wdAt p0.data.toList (i + 1) = wdAt p0.data.toList i by conv => lhs; unfold wdAt; rw [if_neg (fun h => hq h.2)])
        clear hq
        go_wp2
        go_roundw
        case rel => exact ⟨i + 1, (by first | rfl | simp), by omega, hlt, by rw [HD.out]; exact HI.out⟩
        case measure => simp only [intOf]; omega
    have hlt' : ¬ (i : Int) < 14 := by omega
    obtain rfl : i = 14 := by omega
    clear hi1 hi14 hlt
    obtain ⟨d, hd⟩ : ∃ d, d = wdAt p0.data.toList 14 := ⟨_, rfl⟩
    rw [← hd] at HI HT
    have hd14 : d ≤ 13 := by rw [hd]; exact wdAt_lt _ 13
    have HD := Lib.hid (And.intro hd hd14)
    have HW := Lib.hid (fun y => word_any d (by omega) y)
    rw [HT.out] at HW
    unfold TwoS at HW
    clear hd hd14
    obtain ⟨f0, f1, f2, f3, f6, f7, f8, f9, f10⟩ := StpAt.cells HI.out.s
    go_upto_region 10 with (go_at_call 34; refine (HW.out _).mono ?_; rintro e w2 ⟨rfl, hb2⟩; replace HI := Lib.hid (HI.out.below hb2); clear hb2)
    clear f0 f1 f2 f3 f6 f7 f8 f9 f10 HW
    have hdv : d = 12 := ac_12 d HD.out.2 HT.out
    have HDV := Lib.hid hdv
    have hd12 : ((d : Int) == 12) = true := by rw [beq_iff_eq]; omega
    clear hdv
    by_cases hm3 : 3 ≤ m
    · have hg1 : (m : Int) + 1 > 1 := by omega
      have hg2 : (m : Int) + 1 > 2 := by omega
      have hwm3 : (m : Int) + 1 > 3 := by omega
      obtain ⟨p1, hp1, ht1, hz1⟩ := HGT.out 1 (by omega)
      have HP1 := Lib.hid (And.intro hp1 ht1)
      have HC1 := Lib.hid (fun y => small31_any p1 (by have := HXS.out; omega) y)
      clear hp1 ht1 hz1
      go_upto_region 11 with fail
      have hpc := HI.out.piece HP1.out.1
      obtain ⟨q0, q1, q2, q3, q6, q7, q8, q9, q10⟩ := StpAt.cells HI.out.s
      have hth := thaw_row 1 HI.out.s
      go_upto_region 12 with (go_at_call 40; refine (HC1.out _).mono ?_; rintro e v1 ⟨⟨bb, rfl⟩, rfl⟩)
      have HI2 := HI.out.set { (stp0 d 0) with a := smV p1.data.toList } 1 (.int .u8 (smV p1.data.toList : Int)) rfl
      replace HI := Lib.hid HI2
      clear HI2 hth hpc HC1
      clear q0 q1 q2 q3 q6 q7 q8 q9 q10
      generalize World.setCell _ ⟨g5, 1, none⟩ (.int .u8 (smV p1.data.toList : Int)) = wn1 at *
      have f0 : World.cell? _ ⟨g5, 0, none⟩ = some (.int .u8 (d : Int)) := (StpAt.cells HI.out.s).1
      go_upto_region 18 with fail
      clear f0
      obtain ⟨SA, hSA⟩ : ∃ SA : StpV, SA = { (stp0 d 0) with a := smV p1.data.toList } := ⟨_, rfl⟩
      rw [← hSA] at HI
      have HSA := Lib.hid (show SA = stA [65, 67] (splL 32 x.data.toList) (stp0 d 0) ∧ SA.kd = 0 by
        rw [hSA]
        refine ⟨?_, rfl⟩
        unfold stA
        rw [if_pos (by rw [HPB.out.2.1]; exact ⟨by omega, by decide⟩), ← HP1.out.2])
      clear hSA
      obtain ⟨p2, hp2, ht2, hz2⟩ := HGT.out 2 (by omega)
      have HP2 := Lib.hid (And.intro hp2 ht2)
      clear hp2 ht2 hz2
      go_loopw [11] (fun s11 wr => ∃ j : Nat, s11 = .int .u8 (j : Int) ∧ 1 ≤ j ∧ j ≤ 6 ∧ StI w w.heap.size g g5 ps { SA with kd := kdAt p2.data.toList j } wr) (fun s11 _ => 6 - (intOf s11).toNat)
      case atStart => exact ⟨1, rfl, Nat.le_refl _, by decide, by
        have e : ({ SA with kd := kdAt p2.data.toList 1 } : StpV) = SA := by
          rw [show kdAt p2.data.toList 1 = 0 by simp [kdAt], ← HSA.out.2]
        rw [e]
        exact HI.out⟩
      case round =>
        clear HI
        obtain ⟨j, rfl, hj1, hj6, hI⟩ := hrel
        have HI := Lib.hid hI
        clear hI
        by_cases hlt : j < 6
        · have hlt' : (j : Int) < 6 := by omega
          have HW := Lib.hid (fun y => kind_any j (by omega) y)
          have hw8 : IntKind.u8.wrap ((j : Int) + 1) = (j : Int) + 1 := by rw [IntKind.wrap_u8']; omega
          have hpc := HI.out.piece HP2.out.1
          obtain ⟨nm, hnm⟩ : ∃ nm : ByteArray, nm = ⟨(kdN j).toArray⟩ := ⟨_, rfl⟩
          unfold TwoS at HW
          rw [← hnm] at HW
          have HNM := Lib.hid (show nm.data.toList = kdN j by rw [hnm])
          clear hnm
          go_upto_region 21 with (go_at_call 36; refine (HW.out wr).mono ?_; rintro e w2 ⟨rfl, hb2⟩; replace HI := Lib.hid (HI.out.below hb2); clear hb2)
          clear hpc HW
          have hpc := HI.out.piece HP2.out.1
          by_cases hq : kdN j = p2.data.toList
          · have hqv : (nm.toList == p2.toList) = true := by rw [beq_iff_eq, ByteArray.toList_eq, ByteArray.toList_eq, HNM.out]; exact hq
            have HK := Lib.hid (show kdAt p2.data.toList (j + 1) = j by unfold kdAt; rw [if_pos ⟨hj1, hq⟩])
            clear hq
            obtain ⟨q0, q1, q2, q3, q6, q7, q8, q9, q10⟩ := StpAt.cells HI.out.s
            have hth := thaw_row 6 HI.out.s
            go_upto_region 19 with fail
            have HI2 := HI.out.set { SA with kd := j } 6 (.int .u8 (j : Int)) rfl
            replace HI := Lib.hid HI2
            clear HI2 hth hpc q0 q1 q2 q3 q6 q7 q8 q9 q10
            generalize World.setCell _ ⟨g5, 6, none⟩ (.int .u8 (j : Int)) = w3 at *
            go_wp2
            go_roundw
            case rel => exact ⟨j + 1, (by first | rfl | simp), by omega, hlt, by rw [HK.out]; exact HI.out⟩
            case measure => simp only [intOf]; omega
          · have hqv : (nm.toList == p2.toList) = false := by rw [beq_eq_false_iff_ne, ByteArray.toList_eq, ByteArray.toList_eq, HNM.out]; exact hq
            have HK := Lib.hid (show kdAt p2.data.toList (j + 1) = kdAt p2.data.toList j by conv => lhs; unfold kdAt; rw [if_neg (fun h => hq h.2)])
            clear hq
            go_wp2
            go_roundw
            case rel => exact ⟨j + 1, (by first | rfl | simp), by omega, hlt, by rw [HK.out]; exact HI.out⟩
            case measure => simp only [intOf]; omega
        have hlt' : ¬ (j : Int) < 6 := by omega
        obtain rfl : j = 6 := by omega
        clear hj1 hj6 hlt
        obtain ⟨k, hk⟩ : ∃ k, k = kdAt p2.data.toList 6 := ⟨_, rfl⟩
        rw [← hk] at HI
        have hk5 : k ≤ 5 := by rw [hk]; exact kdAt_lt _ 5
        have HK := Lib.hid (And.intro hk hk5)
        have HW := Lib.hid (fun y => kind_any k (by omega) y)
        obtain ⟨H, hH⟩ : ∃ H : ByteArray, H = ⟨(kdT k).toArray⟩ := ⟨_, rfl⟩
        unfold TwoS at HW
        rw [← hH] at HW
        have HH := Lib.hid (show H.data.toList = kdT k by rw [hH])
        have hH3 : H.size ≤ 3 := by rw [hH, ba_size]; exact (kd_len k).2
        have HH3 := Lib.hid hH3
        obtain ⟨SK, hSK⟩ : ∃ SK : StpV, SK = { SA with kd := k } := ⟨_, rfl⟩
        rw [← hSK] at HI
        have HSK := Lib.hid hSK
        have f6 := (StpAt.cells HI.out.s).2.2.2.2.1
        rw [show SK.kd = k by rw [hSK]] at f6
        clear hk hk5 hH hH3 hSK
        go_upto_region 25 with (go_at_call 36; refine (HW.out _).mono ?_; rintro e w2 ⟨rfl, hb2⟩; replace HI := Lib.hid (HI.out.below hb2); clear hb2)
        clear f6 HW
        obtain ⟨z, hz⟩ : ∃ z, z = (kdT k).zip ((splL 32 x.data.toList).drop 3) := ⟨_, rfl⟩
        have HZ := Lib.hid hz
        have HZL := Lib.hid (show z.length = min H.size (m + 1 - 3) by
          have h1 : H.data.toList.length = H.size := Array.length_toList
          rw [hz, List.length_zip, List.length_drop, HPB.out.2.1, ← h1, HH.out])
        clear hz
        go_loopw [16] (fun s16 wr => ∃ i : Nat, s16 = .int .i64 (i : Int) ∧ i ≤ z.length ∧ ∃ S, S = kGo (z.take i) SK ∧ StI w w.heap.size g g5 ps S wr) (fun s16 _ => z.length - (intOf s16).toNat)
        case atStart => exact ⟨0, rfl, Nat.zero_le _, SK, rfl, HI.out⟩
        case round =>
          clear HI
          obtain ⟨i, rfl, hiz, S, hS, hI⟩ := hrel
          have HI := Lib.hid hI
          have HSS := Lib.hid hS
          have hzl := HZL.out
          have hm0 := HML.out
          have hh3 := HH3.out
          clear hI hS
          by_cases hlz : i < z.length
          · have hlt : i < H.size := by omega
            have hlt' : (i : Int) < (H.size : Int) := by omega
            have h3i : (3 : Int) + (i : Int) < (m : Int) + 1 := by omega
            have h3w : wrap64 ((3 : Int) + (i : Int)) = (3 : Int) + (i : Int) := wrap64_id (by omega)
            obtain ⟨pi, hpi, hti, hzi⟩ := HGT.out (3 + i) (by omega)
            have hpc := HI.out.piece hpi
            have hget := bs_list hlt
            rw [HH.out] at hget
            have hz1 : z[i]? = some ((H[i]'hlt), pi.data.toList) := by
              rw [HZ.out, List.getElem?_zip_eq_some]
              refine ⟨hget, ?_⟩
              rw [List.getElem?_drop, hti, List.getElem?_eq_getElem (by rw [HPB.out.2.1]; omega)]
              simp [List.getD, List.getElem?_eq_getElem (show 3 + i < (splL 32 x.data.toList).length by rw [HPB.out.2.1]; omega)]
            have HZ1 := Lib.hid (show kGo (z.take (i + 1)) SK = rdC (kGo (z.take i) SK) (H[i]'hlt) pi.data.toList by
              rw [List.take_add_one, hz1]
              unfold kGo
              rw [List.foldl_append]
              rfl)
            have HPI := Lib.hid (And.intro hpi (And.intro hti hzi))
            clear hz1 hti hpi
            rcases kd_mem k (List.mem_of_getElem? hget) with hc | hc | hc | hc
            · have hv0 : ((((H[i]'hlt).toNat : Nat) : Int) == 75) = true := by rw [hc]; rfl
              have HCI := Lib.hid (fun y => unquote31_any pi (by have := HXS.out; omega) y)
              go_wp2_with (go_at_call 42; refine (HCI.out _).mono ?_; rintro e v1 ⟨hb9, bb, rfl⟩; replace HI := Lib.hid (HI.out.below hb9); clear hb9; obtain ⟨q0, q1, q2, q3, q6, q7, q8, q9, q10⟩ := StpAt.cells HI.out.s; have hth := thaw_row 7 HI.out.s; have HI2 := Lib.hid (HI.out.set { S with y := unV pi.data.toList } 7 (.string ⟨(unV pi.data.toList).toArray⟩) rfl))
              go_roundw
              case rel => exact ⟨i + 1, rfl, hlz, _, by rw [HZ1.out, hc, ← HSS.out]; rfl, HI2.out⟩
              case measure => simp only [intOf]; omega
            · have hv0 : ((((H[i]'hlt).toNat : Nat) : Int) == 75) = false := by rw [hc]; rfl
              have hv1 : ((((H[i]'hlt).toNat : Nat) : Int) == 79) = true := by rw [hc]; rfl
              have HCI := Lib.hid (fun y => unquote31_any pi (by have := HXS.out; omega) y)
              go_wp2_with (go_at_call 42; refine (HCI.out _).mono ?_; rintro e v1 ⟨hb9, bb, rfl⟩; replace HI := Lib.hid (HI.out.below hb9); clear hb9; obtain ⟨q0, q1, q2, q3, q6, q7, q8, q9, q10⟩ := StpAt.cells HI.out.s; have hth := thaw_row 8 HI.out.s; have HI2 := Lib.hid (HI.out.set { S with o := unV pi.data.toList } 8 (.string ⟨(unV pi.data.toList).toArray⟩) rfl))
              go_roundw
              case rel => exact ⟨i + 1, rfl, hlz, _, by rw [HZ1.out, hc, ← HSS.out]; rfl, HI2.out⟩
              case measure => simp only [intOf]; omega
            · have hv0 : ((((H[i]'hlt).toNat : Nat) : Int) == 75) = false := by rw [hc]; rfl
              have hv1 : ((((H[i]'hlt).toNat : Nat) : Int) == 79) = false := by rw [hc]; rfl
              have hv2 : ((((H[i]'hlt).toNat : Nat) : Int) == 78) = true := by rw [hc]; rfl
              have HCI := Lib.hid (fun y => unquote31_any pi (by have := HXS.out; omega) y)
              go_wp2_with (go_at_call 42; refine (HCI.out _).mono ?_; rintro e v1 ⟨hb9, bb, rfl⟩; replace HI := Lib.hid (HI.out.below hb9); clear hb9; obtain ⟨q0, q1, q2, q3, q6, q7, q8, q9, q10⟩ := StpAt.cells HI.out.s; have hth := thaw_row 9 HI.out.s; have HI2 := Lib.hid (HI.out.set { S with n := unV pi.data.toList } 9 (.string ⟨(unV pi.data.toList).toArray⟩) rfl))
              go_roundw
              case rel => exact ⟨i + 1, rfl, hlz, _, by rw [HZ1.out, hc, ← HSS.out]; rfl, HI2.out⟩
              case measure => simp only [intOf]; omega
            · have hv0 : ((((H[i]'hlt).toNat : Nat) : Int) == 75) = false := by rw [hc]; rfl
              have hv1 : ((((H[i]'hlt).toNat : Nat) : Int) == 79) = false := by rw [hc]; rfl
              have hv2 : ((((H[i]'hlt).toNat : Nat) : Int) == 78) = false := by rw [hc]; rfl
              have HCI := Lib.hid (fun y => small31_any pi (by have := HXS.out; omega) y)
              go_wp2_with (go_at_call 40; refine (HCI.out _).mono ?_; rintro e v1 ⟨⟨bb, rfl⟩, rfl⟩; obtain ⟨q0, q1, q2, q3, q6, q7, q8, q9, q10⟩ := StpAt.cells HI.out.s; have hth := thaw_row 10 HI.out.s; have HI2 := Lib.hid (HI.out.set { S with st := smV pi.data.toList } 10 (.int .u8 (smV pi.data.toList : Int)) rfl))
              go_roundw
              case rel => exact ⟨i + 1, rfl, hlz, _, by rw [HZ1.out, hc, ← HSS.out]; rfl, HI2.out⟩
              case measure => simp only [intOf]; omega
          have HSF0 := Lib.hid (show S = stepW (splL 32 x.data.toList) by
            have eB : stB [65, 67] (splL 32 x.data.toList) (stA [65, 67] (splL 32 x.data.toList) (stp0 d 0)) = stA [65, 67] (splL 32 x.data.toList) (stp0 d 0) := by
              unfold stB
              rw [if_neg (by rintro ⟨_, q⟩; revert q; decide)]
            have eK : stK [65, 67] (splL 32 x.data.toList) (stA [65, 67] (splL 32 x.data.toList) (stp0 d 0)) = stA [65, 67] (splL 32 x.data.toList) (stp0 d 0) := by
              unfold stK
              rw [if_neg (by decide)]
            have eT : z.take i = z := List.take_of_length_le (by omega)
            rw [HSS.out, eT, HZ.out, HSK.out, HK.out.1, HP2.out.2]
            unfold stepW
            rw [HW0.out, ← HD.out.1, HT.out, eB, eK, ← HSA.out.1]
            unfold stC
            rw [if_pos ⟨HDV.out, by rw [HPB.out.2.1]; omega⟩])
          obtain ⟨SF, hSF⟩ : ∃ SF : StpV, SF = S := ⟨_, rfl⟩
          rw [← hSF] at HI HSF0
          have HSF := HSF0
          clear hSF HSS HSF0
          by_cases hH : i < H.size
          · have hlt' : (i : Int) < (H.size : Int) := by omega
            have h3i : ¬ ((3 : Int) + (i : Int) < (m : Int) + 1) := by omega
            have h3w : wrap64 ((3 : Int) + (i : Int)) = (3 : Int) + (i : Int) := wrap64_id (by omega)
            clear hlz hiz hH hzl
            go_upto_region 35 with fail
            have hof := step_ok (splL 32 x.data.toList) (fun p hp => by
              have h1 := HPB.out.1
              rw [← h1] at hp
              obtain ⟨q, hq, rfl⟩ := List.mem_map.1 hp
              have h2 := HSZ.out q hq
              have h3 := HXS.out
              have h4 : q.data.toList.length = q.size := Array.length_toList
              omega)
            rw [← HSF.out] at hof
            have HOK := Lib.hid hof
            clear hof
            have HSAY := Lib.hid (fun y => say31_any SF HOK.out.1 HOK.out.2 y)
            have HR := Lib.hid (range_row HI.out.s)
            go_upto_region 36 with (first
              | (with_reducible refine wpList_load_mid rfl 39 _ rfl g5 0 rfl (stpC SF) _ HR.out Tryd.underlying39 rfl (stpC_size SF) ?_)
              | (go_at_call 20; refine (HSAY.out _).mono ?_; rintro e w9 ⟨hb9, X, rfl, hX, hXz⟩; replace HI := Lib.hid (HI.out.below hb9); have HXX := Lib.hid hX; clear hb9 hX hXz))
            clear HR HSAY
            have HR := Lib.hid (range_row HI.out.s)
            cases hR : sayL SF with
            | none =>
              have HN := Lib.hid (fin_no HSF.out (by rw [hR]; exact fun e => by cases e))
              clear hR
              simp only [Option.isSome_none]
              go_wp2_with (first
                | (with_reducible refine wpList_load_mid rfl 39 _ rfl g5 0 rfl (stpC SF) _ HR.out Tryd.underlying39 rfl (stpC_size SF) ?_)
                | ((with_reducible refine wpList_store_mid rfl 39 _ _ rfl w.heap.size 0 _ rfl rfl ?_ ?_ ?_ ?_); exact there_row (cs := stpC (stp0 0 0)) HI.out.z; exact stpC_size SF; exact all_oneCell_toArray (stpC_one SF)))
              change bodyPost _ _ _ _ _ (w9.setCells w.heap.size 0 (stpC SF))
              have hza : StpAt (w9.setCells w.heap.size 0 (stpC SF)) w.heap.size SF := by rw [st_eq]; exact rowSt_row (stpC SF) [] (stpC (stp0 0 0)) w9 HI.out.z rfl
              have hzb : Below w.heap.size w (w9.setCells w.heap.size 0 (stpC SF)) := by rw [st_eq]; exact rowSt_below (g := w.heap.size) (n := w.heap.size) (Nat.le_refl _) (stpC SF) 0 _ HI.out.bel
              have HZ9 := Lib.hid (And.intro hza hzb)
              clear hza hzb
              generalize w9.setCells w.heap.size 0 (stpC SF) = wz at *
              refine bodyPost_ret (v := .tuple #[stpV SF, .bool false]) (by simp [results, Tryd.results23, show (asAddr (Value.pointer (some ⟨w.heap.size, 0, none⟩))).run Tryd.prog wz = .ok ⟨w.heap.size, 0, none⟩ wz from rfl, stp_loadVar HZ9.out.1]) rfl ?_
              exact .bad HZ9.out.2 HN.out _
            | some l =>
              obtain rfl := HXX.out l hR
              have hxe : (l == x.toList) = decide (l = x.data.toList) := by rw [Bool.eq_iff_iff, beq_iff_eq, decide_eq_true_iff, ByteArray.toList_eq]
              simp only [Option.isSome_some]
              by_cases hl : l = x.data.toList
              · have HY := Lib.hid (fin_yes HOK.out.1 (by rw [hR, hl]))
                rw [decide_eq_true hl] at hxe
                clear hR hl
                go_wp2_with (first
                  | (with_reducible refine wpList_load_mid rfl 39 _ rfl g5 0 rfl (stpC SF) _ HR.out Tryd.underlying39 rfl (stpC_size SF) ?_)
                  | ((with_reducible refine wpList_store_mid rfl 39 _ _ rfl w.heap.size 0 _ rfl rfl ?_ ?_ ?_ ?_); exact there_row (cs := stpC (stp0 0 0)) HI.out.z; exact stpC_size SF; exact all_oneCell_toArray (stpC_one SF)))
                change bodyPost _ _ _ _ _ (w9.setCells w.heap.size 0 (stpC SF))
                have hza : StpAt (w9.setCells w.heap.size 0 (stpC SF)) w.heap.size SF := by rw [st_eq]; exact rowSt_row (stpC SF) [] (stpC (stp0 0 0)) w9 HI.out.z rfl
                have hzb : Below w.heap.size w (w9.setCells w.heap.size 0 (stpC SF)) := by rw [st_eq]; exact rowSt_below (g := w.heap.size) (n := w.heap.size) (Nat.le_refl _) (stpC SF) 0 _ HI.out.bel
                have HZ9 := Lib.hid (And.intro hza hzb)
                clear hza hzb
                generalize w9.setCells w.heap.size 0 (stpC SF) = wz at *
                refine bodyPost_ret (v := .tuple #[stpV SF, .bool true]) (by simp [results, Tryd.results23, show (asAddr (Value.pointer (some ⟨w.heap.size, 0, none⟩))).run Tryd.prog wz = .ok ⟨w.heap.size, 0, none⟩ wz from rfl, stp_loadVar HZ9.out.1]) rfl ?_
                exact .good HZ9.out.2 HY.out
              · have HN := Lib.hid (fin_no HSF.out (by rw [hR]; intro e; exact hl (Option.some.inj e)))
                rw [decide_eq_false hl] at hxe
                clear hR hl
                go_wp2_with (first
                  | (with_reducible refine wpList_load_mid rfl 39 _ rfl g5 0 rfl (stpC SF) _ HR.out Tryd.underlying39 rfl (stpC_size SF) ?_)
                  | ((with_reducible refine wpList_store_mid rfl 39 _ _ rfl w.heap.size 0 _ rfl rfl ?_ ?_ ?_ ?_); exact there_row (cs := stpC (stp0 0 0)) HI.out.z; exact stpC_size SF; exact all_oneCell_toArray (stpC_one SF)))
                change bodyPost _ _ _ _ _ (w9.setCells w.heap.size 0 (stpC SF))
                have hza : StpAt (w9.setCells w.heap.size 0 (stpC SF)) w.heap.size SF := by rw [st_eq]; exact rowSt_row (stpC SF) [] (stpC (stp0 0 0)) w9 HI.out.z rfl
                have hzb : Below w.heap.size w (w9.setCells w.heap.size 0 (stpC SF)) := by rw [st_eq]; exact rowSt_below (g := w.heap.size) (n := w.heap.size) (Nat.le_refl _) (stpC SF) 0 _ HI.out.bel
                have HZ9 := Lib.hid (And.intro hza hzb)
                clear hza hzb
                generalize w9.setCells w.heap.size 0 (stpC SF) = wz at *
                refine bodyPost_ret (v := .tuple #[stpV SF, .bool false]) (by simp [results, Tryd.results23, show (asAddr (Value.pointer (some ⟨w.heap.size, 0, none⟩))).run Tryd.prog wz = .ok ⟨w.heap.size, 0, none⟩ wz from rfl, stp_loadVar HZ9.out.1]) rfl ?_
                exact .bad HZ9.out.2 HN.out _
          · have hlt' : ¬ (i : Int) < (H.size : Int) := by omega
            clear hlz hiz hH hzl
            go_upto_region 35 with fail
            have hof := step_ok (splL 32 x.data.toList) (fun p hp => by
              have h1 := HPB.out.1
              rw [← h1] at hp
              obtain ⟨q, hq, rfl⟩ := List.mem_map.1 hp
              have h2 := HSZ.out q hq
              have h3 := HXS.out
              have h4 : q.data.toList.length = q.size := Array.length_toList
              omega)
            rw [← HSF.out] at hof
            have HOK := Lib.hid hof
            clear hof
            have HSAY := Lib.hid (fun y => say31_any SF HOK.out.1 HOK.out.2 y)
            have HR := Lib.hid (range_row HI.out.s)
            go_upto_region 36 with (first
              | (with_reducible refine wpList_load_mid rfl 39 _ rfl g5 0 rfl (stpC SF) _ HR.out Tryd.underlying39 rfl (stpC_size SF) ?_)
              | (go_at_call 20; refine (HSAY.out _).mono ?_; rintro e w9 ⟨hb9, X, rfl, hX, hXz⟩; replace HI := Lib.hid (HI.out.below hb9); have HXX := Lib.hid hX; clear hb9 hX hXz))
            clear HR HSAY
            have HR := Lib.hid (range_row HI.out.s)
            cases hR : sayL SF with
            | none =>
              have HN := Lib.hid (fin_no HSF.out (by rw [hR]; exact fun e => by cases e))
              clear hR
              simp only [Option.isSome_none]
              go_wp2_with (first
                | (with_reducible refine wpList_load_mid rfl 39 _ rfl g5 0 rfl (stpC SF) _ HR.out Tryd.underlying39 rfl (stpC_size SF) ?_)
                | ((with_reducible refine wpList_store_mid rfl 39 _ _ rfl w.heap.size 0 _ rfl rfl ?_ ?_ ?_ ?_); exact there_row (cs := stpC (stp0 0 0)) HI.out.z; exact stpC_size SF; exact all_oneCell_toArray (stpC_one SF)))
              change bodyPost _ _ _ _ _ (w9.setCells w.heap.size 0 (stpC SF))
              have hza : StpAt (w9.setCells w.heap.size 0 (stpC SF)) w.heap.size SF := by rw [st_eq]; exact rowSt_row (stpC SF) [] (stpC (stp0 0 0)) w9 HI.out.z rfl
              have hzb : Below w.heap.size w (w9.setCells w.heap.size 0 (stpC SF)) := by rw [st_eq]; exact rowSt_below (g := w.heap.size) (n := w.heap.size) (Nat.le_refl _) (stpC SF) 0 _ HI.out.bel
              have HZ9 := Lib.hid (And.intro hza hzb)
              clear hza hzb
              generalize w9.setCells w.heap.size 0 (stpC SF) = wz at *
              refine bodyPost_ret (v := .tuple #[stpV SF, .bool false]) (by simp [results, Tryd.results23, show (asAddr (Value.pointer (some ⟨w.heap.size, 0, none⟩))).run Tryd.prog wz = .ok ⟨w.heap.size, 0, none⟩ wz from rfl, stp_loadVar HZ9.out.1]) rfl ?_
              exact .bad HZ9.out.2 HN.out _
            | some l =>
              obtain rfl := HXX.out l hR
              have hxe : (l == x.toList) = decide (l = x.data.toList) := by rw [Bool.eq_iff_iff, beq_iff_eq, decide_eq_true_iff, ByteArray.toList_eq]
              simp only [Option.isSome_some]
              by_cases hl : l = x.data.toList
              · have HY := Lib.hid (fin_yes HOK.out.1 (by rw [hR, hl]))
                rw [decide_eq_true hl] at hxe
                clear hR hl
                go_wp2_with (first
                  | (with_reducible refine wpList_load_mid rfl 39 _ rfl g5 0 rfl (stpC SF) _ HR.out Tryd.underlying39 rfl (stpC_size SF) ?_)
                  | ((with_reducible refine wpList_store_mid rfl 39 _ _ rfl w.heap.size 0 _ rfl rfl ?_ ?_ ?_ ?_); exact there_row (cs := stpC (stp0 0 0)) HI.out.z; exact stpC_size SF; exact all_oneCell_toArray (stpC_one SF)))
                change bodyPost _ _ _ _ _ (w9.setCells w.heap.size 0 (stpC SF))
                have hza : StpAt (w9.setCells w.heap.size 0 (stpC SF)) w.heap.size SF := by rw [st_eq]; exact rowSt_row (stpC SF) [] (stpC (stp0 0 0)) w9 HI.out.z rfl
                have hzb : Below w.heap.size w (w9.setCells w.heap.size 0 (stpC SF)) := by rw [st_eq]; exact rowSt_below (g := w.heap.size) (n := w.heap.size) (Nat.le_refl _) (stpC SF) 0 _ HI.out.bel
                have HZ9 := Lib.hid (And.intro hza hzb)
                clear hza hzb
                generalize w9.setCells w.heap.size 0 (stpC SF) = wz at *
                refine bodyPost_ret (v := .tuple #[stpV SF, .bool true]) (by simp [results, Tryd.results23, show (asAddr (Value.pointer (some ⟨w.heap.size, 0, none⟩))).run Tryd.prog wz = .ok ⟨w.heap.size, 0, none⟩ wz from rfl, stp_loadVar HZ9.out.1]) rfl ?_
                exact .good HZ9.out.2 HY.out
              · have HN := Lib.hid (fin_no HSF.out (by rw [hR]; intro e; exact hl (Option.some.inj e)))
                rw [decide_eq_false hl] at hxe
                clear hR hl
                go_wp2_with (first
                  | (with_reducible refine wpList_load_mid rfl 39 _ rfl g5 0 rfl (stpC SF) _ HR.out Tryd.underlying39 rfl (stpC_size SF) ?_)
                  | ((with_reducible refine wpList_store_mid rfl 39 _ _ rfl w.heap.size 0 _ rfl rfl ?_ ?_ ?_ ?_); exact there_row (cs := stpC (stp0 0 0)) HI.out.z; exact stpC_size SF; exact all_oneCell_toArray (stpC_one SF)))
                change bodyPost _ _ _ _ _ (w9.setCells w.heap.size 0 (stpC SF))
                have hza : StpAt (w9.setCells w.heap.size 0 (stpC SF)) w.heap.size SF := by rw [st_eq]; exact rowSt_row (stpC SF) [] (stpC (stp0 0 0)) w9 HI.out.z rfl
                have hzb : Below w.heap.size w (w9.setCells w.heap.size 0 (stpC SF)) := by rw [st_eq]; exact rowSt_below (g := w.heap.size) (n := w.heap.size) (Nat.le_refl _) (stpC SF) 0 _ HI.out.bel
                have HZ9 := Lib.hid (And.intro hza hzb)
                clear hza hzb
                generalize w9.setCells w.heap.size 0 (stpC SF) = wz at *
                refine bodyPost_ret (v := .tuple #[stpV SF, .bool false]) (by simp [results, Tryd.results23, show (asAddr (Value.pointer (some ⟨w.heap.size, 0, none⟩))).run Tryd.prog wz = .ok ⟨w.heap.size, 0, none⟩ wz from rfl, stp_loadVar HZ9.out.1]) rfl ?_
                exact .bad HZ9.out.2 HN.out _
    have hg3 : ¬ ((m : Int) + 1 > 3) := by omega
    by_cases hm1 : 1 ≤ m
    · have hg1 : (m : Int) + 1 > 1 := by omega
      by_cases hm2 : 2 ≤ m
      · have hg2 : (m : Int) + 1 > 2 := by omega
        obtain ⟨p1, hp1, ht1, hz1⟩ := HGT.out 1 (by omega)
        have HP1 := Lib.hid (And.intro hp1 ht1)
        have HC1 := Lib.hid (fun y => small31_any p1 (by have := HXS.out; omega) y)
        clear hp1 ht1 hz1
        go_upto_region 11 with fail
        have hpc := HI.out.piece HP1.out.1
        obtain ⟨q0, q1, q2, q3, q6, q7, q8, q9, q10⟩ := StpAt.cells HI.out.s
        have hth := thaw_row 1 HI.out.s
        go_upto_region 12 with (go_at_call 40; refine (HC1.out _).mono ?_; rintro e v1 ⟨⟨bb, rfl⟩, rfl⟩)
        have HI2 := HI.out.set { (stp0 d 0) with a := smV p1.data.toList } 1 (.int .u8 (smV p1.data.toList : Int)) rfl
        replace HI := Lib.hid HI2
        clear HI2 hth hpc HC1
        clear q0 q1 q2 q3 q6 q7 q8 q9 q10
        generalize World.setCell _ ⟨g5, 1, none⟩ (.int .u8 (smV p1.data.toList : Int)) = wn1 at *
        have f0 : World.cell? _ ⟨g5, 0, none⟩ = some (.int .u8 (d : Int)) := (StpAt.cells HI.out.s).1
        go_upto_region 35 with fail
        clear f0
        obtain ⟨SF, hSF⟩ : ∃ SF : StpV, SF = { (stp0 d 0) with a := smV p1.data.toList } := ⟨_, rfl⟩
        rw [← hSF] at HI
        have HSF := Lib.hid (show SF = stepW (splL 32 x.data.toList) by
          rw [hSF]
          unfold stepW
          rw [HW0.out, ← HD.out.1, HT.out]
          have eA : stA [65, 67] (splL 32 x.data.toList) (stp0 d 0) = { (stp0 d 0) with a := smV p1.data.toList } := by
            unfold stA
            rw [if_pos (by rw [HPB.out.2.1]; exact ⟨by omega, by decide⟩)]
            rw [← HP1.out.2]
          rw [eA]
          have eB : stB [65, 67] (splL 32 x.data.toList) { (stp0 d 0) with a := smV p1.data.toList } = { (stp0 d 0) with a := smV p1.data.toList } := by
            unfold stB
            rw [if_neg (by rintro ⟨_, q⟩; revert q; decide)]
          rw [eB]
          have eK : stK [65, 67] (splL 32 x.data.toList) { (stp0 d 0) with a := smV p1.data.toList } = { (stp0 d 0) with a := smV p1.data.toList } := by
            unfold stK
            rw [if_neg (by decide)]
          rw [eK]
          unfold stC
          rw [if_neg (by rw [HPB.out.2.1]; omega)])
        clear hSF
        have hof := step_ok (splL 32 x.data.toList) (fun p hp => by
          have h1 := HPB.out.1
          rw [← h1] at hp
          obtain ⟨q, hq, rfl⟩ := List.mem_map.1 hp
          have h2 := HSZ.out q hq
          have h3 := HXS.out
          have h4 : q.data.toList.length = q.size := Array.length_toList
          omega)
        rw [← HSF.out] at hof
        have HOK := Lib.hid hof
        clear hof
        have HSAY := Lib.hid (fun y => say31_any SF HOK.out.1 HOK.out.2 y)
        have HR := Lib.hid (range_row HI.out.s)
        go_upto_region 36 with (first
          | (with_reducible refine wpList_load_mid rfl 39 _ rfl g5 0 rfl (stpC SF) _ HR.out Tryd.underlying39 rfl (stpC_size SF) ?_)
          | (go_at_call 20; refine (HSAY.out _).mono ?_; rintro e w9 ⟨hb9, X, rfl, hX, hXz⟩; replace HI := Lib.hid (HI.out.below hb9); have HXX := Lib.hid hX; clear hb9 hX hXz))
        clear HR HSAY
        have HR := Lib.hid (range_row HI.out.s)
        cases hR : sayL SF with
        | none =>
          have HN := Lib.hid (fin_no HSF.out (by rw [hR]; exact fun e => by cases e))
          clear hR
          simp only [Option.isSome_none]
          go_wp2_with (first
            | (with_reducible refine wpList_load_mid rfl 39 _ rfl g5 0 rfl (stpC SF) _ HR.out Tryd.underlying39 rfl (stpC_size SF) ?_)
            | ((with_reducible refine wpList_store_mid rfl 39 _ _ rfl w.heap.size 0 _ rfl rfl ?_ ?_ ?_ ?_); exact there_row (cs := stpC (stp0 0 0)) HI.out.z; exact stpC_size SF; exact all_oneCell_toArray (stpC_one SF)))
          change bodyPost _ _ _ _ _ (w9.setCells w.heap.size 0 (stpC SF))
          have hza : StpAt (w9.setCells w.heap.size 0 (stpC SF)) w.heap.size SF := by rw [st_eq]; exact rowSt_row (stpC SF) [] (stpC (stp0 0 0)) w9 HI.out.z rfl
          have hzb : Below w.heap.size w (w9.setCells w.heap.size 0 (stpC SF)) := by rw [st_eq]; exact rowSt_below (g := w.heap.size) (n := w.heap.size) (Nat.le_refl _) (stpC SF) 0 _ HI.out.bel
          have HZ9 := Lib.hid (And.intro hza hzb)
          clear hza hzb
          generalize w9.setCells w.heap.size 0 (stpC SF) = wz at *
          refine bodyPost_ret (v := .tuple #[stpV SF, .bool false]) (by simp [results, Tryd.results23, show (asAddr (Value.pointer (some ⟨w.heap.size, 0, none⟩))).run Tryd.prog wz = .ok ⟨w.heap.size, 0, none⟩ wz from rfl, stp_loadVar HZ9.out.1]) rfl ?_
          exact .bad HZ9.out.2 HN.out _
        | some l =>
          obtain rfl := HXX.out l hR
          have hxe : (l == x.toList) = decide (l = x.data.toList) := by rw [Bool.eq_iff_iff, beq_iff_eq, decide_eq_true_iff, ByteArray.toList_eq]
          simp only [Option.isSome_some]
          by_cases hl : l = x.data.toList
          · have HY := Lib.hid (fin_yes HOK.out.1 (by rw [hR, hl]))
            rw [decide_eq_true hl] at hxe
            clear hR hl
            go_wp2_with (first
              | (with_reducible refine wpList_load_mid rfl 39 _ rfl g5 0 rfl (stpC SF) _ HR.out Tryd.underlying39 rfl (stpC_size SF) ?_)
              | ((with_reducible refine wpList_store_mid rfl 39 _ _ rfl w.heap.size 0 _ rfl rfl ?_ ?_ ?_ ?_); exact there_row (cs := stpC (stp0 0 0)) HI.out.z; exact stpC_size SF; exact all_oneCell_toArray (stpC_one SF)))
            change bodyPost _ _ _ _ _ (w9.setCells w.heap.size 0 (stpC SF))
            have hza : StpAt (w9.setCells w.heap.size 0 (stpC SF)) w.heap.size SF := by rw [st_eq]; exact rowSt_row (stpC SF) [] (stpC (stp0 0 0)) w9 HI.out.z rfl
            have hzb : Below w.heap.size w (w9.setCells w.heap.size 0 (stpC SF)) := by rw [st_eq]; exact rowSt_below (g := w.heap.size) (n := w.heap.size) (Nat.le_refl _) (stpC SF) 0 _ HI.out.bel
            have HZ9 := Lib.hid (And.intro hza hzb)
            clear hza hzb
            generalize w9.setCells w.heap.size 0 (stpC SF) = wz at *
            refine bodyPost_ret (v := .tuple #[stpV SF, .bool true]) (by simp [results, Tryd.results23, show (asAddr (Value.pointer (some ⟨w.heap.size, 0, none⟩))).run Tryd.prog wz = .ok ⟨w.heap.size, 0, none⟩ wz from rfl, stp_loadVar HZ9.out.1]) rfl ?_
            exact .good HZ9.out.2 HY.out
          · have HN := Lib.hid (fin_no HSF.out (by rw [hR]; intro e; exact hl (Option.some.inj e)))
            rw [decide_eq_false hl] at hxe
            clear hR hl
            go_wp2_with (first
              | (with_reducible refine wpList_load_mid rfl 39 _ rfl g5 0 rfl (stpC SF) _ HR.out Tryd.underlying39 rfl (stpC_size SF) ?_)
              | ((with_reducible refine wpList_store_mid rfl 39 _ _ rfl w.heap.size 0 _ rfl rfl ?_ ?_ ?_ ?_); exact there_row (cs := stpC (stp0 0 0)) HI.out.z; exact stpC_size SF; exact all_oneCell_toArray (stpC_one SF)))
            change bodyPost _ _ _ _ _ (w9.setCells w.heap.size 0 (stpC SF))
            have hza : StpAt (w9.setCells w.heap.size 0 (stpC SF)) w.heap.size SF := by rw [st_eq]; exact rowSt_row (stpC SF) [] (stpC (stp0 0 0)) w9 HI.out.z rfl
            have hzb : Below w.heap.size w (w9.setCells w.heap.size 0 (stpC SF)) := by rw [st_eq]; exact rowSt_below (g := w.heap.size) (n := w.heap.size) (Nat.le_refl _) (stpC SF) 0 _ HI.out.bel
            have HZ9 := Lib.hid (And.intro hza hzb)
            clear hza hzb
            generalize w9.setCells w.heap.size 0 (stpC SF) = wz at *
            refine bodyPost_ret (v := .tuple #[stpV SF, .bool false]) (by simp [results, Tryd.results23, show (asAddr (Value.pointer (some ⟨w.heap.size, 0, none⟩))).run Tryd.prog wz = .ok ⟨w.heap.size, 0, none⟩ wz from rfl, stp_loadVar HZ9.out.1]) rfl ?_
            exact .bad HZ9.out.2 HN.out _
      · have hg2 : ¬ ((m : Int) + 1 > 2) := by omega
        obtain ⟨p1, hp1, ht1, hz1⟩ := HGT.out 1 (by omega)
        have HP1 := Lib.hid (And.intro hp1 ht1)
        have HC1 := Lib.hid (fun y => small31_any p1 (by have := HXS.out; omega) y)
        clear hp1 ht1 hz1
        go_upto_region 11 with fail
        have hpc := HI.out.piece HP1.out.1
        obtain ⟨q0, q1, q2, q3, q6, q7, q8, q9, q10⟩ := StpAt.cells HI.out.s
        have hth := thaw_row 1 HI.out.s
        go_upto_region 12 with (go_at_call 40; refine (HC1.out _).mono ?_; rintro e v1 ⟨⟨bb, rfl⟩, rfl⟩)
        have HI2 := HI.out.set { (stp0 d 0) with a := smV p1.data.toList } 1 (.int .u8 (smV p1.data.toList : Int)) rfl
        replace HI := Lib.hid HI2
        clear HI2 hth hpc HC1
        clear q0 q1 q2 q3 q6 q7 q8 q9 q10
        generalize World.setCell _ ⟨g5, 1, none⟩ (.int .u8 (smV p1.data.toList : Int)) = wn1 at *
        have f0 : World.cell? _ ⟨g5, 0, none⟩ = some (.int .u8 (d : Int)) := (StpAt.cells HI.out.s).1
        go_upto_region 35 with fail
        clear f0
        obtain ⟨SF, hSF⟩ : ∃ SF : StpV, SF = { (stp0 d 0) with a := smV p1.data.toList } := ⟨_, rfl⟩
        rw [← hSF] at HI
        have HSF := Lib.hid (show SF = stepW (splL 32 x.data.toList) by
          rw [hSF]
          unfold stepW
          rw [HW0.out, ← HD.out.1, HT.out]
          have eA : stA [65, 67] (splL 32 x.data.toList) (stp0 d 0) = { (stp0 d 0) with a := smV p1.data.toList } := by
            unfold stA
            rw [if_pos (by rw [HPB.out.2.1]; exact ⟨by omega, by decide⟩)]
            rw [← HP1.out.2]
          rw [eA]
          have eB : stB [65, 67] (splL 32 x.data.toList) { (stp0 d 0) with a := smV p1.data.toList } = { (stp0 d 0) with a := smV p1.data.toList } := by
            unfold stB
            rw [if_neg (by rintro ⟨_, q⟩; revert q; decide)]
          rw [eB]
          have eK : stK [65, 67] (splL 32 x.data.toList) { (stp0 d 0) with a := smV p1.data.toList } = { (stp0 d 0) with a := smV p1.data.toList } := by
            unfold stK
            rw [if_neg (by decide)]
          rw [eK]
          unfold stC
          rw [if_neg (by rw [HPB.out.2.1]; omega)])
        clear hSF
        have hof := step_ok (splL 32 x.data.toList) (fun p hp => by
          have h1 := HPB.out.1
          rw [← h1] at hp
          obtain ⟨q, hq, rfl⟩ := List.mem_map.1 hp
          have h2 := HSZ.out q hq
          have h3 := HXS.out
          have h4 : q.data.toList.length = q.size := Array.length_toList
          omega)
        rw [← HSF.out] at hof
        have HOK := Lib.hid hof
        clear hof
        have HSAY := Lib.hid (fun y => say31_any SF HOK.out.1 HOK.out.2 y)
        have HR := Lib.hid (range_row HI.out.s)
        go_upto_region 36 with (first
          | (with_reducible refine wpList_load_mid rfl 39 _ rfl g5 0 rfl (stpC SF) _ HR.out Tryd.underlying39 rfl (stpC_size SF) ?_)
          | (go_at_call 20; refine (HSAY.out _).mono ?_; rintro e w9 ⟨hb9, X, rfl, hX, hXz⟩; replace HI := Lib.hid (HI.out.below hb9); have HXX := Lib.hid hX; clear hb9 hX hXz))
        clear HR HSAY
        have HR := Lib.hid (range_row HI.out.s)
        cases hR : sayL SF with
        | none =>
          have HN := Lib.hid (fin_no HSF.out (by rw [hR]; exact fun e => by cases e))
          clear hR
          simp only [Option.isSome_none]
          go_wp2_with (first
            | (with_reducible refine wpList_load_mid rfl 39 _ rfl g5 0 rfl (stpC SF) _ HR.out Tryd.underlying39 rfl (stpC_size SF) ?_)
            | ((with_reducible refine wpList_store_mid rfl 39 _ _ rfl w.heap.size 0 _ rfl rfl ?_ ?_ ?_ ?_); exact there_row (cs := stpC (stp0 0 0)) HI.out.z; exact stpC_size SF; exact all_oneCell_toArray (stpC_one SF)))
          change bodyPost _ _ _ _ _ (w9.setCells w.heap.size 0 (stpC SF))
          have hza : StpAt (w9.setCells w.heap.size 0 (stpC SF)) w.heap.size SF := by rw [st_eq]; exact rowSt_row (stpC SF) [] (stpC (stp0 0 0)) w9 HI.out.z rfl
          have hzb : Below w.heap.size w (w9.setCells w.heap.size 0 (stpC SF)) := by rw [st_eq]; exact rowSt_below (g := w.heap.size) (n := w.heap.size) (Nat.le_refl _) (stpC SF) 0 _ HI.out.bel
          have HZ9 := Lib.hid (And.intro hza hzb)
          clear hza hzb
          generalize w9.setCells w.heap.size 0 (stpC SF) = wz at *
          refine bodyPost_ret (v := .tuple #[stpV SF, .bool false]) (by simp [results, Tryd.results23, show (asAddr (Value.pointer (some ⟨w.heap.size, 0, none⟩))).run Tryd.prog wz = .ok ⟨w.heap.size, 0, none⟩ wz from rfl, stp_loadVar HZ9.out.1]) rfl ?_
          exact .bad HZ9.out.2 HN.out _
        | some l =>
          obtain rfl := HXX.out l hR
          have hxe : (l == x.toList) = decide (l = x.data.toList) := by rw [Bool.eq_iff_iff, beq_iff_eq, decide_eq_true_iff, ByteArray.toList_eq]
          simp only [Option.isSome_some]
          by_cases hl : l = x.data.toList
          · have HY := Lib.hid (fin_yes HOK.out.1 (by rw [hR, hl]))
            rw [decide_eq_true hl] at hxe
            clear hR hl
            go_wp2_with (first
              | (with_reducible refine wpList_load_mid rfl 39 _ rfl g5 0 rfl (stpC SF) _ HR.out Tryd.underlying39 rfl (stpC_size SF) ?_)
              | ((with_reducible refine wpList_store_mid rfl 39 _ _ rfl w.heap.size 0 _ rfl rfl ?_ ?_ ?_ ?_); exact there_row (cs := stpC (stp0 0 0)) HI.out.z; exact stpC_size SF; exact all_oneCell_toArray (stpC_one SF)))
            change bodyPost _ _ _ _ _ (w9.setCells w.heap.size 0 (stpC SF))
            have hza : StpAt (w9.setCells w.heap.size 0 (stpC SF)) w.heap.size SF := by rw [st_eq]; exact rowSt_row (stpC SF) [] (stpC (stp0 0 0)) w9 HI.out.z rfl
            have hzb : Below w.heap.size w (w9.setCells w.heap.size 0 (stpC SF)) := by rw [st_eq]; exact rowSt_below (g := w.heap.size) (n := w.heap.size) (Nat.le_refl _) (stpC SF) 0 _ HI.out.bel
            have HZ9 := Lib.hid (And.intro hza hzb)
            clear hza hzb
            generalize w9.setCells w.heap.size 0 (stpC SF) = wz at *
            refine bodyPost_ret (v := .tuple #[stpV SF, .bool true]) (by simp [results, Tryd.results23, show (asAddr (Value.pointer (some ⟨w.heap.size, 0, none⟩))).run Tryd.prog wz = .ok ⟨w.heap.size, 0, none⟩ wz from rfl, stp_loadVar HZ9.out.1]) rfl ?_
            exact .good HZ9.out.2 HY.out
          · have HN := Lib.hid (fin_no HSF.out (by rw [hR]; intro e; exact hl (Option.some.inj e)))
            rw [decide_eq_false hl] at hxe
            clear hR hl
            go_wp2_with (first
              | (with_reducible refine wpList_load_mid rfl 39 _ rfl g5 0 rfl (stpC SF) _ HR.out Tryd.underlying39 rfl (stpC_size SF) ?_)
              | ((with_reducible refine wpList_store_mid rfl 39 _ _ rfl w.heap.size 0 _ rfl rfl ?_ ?_ ?_ ?_); exact there_row (cs := stpC (stp0 0 0)) HI.out.z; exact stpC_size SF; exact all_oneCell_toArray (stpC_one SF)))
            change bodyPost _ _ _ _ _ (w9.setCells w.heap.size 0 (stpC SF))
            have hza : StpAt (w9.setCells w.heap.size 0 (stpC SF)) w.heap.size SF := by rw [st_eq]; exact rowSt_row (stpC SF) [] (stpC (stp0 0 0)) w9 HI.out.z rfl
            have hzb : Below w.heap.size w (w9.setCells w.heap.size 0 (stpC SF)) := by rw [st_eq]; exact rowSt_below (g := w.heap.size) (n := w.heap.size) (Nat.le_refl _) (stpC SF) 0 _ HI.out.bel
            have HZ9 := Lib.hid (And.intro hza hzb)
            clear hza hzb
            generalize w9.setCells w.heap.size 0 (stpC SF) = wz at *
            refine bodyPost_ret (v := .tuple #[stpV SF, .bool false]) (by simp [results, Tryd.results23, show (asAddr (Value.pointer (some ⟨w.heap.size, 0, none⟩))).run Tryd.prog wz = .ok ⟨w.heap.size, 0, none⟩ wz from rfl, stp_loadVar HZ9.out.1]) rfl ?_
            exact .bad HZ9.out.2 HN.out _
    · have hg1 : ¬ ((m : Int) + 1 > 1) := by omega
      have hg2 : ¬ ((m : Int) + 1 > 2) := by omega
      have f0 : World.cell? _ ⟨g5, 0, none⟩ = some (.int .u8 (d : Int)) := (StpAt.cells HI.out.s).1
      go_upto_region 35 with fail
      clear f0
      obtain ⟨SF, hSF⟩ : ∃ SF : StpV, SF = (stp0 d 0) := ⟨_, rfl⟩
      rw [← hSF] at HI
      have HSF := Lib.hid (show SF = stepW (splL 32 x.data.toList) by
        rw [hSF]
        unfold stepW
        rw [HW0.out, ← HD.out.1, HT.out]
        have eA : stA [65, 67] (splL 32 x.data.toList) (stp0 d 0) = (stp0 d 0) := by
          unfold stA
          rw [if_neg (by rw [HPB.out.2.1]; omega)]
        rw [eA]
        have eB : stB [65, 67] (splL 32 x.data.toList) (stp0 d 0) = (stp0 d 0) := by
          unfold stB
          rw [if_neg (by rintro ⟨_, q⟩; revert q; decide)]
        rw [eB]
        have eK : stK [65, 67] (splL 32 x.data.toList) (stp0 d 0) = (stp0 d 0) := by
          unfold stK
          rw [if_neg (by decide)]
        rw [eK]
        unfold stC
        rw [if_neg (by rw [HPB.out.2.1]; omega)])
      clear hSF
      have hof := step_ok (splL 32 x.data.toList) (fun p hp => by
        have h1 := HPB.out.1
        rw [← h1] at hp
        obtain ⟨q, hq, rfl⟩ := List.mem_map.1 hp
        have h2 := HSZ.out q hq
        have h3 := HXS.out
        have h4 : q.data.toList.length = q.size := Array.length_toList
        omega)
      rw [← HSF.out] at hof
      have HOK := Lib.hid hof
      clear hof
      have HSAY := Lib.hid (fun y => say31_any SF HOK.out.1 HOK.out.2 y)
      have HR := Lib.hid (range_row HI.out.s)
      go_upto_region 36 with (first
        | (with_reducible refine wpList_load_mid rfl 39 _ rfl g5 0 rfl (stpC SF) _ HR.out Tryd.underlying39 rfl (stpC_size SF) ?_)
        | (go_at_call 20; refine (HSAY.out _).mono ?_; rintro e w9 ⟨hb9, X, rfl, hX, hXz⟩; replace HI := Lib.hid (HI.out.below hb9); have HXX := Lib.hid hX; clear hb9 hX hXz))
      clear HR HSAY
      have HR := Lib.hid (range_row HI.out.s)
      cases hR : sayL SF with
      | none =>
        have HN := Lib.hid (fin_no HSF.out (by rw [hR]; exact fun e => by cases e))
        clear hR
        simp only [Option.isSome_none]
        go_wp2_with (first
          | (with_reducible refine wpList_load_mid rfl 39 _ rfl g5 0 rfl (stpC SF) _ HR.out Tryd.underlying39 rfl (stpC_size SF) ?_)
          | ((with_reducible refine wpList_store_mid rfl 39 _ _ rfl w.heap.size 0 _ rfl rfl ?_ ?_ ?_ ?_); exact there_row (cs := stpC (stp0 0 0)) HI.out.z; exact stpC_size SF; exact all_oneCell_toArray (stpC_one SF)))
        change bodyPost _ _ _ _ _ (w9.setCells w.heap.size 0 (stpC SF))
        have hza : StpAt (w9.setCells w.heap.size 0 (stpC SF)) w.heap.size SF := by rw [st_eq]; exact rowSt_row (stpC SF) [] (stpC (stp0 0 0)) w9 HI.out.z rfl
        have hzb : Below w.heap.size w (w9.setCells w.heap.size 0 (stpC SF)) := by rw [st_eq]; exact rowSt_below (g := w.heap.size) (n := w.heap.size) (Nat.le_refl _) (stpC SF) 0 _ HI.out.bel
        have HZ9 := Lib.hid (And.intro hza hzb)
        clear hza hzb
        generalize w9.setCells w.heap.size 0 (stpC SF) = wz at *
        refine bodyPost_ret (v := .tuple #[stpV SF, .bool false]) (by simp [results, Tryd.results23, show (asAddr (Value.pointer (some ⟨w.heap.size, 0, none⟩))).run Tryd.prog wz = .ok ⟨w.heap.size, 0, none⟩ wz from rfl, stp_loadVar HZ9.out.1]) rfl ?_
        exact .bad HZ9.out.2 HN.out _
      | some l =>
        obtain rfl := HXX.out l hR
        have hxe : (l == x.toList) = decide (l = x.data.toList) := by rw [Bool.eq_iff_iff, beq_iff_eq, decide_eq_true_iff, ByteArray.toList_eq]
        simp only [Option.isSome_some]
        by_cases hl : l = x.data.toList
        · have HY := Lib.hid (fin_yes HOK.out.1 (by rw [hR, hl]))
          rw [decide_eq_true hl] at hxe
          clear hR hl
          go_wp2_with (first
            | (with_reducible refine wpList_load_mid rfl 39 _ rfl g5 0 rfl (stpC SF) _ HR.out Tryd.underlying39 rfl (stpC_size SF) ?_)
            | ((with_reducible refine wpList_store_mid rfl 39 _ _ rfl w.heap.size 0 _ rfl rfl ?_ ?_ ?_ ?_); exact there_row (cs := stpC (stp0 0 0)) HI.out.z; exact stpC_size SF; exact all_oneCell_toArray (stpC_one SF)))
          change bodyPost _ _ _ _ _ (w9.setCells w.heap.size 0 (stpC SF))
          have hza : StpAt (w9.setCells w.heap.size 0 (stpC SF)) w.heap.size SF := by rw [st_eq]; exact rowSt_row (stpC SF) [] (stpC (stp0 0 0)) w9 HI.out.z rfl
          have hzb : Below w.heap.size w (w9.setCells w.heap.size 0 (stpC SF)) := by rw [st_eq]; exact rowSt_below (g := w.heap.size) (n := w.heap.size) (Nat.le_refl _) (stpC SF) 0 _ HI.out.bel
          have HZ9 := Lib.hid (And.intro hza hzb)
          clear hza hzb
          generalize w9.setCells w.heap.size 0 (stpC SF) = wz at *
          refine bodyPost_ret (v := .tuple #[stpV SF, .bool true]) (by simp [results, Tryd.results23, show (asAddr (Value.pointer (some ⟨w.heap.size, 0, none⟩))).run Tryd.prog wz = .ok ⟨w.heap.size, 0, none⟩ wz from rfl, stp_loadVar HZ9.out.1]) rfl ?_
          exact .good HZ9.out.2 HY.out
        · have HN := Lib.hid (fin_no HSF.out (by rw [hR]; intro e; exact hl (Option.some.inj e)))
          rw [decide_eq_false hl] at hxe
          clear hR hl
          go_wp2_with (first
            | (with_reducible refine wpList_load_mid rfl 39 _ rfl g5 0 rfl (stpC SF) _ HR.out Tryd.underlying39 rfl (stpC_size SF) ?_)
            | ((with_reducible refine wpList_store_mid rfl 39 _ _ rfl w.heap.size 0 _ rfl rfl ?_ ?_ ?_ ?_); exact there_row (cs := stpC (stp0 0 0)) HI.out.z; exact stpC_size SF; exact all_oneCell_toArray (stpC_one SF)))
          change bodyPost _ _ _ _ _ (w9.setCells w.heap.size 0 (stpC SF))
          have hza : StpAt (w9.setCells w.heap.size 0 (stpC SF)) w.heap.size SF := by rw [st_eq]; exact rowSt_row (stpC SF) [] (stpC (stp0 0 0)) w9 HI.out.z rfl
          have hzb : Below w.heap.size w (w9.setCells w.heap.size 0 (stpC SF)) := by rw [st_eq]; exact rowSt_below (g := w.heap.size) (n := w.heap.size) (Nat.le_refl _) (stpC SF) 0 _ HI.out.bel
          have HZ9 := Lib.hid (And.intro hza hzb)
          clear hza hzb
          generalize w9.setCells w.heap.size 0 (stpC SF) = wz at *
          refine bodyPost_ret (v := .tuple #[stpV SF, .bool false]) (by simp [results, Tryd.results23, show (asAddr (Value.pointer (some ⟨w.heap.size, 0, none⟩))).run Tryd.prog wz = .ok ⟨w.heap.size, 0, none⟩ wz from rfl, stp_loadVar HZ9.out.1]) rfl ?_
          exact .bad HZ9.out.2 HN.out _
end Go.Proofs.YtjjlodeiejobdaaDoor
