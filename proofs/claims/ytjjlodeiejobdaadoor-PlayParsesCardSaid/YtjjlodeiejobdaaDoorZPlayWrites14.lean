/- Play: the document's Step, walked, I. Condition: the line is not too long. -/
import Derived.Test.YtjjlodeiejobdaaDoorZPlayWrites13
namespace Go.Proofs.YtjjlodeiejobdaaDoor
open Go.RowKit Go.Shelf
set_option maxRecDepth 100000 in
set_option maxHeartbeats 16000000 in
theorem step_n (x : ByteArray) (hxs : x.size ≤ 30000) (hT : wdT (wdAt ((splL 32 x.data.toList).headD []) 14) = []) (w : World) : Calls Tryd.prog 23 #[.string x] w (ReadR (rdL x.data.toList) w) := by
  obtain ⟨q0, rs, hq⟩ := pcs_cons 32 x
  have hpb := pcs_back 32 x
  have HSP := Lib.hid (fun y => split31_any 32 x (by omega) y)
  have HSZ := Lib.hid (fun (p : ByteArray) (hq : p ∈ pcsB 32 x) => pcs_size hq)
  obtain ⟨ps, hps⟩ : ∃ ps, ps = pcsB 32 x := ⟨_, rfl⟩
  rw [← hps] at hpb HSP HSZ hq
  have hpb1 := congrArg List.length hpb
  rw [List.length_map] at hpb1
  obtain ⟨m, hm⟩ : ∃ m, m + 1 = ps.length := ⟨rs.length, by rw [hq]; rfl⟩
  rw [← hm] at hpb1
  unfold SplR at HSP
  rw [← hm] at HSP
  have HPB := Lib.hid (And.intro hpb (And.intro hpb1.symm hm.symm))
  obtain ⟨p0, hp0⟩ : ∃ p0, ps[0]? = some p0 := ⟨q0, by rw [hq]; rfl⟩
  have HP0 := Lib.hid hp0
  have hw0 : (splL 32 x.data.toList).headD [] = p0.data.toList := by rw [← hpb, hq] ; rw [hq] at hp0; cases hp0; rfl
  rw [hw0] at hT
  have HW0 := Lib.hid hw0
  have HT := Lib.hid hT
  have HGT := Lib.hid (show ∀ j, j < m + 1 → ∃ p, ps[j]? = some p ∧ p.data.toList = (splL 32 x.data.toList).getD j [] ∧ p.size ≤ x.size from fun j hj => by
    have h1 : ps[j]? = some (ps[j]'(by omega)) := List.getElem?_eq_getElem (by omega)
    refine ⟨_, h1, ?_, HSZ.out _ (List.getElem_mem _)⟩
    rw [← hpb, List.getD, List.getElem?_map, h1]
    rfl)
  have hml : m ≤ 30001 := by
    have h1 := pcs_many 32 x
    rw [← hps, ← hm] at h1
    omega
  have HML := Lib.hid hml
  have hb0 := (Below.refl w.heap.size w).alloc (Nat.le_refl _) (.cells (stpC (stp0 0 0)).toArray 39)
  have hG0 : StpAt (w.alloc (.cells (stpC (stp0 0 0)).toArray 39)) w.heap.size (stp0 0 0) := heap_alloc_new _ _
  have H0 := Lib.hid (And.intro hb0 hG0)
  have HXS := Lib.hid hxs
  clear hpb hpb1 hps hq hm hp0 hw0 hT hml hb0 hG0 hxs
  go_enter Tryd.func23, Tryd.ntmps23
  go_upto_region 1 with fail
  change Code.wp _ _ _ _ (w.alloc (.cells (stpC (stp0 0 0)).toArray 39))
  generalize w.alloc (.cells (stpC (stp0 0 0)).toArray 39) = wa at *
  go_upto_region 2 with (go_at_call 22; refine (HSP.out wa).mono ?_; rintro e wb ⟨g, cap, rfl, hps, hb1⟩; have H1 := Lib.hid (And.intro (H0.out.1.trans (hb1.mono H0.out.1.size)) (And.intro (H0.out.2.below hb1) hps)); clear hb1 hps)
  clear H0 HSP
  go_upto_region 4 with fail
  change Code.wp _ _ _ _ (wb.alloc (.cells (stpC (stp0 0 0)).toArray 39))
  have hb2 := (Below.refl wb.heap.size wb).alloc (Nat.le_refl _) (.cells (stpC (stp0 0 0)).toArray 39)
  have HI := Lib.hid (show StI w w.heap.size g wb.heap.size ps (stp0 0 0) (wb.alloc (.cells (stpC (stp0 0 0)).toArray 39)) from ⟨H1.out.2.1.below hb2, H1.out.2.2.below hb2, heap_alloc_new _ _, H1.out.1.trans (hb2.mono H1.out.1.size), Nat.le_refl _, H1.out.2.1.lt, H1.out.2.2.lt⟩)
  generalize wb.alloc (.cells (stpC (stp0 0 0)).toArray 39) = wc at *
  generalize wb.heap.size = g5 at *
  clear hb2 H1
  go_loopw [6] (fun s6 wr => ∃ i : Nat, s6 = .int .u8 (i : Int) ∧ 1 ≤ i ∧ i ≤ 14 ∧ StI w w.heap.size g g5 ps (stp0 (wdAt p0.data.toList i) 0) wr) (fun s6 _ => 14 - (intOf s6).toNat)
  case atStart => exact ⟨1, rfl, Nat.le_refl _, by decide, HI.out⟩
  case round =>
    clear HI
    obtain ⟨i, rfl, hi1, hi14, hI⟩ := hrel
    have HI := Lib.hid hI
    clear hI
    by_cases hlt : i < 14
    · have hlt' : (i : Int) < 14 := by omega
      have HW := Lib.hid (fun y => word_any i (by omega) y)
      have hw8 : IntKind.u8.wrap ((i : Int) + 1) = (i : Int) + 1 := by rw [IntKind.wrap_u8']; omega
      have hpc := HI.out.piece HP0.out
      obtain ⟨nm, hnm⟩ : ∃ nm : ByteArray, nm = ⟨(wdN i).toArray⟩ := ⟨_, rfl⟩
      unfold TwoS at HW
      rw [← hnm] at HW
      have HNM := Lib.hid (show nm.data.toList = wdN i by rw [hnm])
      clear hnm
      go_upto_region 7 with (go_at_call 34; refine (HW.out wr).mono ?_; rintro e w2 ⟨rfl, hb2⟩; replace HI := Lib.hid (HI.out.below hb2); clear hb2)
      clear hpc HW
      have hpc := HI.out.piece HP0.out
      by_cases hq : wdN i = p0.data.toList
      · have hqv : (nm.toList == p0.toList) = true := by rw [beq_iff_eq, ByteArray.toList_eq, ByteArray.toList_eq, HNM.out]; exact hq
        have HD := Lib.hid (show wdAt p0.data.toList (i + 1) = i by unfold wdAt; rw [if_pos ⟨hi1, hq⟩])
        clear hq
        obtain ⟨q0, q1, q2, q3, q6, q7, q8, q9, q10⟩ := StpAt.cells HI.out.s
        have hth := thaw_row 0 HI.out.s
        go_upto_region 5 with fail
        have HI2 := HI.out.set (stp0 i 0) 0 (.int .u8 (i : Int)) rfl
        replace HI := Lib.hid HI2
        clear HI2 hth hpc
        clear q0 q1 q2 q3 q6 q7 q8 q9 q10
        generalize w2.setCell ⟨g5, 0, none⟩ (.int .u8 (i : Int)) = w3 at *
        go_wp2
        go_roundw
        case rel => exact ⟨i + 1, (by first | rfl | simp), by omega, hlt, by rw [HD.out]; exact HI.out⟩
        case measure => simp only [intOf]; omega
      · have hqv : (nm.toList == p0.toList) = false := by rw [beq_eq_false_iff_ne, ByteArray.toList_eq, ByteArray.toList_eq, HNM.out]; exact hq
        have HD := Lib.hid (show wdAt p0.data.toList (i + 1) = wdAt p0.data.toList i by conv => lhs; unfold wdAt; rw [if_neg (fun h => hq h.2)])
        clear hq
        go_wp2
        go_roundw
        case rel => exact ⟨i + 1, (by first | rfl | simp), by omega, hlt, by rw [HD.out]; exact HI.out⟩
        case measure => simp only [intOf]; omega
    have hlt' : ¬ (i : Int) < 14 := by omega
    obtain rfl : i = 14 := by omega
    clear hi1 hi14 hlt
    obtain ⟨d, hd⟩ : ∃ d, d = wdAt p0.data.toList 14 := ⟨_, rfl⟩
    rw [← hd] at HI HT
    have hd14 : d ≤ 13 := by rw [hd]; exact wdAt_lt _ 13
    have HD := Lib.hid (And.intro hd hd14)
    have HW := Lib.hid (fun y => word_any d (by omega) y)
    rw [HT.out] at HW
    unfold TwoS at HW
    clear hd hd14
    obtain ⟨f0, f1, f2, f3, f6, f7, f8, f9, f10⟩ := StpAt.cells HI.out.s
    go_upto_region 10 with (go_at_call 34; refine (HW.out _).mono ?_; rintro e w2 ⟨rfl, hb2⟩; replace HI := Lib.hid (HI.out.below hb2); clear hb2)
    clear f0 f1 f2 f3 f6 f7 f8 f9 f10 HW
    have hdn : d ≠ 12 := fun e => by
      have h := HT.out
      rw [e] at h
      revert h
      decide
    have hd12 : ((d : Int) == 12) = false := by rw [beq_eq_false_iff_ne]; omega
    by_cases hm1 : 1 ≤ m
    · have hg1 : (m : Int) + 1 > 1 := by omega
      by_cases hm2 : 2 ≤ m
      · have hg2 : (m : Int) + 1 > 2 := by omega
        have f0 : World.cell? _ ⟨g5, 0, none⟩ = some (.int .u8 (d : Int)) := (StpAt.cells HI.out.s).1
        go_upto_region 35 with fail
        clear f0
        obtain ⟨SF, hSF⟩ : ∃ SF : StpV, SF = (stp0 d 0) := ⟨_, rfl⟩
        rw [← hSF] at HI
        have HSF := Lib.hid (show SF = stepW (splL 32 x.data.toList) by
          rw [hSF]
          unfold stepW
          rw [HW0.out, ← HD.out.1, HT.out]
          have eA : stA [] (splL 32 x.data.toList) (stp0 d 0) = (stp0 d 0) := by
            unfold stA
            rw [if_neg (by rintro ⟨_, q⟩; exact q rfl)]
          rw [eA]
          have eB : stB [] (splL 32 x.data.toList) (stp0 d 0) = (stp0 d 0) := by
            unfold stB
            rw [if_neg (by rintro ⟨_, q⟩; revert q; decide)]
          rw [eB]
          have eK : stK [] (splL 32 x.data.toList) (stp0 d 0) = (stp0 d 0) := by
            unfold stK
            rw [if_neg (by decide)]
          rw [eK]
          unfold stC
          rw [if_neg (fun q => hdn q.1)])
        clear hSF
        have hof := step_ok (splL 32 x.data.toList) (fun p hp => by
          have h1 := HPB.out.1
          rw [← h1] at hp
          obtain ⟨q, hq, rfl⟩ := List.mem_map.1 hp
          have h2 := HSZ.out q hq
          have h3 := HXS.out
          have h4 : q.data.toList.length = q.size := Array.length_toList
          omega)
        rw [← HSF.out] at hof
        have HOK := Lib.hid hof
        clear hof
        have HSAY := Lib.hid (fun y => say31_any SF HOK.out.1 HOK.out.2 y)
        have HR := Lib.hid (range_row HI.out.s)
        go_upto_region 36 with (first
          | (with_reducible refine wpList_load_mid rfl 39 _ rfl g5 0 rfl (stpC SF) _ HR.out Tryd.underlying39 rfl (stpC_size SF) ?_)
          | (go_at_call 20; refine (HSAY.out _).mono ?_; rintro e w9 ⟨hb9, X, rfl, hX, hXz⟩; replace HI := Lib.hid (HI.out.below hb9); have HXX := Lib.hid hX; clear hb9 hX hXz))
        clear HR HSAY
        have HR := Lib.hid (range_row HI.out.s)
        cases hR : sayL SF with
        | none =>
          have HN := Lib.hid (fin_no HSF.out (by rw [hR]; exact fun e => by cases e))
          clear hR
          simp only [Option.isSome_none]
          go_wp2_with (first
            | (with_reducible refine wpList_load_mid rfl 39 _ rfl g5 0 rfl (stpC SF) _ HR.out Tryd.underlying39 rfl (stpC_size SF) ?_)
            | ((with_reducible refine wpList_store_mid rfl 39 _ _ rfl w.heap.size 0 _ rfl rfl ?_ ?_ ?_ ?_); exact there_row (cs := stpC (stp0 0 0)) HI.out.z; exact stpC_size SF; exact all_oneCell_toArray (stpC_one SF)))
          change bodyPost _ _ _ _ _ (w9.setCells w.heap.size 0 (stpC SF))
          have hza : StpAt (w9.setCells w.heap.size 0 (stpC SF)) w.heap.size SF := by rw [st_eq]; exact rowSt_row (stpC SF) [] (stpC (stp0 0 0)) w9 HI.out.z rfl
          have hzb : Below w.heap.size w (w9.setCells w.heap.size 0 (stpC SF)) := by rw [st_eq]; exact rowSt_below (g := w.heap.size) (n := w.heap.size) (Nat.le_refl _) (stpC SF) 0 _ HI.out.bel
          have HZ9 := Lib.hid (And.intro hza hzb)
          clear hza hzb
          generalize w9.setCells w.heap.size 0 (stpC SF) = wz at *
          refine bodyPost_ret (v := .tuple #[stpV SF, .bool false]) (by simp [results, Tryd.results23, show (asAddr (Value.pointer (some ⟨w.heap.size, 0, none⟩))).run Tryd.prog wz = .ok ⟨w.heap.size, 0, none⟩ wz from rfl, stp_loadVar HZ9.out.1]) rfl ?_
          exact .bad HZ9.out.2 HN.out _
        | some l =>
          obtain rfl := HXX.out l hR
          have hxe : (l == x.toList) = decide (l = x.data.toList) := by rw [Bool.eq_iff_iff, beq_iff_eq, decide_eq_true_iff, ByteArray.toList_eq]
          simp only [Option.isSome_some]
          by_cases hl : l = x.data.toList
          · have HY := Lib.hid (fin_yes HOK.out.1 (by rw [hR, hl]))
            rw [decide_eq_true hl] at hxe
            clear hR hl
            go_wp2_with (first
              | (with_reducible refine wpList_load_mid rfl 39 _ rfl g5 0 rfl (stpC SF) _ HR.out Tryd.underlying39 rfl (stpC_size SF) ?_)
              | ((with_reducible refine wpList_store_mid rfl 39 _ _ rfl w.heap.size 0 _ rfl rfl ?_ ?_ ?_ ?_); exact there_row (cs := stpC (stp0 0 0)) HI.out.z; exact stpC_size SF; exact all_oneCell_toArray (stpC_one SF)))
            change bodyPost _ _ _ _ _ (w9.setCells w.heap.size 0 (stpC SF))
            have hza : StpAt (w9.setCells w.heap.size 0 (stpC SF)) w.heap.size SF := by rw [st_eq]; exact rowSt_row (stpC SF) [] (stpC (stp0 0 0)) w9 HI.out.z rfl
            have hzb : Below w.heap.size w (w9.setCells w.heap.size 0 (stpC SF)) := by rw [st_eq]; exact rowSt_below (g := w.heap.size) (n := w.heap.size) (Nat.le_refl _) (stpC SF) 0 _ HI.out.bel
            have HZ9 := Lib.hid (And.intro hza hzb)
            clear hza hzb
            generalize w9.setCells w.heap.size 0 (stpC SF) = wz at *
            refine bodyPost_ret (v := .tuple #[stpV SF, .bool true]) (by simp [results, Tryd.results23, show (asAddr (Value.pointer (some ⟨w.heap.size, 0, none⟩))).run Tryd.prog wz = .ok ⟨w.heap.size, 0, none⟩ wz from rfl, stp_loadVar HZ9.out.1]) rfl ?_
            exact .good HZ9.out.2 HY.out
          · have HN := Lib.hid (fin_no HSF.out (by rw [hR]; intro e; exact hl (Option.some.inj e)))
            rw [decide_eq_false hl] at hxe
            clear hR hl
            go_wp2_with (first
              | (with_reducible refine wpList_load_mid rfl 39 _ rfl g5 0 rfl (stpC SF) _ HR.out Tryd.underlying39 rfl (stpC_size SF) ?_)
              | ((with_reducible refine wpList_store_mid rfl 39 _ _ rfl w.heap.size 0 _ rfl rfl ?_ ?_ ?_ ?_); exact there_row (cs := stpC (stp0 0 0)) HI.out.z; exact stpC_size SF; exact all_oneCell_toArray (stpC_one SF)))
            change bodyPost _ _ _ _ _ (w9.setCells w.heap.size 0 (stpC SF))
            have hza : StpAt (w9.setCells w.heap.size 0 (stpC SF)) w.heap.size SF := by rw [st_eq]; exact rowSt_row (stpC SF) [] (stpC (stp0 0 0)) w9 HI.out.z rfl
            have hzb : Below w.heap.size w (w9.setCells w.heap.size 0 (stpC SF)) := by rw [st_eq]; exact rowSt_below (g := w.heap.size) (n := w.heap.size) (Nat.le_refl _) (stpC SF) 0 _ HI.out.bel
            have HZ9 := Lib.hid (And.intro hza hzb)
            clear hza hzb
            generalize w9.setCells w.heap.size 0 (stpC SF) = wz at *
            refine bodyPost_ret (v := .tuple #[stpV SF, .bool false]) (by simp [results, Tryd.results23, show (asAddr (Value.pointer (some ⟨w.heap.size, 0, none⟩))).run Tryd.prog wz = .ok ⟨w.heap.size, 0, none⟩ wz from rfl, stp_loadVar HZ9.out.1]) rfl ?_
            exact .bad HZ9.out.2 HN.out _
      · have hg2 : ¬ ((m : Int) + 1 > 2) := by omega
        have f0 : World.cell? _ ⟨g5, 0, none⟩ = some (.int .u8 (d : Int)) := (StpAt.cells HI.out.s).1
        go_upto_region 35 with fail
        clear f0
        obtain ⟨SF, hSF⟩ : ∃ SF : StpV, SF = (stp0 d 0) := ⟨_, rfl⟩
        rw [← hSF] at HI
        have HSF := Lib.hid (show SF = stepW (splL 32 x.data.toList) by
          rw [hSF]
          unfold stepW
          rw [HW0.out, ← HD.out.1, HT.out]
          have eA : stA [] (splL 32 x.data.toList) (stp0 d 0) = (stp0 d 0) := by
            unfold stA
            rw [if_neg (by rintro ⟨_, q⟩; exact q rfl)]
          rw [eA]
          have eB : stB [] (splL 32 x.data.toList) (stp0 d 0) = (stp0 d 0) := by
            unfold stB
            rw [if_neg (by rintro ⟨_, q⟩; revert q; decide)]
          rw [eB]
          have eK : stK [] (splL 32 x.data.toList) (stp0 d 0) = (stp0 d 0) := by
            unfold stK
            rw [if_neg (by decide)]
          rw [eK]
          unfold stC
          rw [if_neg (fun q => hdn q.1)])
        clear hSF
        have hof := step_ok (splL 32 x.data.toList) (fun p hp => by
          have h1 := HPB.out.1
          rw [← h1] at hp
          obtain ⟨q, hq, rfl⟩ := List.mem_map.1 hp
          have h2 := HSZ.out q hq
          have h3 := HXS.out
          have h4 : q.data.toList.length = q.size := Array.length_toList
          omega)
        rw [← HSF.out] at hof
        have HOK := Lib.hid hof
        clear hof
        have HSAY := Lib.hid (fun y => say31_any SF HOK.out.1 HOK.out.2 y)
        have HR := Lib.hid (range_row HI.out.s)
        go_upto_region 36 with (first
          | (with_reducible refine wpList_load_mid rfl 39 _ rfl g5 0 rfl (stpC SF) _ HR.out Tryd.underlying39 rfl (stpC_size SF) ?_)
          | (go_at_call 20; refine (HSAY.out _).mono ?_; rintro e w9 ⟨hb9, X, rfl, hX, hXz⟩; replace HI := Lib.hid (HI.out.below hb9); have HXX := Lib.hid hX; clear hb9 hX hXz))
        clear HR HSAY
        have HR := Lib.hid (range_row HI.out.s)
        cases hR : sayL SF with
        | none =>
          have HN := Lib.hid (fin_no HSF.out (by rw [hR]; exact fun e => by cases e))
          clear hR
          simp only [Option.isSome_none]
          go_wp2_with (first
            | (with_reducible refine wpList_load_mid rfl 39 _ rfl g5 0 rfl (stpC SF) _ HR.out Tryd.underlying39 rfl (stpC_size SF) ?_)
            | ((with_reducible refine wpList_store_mid rfl 39 _ _ rfl w.heap.size 0 _ rfl rfl ?_ ?_ ?_ ?_); exact there_row (cs := stpC (stp0 0 0)) HI.out.z; exact stpC_size SF; exact all_oneCell_toArray (stpC_one SF)))
          change bodyPost _ _ _ _ _ (w9.setCells w.heap.size 0 (stpC SF))
          have hza : StpAt (w9.setCells w.heap.size 0 (stpC SF)) w.heap.size SF := by rw [st_eq]; exact rowSt_row (stpC SF) [] (stpC (stp0 0 0)) w9 HI.out.z rfl
          have hzb : Below w.heap.size w (w9.setCells w.heap.size 0 (stpC SF)) := by rw [st_eq]; exact rowSt_below (g := w.heap.size) (n := w.heap.size) (Nat.le_refl _) (stpC SF) 0 _ HI.out.bel
          have HZ9 := Lib.hid (And.intro hza hzb)
          clear hza hzb
          generalize w9.setCells w.heap.size 0 (stpC SF) = wz at *
          refine bodyPost_ret (v := .tuple #[stpV SF, .bool false]) (by simp [results, Tryd.results23, show (asAddr (Value.pointer (some ⟨w.heap.size, 0, none⟩))).run Tryd.prog wz = .ok ⟨w.heap.size, 0, none⟩ wz from rfl, stp_loadVar HZ9.out.1]) rfl ?_
          exact .bad HZ9.out.2 HN.out _
        | some l =>
          obtain rfl := HXX.out l hR
          have hxe : (l == x.toList) = decide (l = x.data.toList) := by rw [Bool.eq_iff_iff, beq_iff_eq, decide_eq_true_iff, ByteArray.toList_eq]
          simp only [Option.isSome_some]
          by_cases hl : l = x.data.toList
          · have HY := Lib.hid (fin_yes HOK.out.1 (by rw [hR, hl]))
            rw [decide_eq_true hl] at hxe
            clear hR hl
            go_wp2_with (first
              | (with_reducible refine wpList_load_mid rfl 39 _ rfl g5 0 rfl (stpC SF) _ HR.out Tryd.underlying39 rfl (stpC_size SF) ?_)
              | ((with_reducible refine wpList_store_mid rfl 39 _ _ rfl w.heap.size 0 _ rfl rfl ?_ ?_ ?_ ?_); exact there_row (cs := stpC (stp0 0 0)) HI.out.z; exact stpC_size SF; exact all_oneCell_toArray (stpC_one SF)))
            change bodyPost _ _ _ _ _ (w9.setCells w.heap.size 0 (stpC SF))
            have hza : StpAt (w9.setCells w.heap.size 0 (stpC SF)) w.heap.size SF := by rw [st_eq]; exact rowSt_row (stpC SF) [] (stpC (stp0 0 0)) w9 HI.out.z rfl
            have hzb : Below w.heap.size w (w9.setCells w.heap.size 0 (stpC SF)) := by rw [st_eq]; exact rowSt_below (g := w.heap.size) (n := w.heap.size) (Nat.le_refl _) (stpC SF) 0 _ HI.out.bel
            have HZ9 := Lib.hid (And.intro hza hzb)
            clear hza hzb
            generalize w9.setCells w.heap.size 0 (stpC SF) = wz at *
            refine bodyPost_ret (v := .tuple #[stpV SF, .bool true]) (by simp [results, Tryd.results23, show (asAddr (Value.pointer (some ⟨w.heap.size, 0, none⟩))).run Tryd.prog wz = .ok ⟨w.heap.size, 0, none⟩ wz from rfl, stp_loadVar HZ9.out.1]) rfl ?_
            exact .good HZ9.out.2 HY.out
          · have HN := Lib.hid (fin_no HSF.out (by rw [hR]; intro e; exact hl (Option.some.inj e)))
            rw [decide_eq_false hl] at hxe
            clear hR hl
            go_wp2_with (first
              | (with_reducible refine wpList_load_mid rfl 39 _ rfl g5 0 rfl (stpC SF) _ HR.out Tryd.underlying39 rfl (stpC_size SF) ?_)
              | ((with_reducible refine wpList_store_mid rfl 39 _ _ rfl w.heap.size 0 _ rfl rfl ?_ ?_ ?_ ?_); exact there_row (cs := stpC (stp0 0 0)) HI.out.z; exact stpC_size SF; exact all_oneCell_toArray (stpC_one SF)))
            change bodyPost _ _ _ _ _ (w9.setCells w.heap.size 0 (stpC SF))
            have hza : StpAt (w9.setCells w.heap.size 0 (stpC SF)) w.heap.size SF := by rw [st_eq]; exact rowSt_row (stpC SF) [] (stpC (stp0 0 0)) w9 HI.out.z rfl
            have hzb : Below w.heap.size w (w9.setCells w.heap.size 0 (stpC SF)) := by rw [st_eq]; exact rowSt_below (g := w.heap.size) (n := w.heap.size) (Nat.le_refl _) (stpC SF) 0 _ HI.out.bel
            have HZ9 := Lib.hid (And.intro hza hzb)
            clear hza hzb
            generalize w9.setCells w.heap.size 0 (stpC SF) = wz at *
            refine bodyPost_ret (v := .tuple #[stpV SF, .bool false]) (by simp [results, Tryd.results23, show (asAddr (Value.pointer (some ⟨w.heap.size, 0, none⟩))).run Tryd.prog wz = .ok ⟨w.heap.size, 0, none⟩ wz from rfl, stp_loadVar HZ9.out.1]) rfl ?_
            exact .bad HZ9.out.2 HN.out _
    · have hg1 : ¬ ((m : Int) + 1 > 1) := by omega
      have hg2 : ¬ ((m : Int) + 1 > 2) := by omega
      have f0 : World.cell? _ ⟨g5, 0, none⟩ = some (.int .u8 (d : Int)) := (StpAt.cells HI.out.s).1
      go_upto_region 35 with fail
      clear f0
      obtain ⟨SF, hSF⟩ : ∃ SF : StpV, SF = (stp0 d 0) := ⟨_, rfl⟩
      rw [← hSF] at HI
      have HSF := Lib.hid (show SF = stepW (splL 32 x.data.toList) by
        rw [hSF]
        unfold stepW
        rw [HW0.out, ← HD.out.1, HT.out]
        have eA : stA [] (splL 32 x.data.toList) (stp0 d 0) = (stp0 d 0) := by
          unfold stA
          rw [if_neg (by rintro ⟨_, q⟩; exact q rfl)]
        rw [eA]
        have eB : stB [] (splL 32 x.data.toList) (stp0 d 0) = (stp0 d 0) := by
          unfold stB
          rw [if_neg (by rintro ⟨_, q⟩; revert q; decide)]
        rw [eB]
        have eK : stK [] (splL 32 x.data.toList) (stp0 d 0) = (stp0 d 0) := by
          unfold stK
          rw [if_neg (by decide)]
        rw [eK]
        unfold stC
        rw [if_neg (fun q => hdn q.1)])
      clear hSF
      have hof := step_ok (splL 32 x.data.toList) (fun p hp => by
        have h1 := HPB.out.1
        rw [← h1] at hp
        obtain ⟨q, hq, rfl⟩ := List.mem_map.1 hp
        have h2 := HSZ.out q hq
        have h3 := HXS.out
        have h4 : q.data.toList.length = q.size := Array.length_toList
        omega)
      rw [← HSF.out] at hof
      have HOK := Lib.hid hof
      clear hof
      have HSAY := Lib.hid (fun y => say31_any SF HOK.out.1 HOK.out.2 y)
      have HR := Lib.hid (range_row HI.out.s)
      go_upto_region 36 with (first
        | (with_reducible refine wpList_load_mid rfl 39 _ rfl g5 0 rfl (stpC SF) _ HR.out Tryd.underlying39 rfl (stpC_size SF) ?_)
        | (go_at_call 20; refine (HSAY.out _).mono ?_; rintro e w9 ⟨hb9, X, rfl, hX, hXz⟩; replace HI := Lib.hid (HI.out.below hb9); have HXX := Lib.hid hX; clear hb9 hX hXz))
      clear HR HSAY
      have HR := Lib.hid (range_row HI.out.s)
      cases hR : sayL SF with
      | none =>
        have HN := Lib.hid (fin_no HSF.out (by rw [hR]; exact fun e => by cases e))
        clear hR
        simp only [Option.isSome_none]
        go_wp2_with (first
          | (with_reducible refine wpList_load_mid rfl 39 _ rfl g5 0 rfl (stpC SF) _ HR.out Tryd.underlying39 rfl (stpC_size SF) ?_)
          | ((with_reducible refine wpList_store_mid rfl 39 _ _ rfl w.heap.size 0 _ rfl rfl ?_ ?_ ?_ ?_); exact there_row (cs := stpC (stp0 0 0)) HI.out.z; exact stpC_size SF; exact all_oneCell_toArray (stpC_one SF)))
        change bodyPost _ _ _ _ _ (w9.setCells w.heap.size 0 (stpC SF))
        have hza : StpAt (w9.setCells w.heap.size 0 (stpC SF)) w.heap.size SF := by rw [st_eq]; exact rowSt_row (stpC SF) [] (stpC (stp0 0 0)) w9 HI.out.z rfl
        have hzb : Below w.heap.size w (w9.setCells w.heap.size 0 (stpC SF)) := by rw [st_eq]; exact rowSt_below (g := w.heap.size) (n := w.heap.size) (Nat.le_refl _) (stpC SF) 0 _ HI.out.bel
        have HZ9 := Lib.hid (And.intro hza hzb)
        clear hza hzb
        generalize w9.setCells w.heap.size 0 (stpC SF) = wz at *
        refine bodyPost_ret (v := .tuple #[stpV SF, .bool false]) (by simp [results, Tryd.results23, show (asAddr (Value.pointer (some ⟨w.heap.size, 0, none⟩))).run Tryd.prog wz = .ok ⟨w.heap.size, 0, none⟩ wz from rfl, stp_loadVar HZ9.out.1]) rfl ?_
        exact .bad HZ9.out.2 HN.out _
      | some l =>
        obtain rfl := HXX.out l hR
        have hxe : (l == x.toList) = decide (l = x.data.toList) := by rw [Bool.eq_iff_iff, beq_iff_eq, decide_eq_true_iff, ByteArray.toList_eq]
        simp only [Option.isSome_some]
        by_cases hl : l = x.data.toList
        · have HY := Lib.hid (fin_yes HOK.out.1 (by rw [hR, hl]))
          rw [decide_eq_true hl] at hxe
          clear hR hl
          go_wp2_with (first
            | (with_reducible refine wpList_load_mid rfl 39 _ rfl g5 0 rfl (stpC SF) _ HR.out Tryd.underlying39 rfl (stpC_size SF) ?_)
            | ((with_reducible refine wpList_store_mid rfl 39 _ _ rfl w.heap.size 0 _ rfl rfl ?_ ?_ ?_ ?_); exact there_row (cs := stpC (stp0 0 0)) HI.out.z; exact stpC_size SF; exact all_oneCell_toArray (stpC_one SF)))
          change bodyPost _ _ _ _ _ (w9.setCells w.heap.size 0 (stpC SF))
          have hza : StpAt (w9.setCells w.heap.size 0 (stpC SF)) w.heap.size SF := by rw [st_eq]; exact rowSt_row (stpC SF) [] (stpC (stp0 0 0)) w9 HI.out.z rfl
          have hzb : Below w.heap.size w (w9.setCells w.heap.size 0 (stpC SF)) := by rw [st_eq]; exact rowSt_below (g := w.heap.size) (n := w.heap.size) (Nat.le_refl _) (stpC SF) 0 _ HI.out.bel
          have HZ9 := Lib.hid (And.intro hza hzb)
          clear hza hzb
          generalize w9.setCells w.heap.size 0 (stpC SF) = wz at *
          refine bodyPost_ret (v := .tuple #[stpV SF, .bool true]) (by simp [results, Tryd.results23, show (asAddr (Value.pointer (some ⟨w.heap.size, 0, none⟩))).run Tryd.prog wz = .ok ⟨w.heap.size, 0, none⟩ wz from rfl, stp_loadVar HZ9.out.1]) rfl ?_
          exact .good HZ9.out.2 HY.out
        · have HN := Lib.hid (fin_no HSF.out (by rw [hR]; intro e; exact hl (Option.some.inj e)))
          rw [decide_eq_false hl] at hxe
          clear hR hl
          go_wp2_with (first
            | (with_reducible refine wpList_load_mid rfl 39 _ rfl g5 0 rfl (stpC SF) _ HR.out Tryd.underlying39 rfl (stpC_size SF) ?_)
            | ((with_reducible refine wpList_store_mid rfl 39 _ _ rfl w.heap.size 0 _ rfl rfl ?_ ?_ ?_ ?_); exact there_row (cs := stpC (stp0 0 0)) HI.out.z; exact stpC_size SF; exact all_oneCell_toArray (stpC_one SF)))
          change bodyPost _ _ _ _ _ (w9.setCells w.heap.size 0 (stpC SF))
          have hza : StpAt (w9.setCells w.heap.size 0 (stpC SF)) w.heap.size SF := by rw [st_eq]; exact rowSt_row (stpC SF) [] (stpC (stp0 0 0)) w9 HI.out.z rfl
          have hzb : Below w.heap.size w (w9.setCells w.heap.size 0 (stpC SF)) := by rw [st_eq]; exact rowSt_below (g := w.heap.size) (n := w.heap.size) (Nat.le_refl _) (stpC SF) 0 _ HI.out.bel
          have HZ9 := Lib.hid (And.intro hza hzb)
          clear hza hzb
          generalize w9.setCells w.heap.size 0 (stpC SF) = wz at *
          refine bodyPost_ret (v := .tuple #[stpV SF, .bool false]) (by simp [results, Tryd.results23, show (asAddr (Value.pointer (some ⟨w.heap.size, 0, none⟩))).run Tryd.prog wz = .ok ⟨w.heap.size, 0, none⟩ wz from rfl, stp_loadVar HZ9.out.1]) rfl ?_
          exact .bad HZ9.out.2 HN.out _
set_option maxRecDepth 100000 in
set_option maxHeartbeats 16000000 in
theorem step_a (x : ByteArray) (hxs : x.size ≤ 30000) (hT : wdT (wdAt ((splL 32 x.data.toList).headD []) 14) = [65]) (w : World) : Calls Tryd.prog 23 #[.string x] w (ReadR (rdL x.data.toList) w) := by
  obtain ⟨q0, rs, hq⟩ := pcs_cons 32 x
  have hpb := pcs_back 32 x
  have HSP := Lib.hid (fun y => split31_any 32 x (by omega) y)
  have HSZ := Lib.hid (fun (p : ByteArray) (hq : p ∈ pcsB 32 x) => pcs_size hq)
  obtain ⟨ps, hps⟩ : ∃ ps, ps = pcsB 32 x := ⟨_, rfl⟩
  rw [← hps] at hpb HSP HSZ hq
  have hpb1 := congrArg List.length hpb
  rw [List.length_map] at hpb1
  obtain ⟨m, hm⟩ : ∃ m, m + 1 = ps.length := ⟨rs.length, by rw [hq]; rfl⟩
  rw [← hm] at hpb1
  unfold SplR at HSP
  rw [← hm] at HSP
  have HPB := Lib.hid (And.intro hpb (And.intro hpb1.symm hm.symm))
  obtain ⟨p0, hp0⟩ : ∃ p0, ps[0]? = some p0 := ⟨q0, by rw [hq]; rfl⟩
  have HP0 := Lib.hid hp0
  have hw0 : (splL 32 x.data.toList).headD [] = p0.data.toList := by rw [← hpb, hq] ; rw [hq] at hp0; cases hp0; rfl
  rw [hw0] at hT
  have HW0 := Lib.hid hw0
  have HT := Lib.hid hT
  have HGT := Lib.hid (show ∀ j, j < m + 1 → ∃ p, ps[j]? = some p ∧ p.data.toList = (splL 32 x.data.toList).getD j [] ∧ p.size ≤ x.size from fun j hj => by
    have h1 : ps[j]? = some (ps[j]'(by omega)) := List.getElem?_eq_getElem (by omega)
    refine ⟨_, h1, ?_, HSZ.out _ (List.getElem_mem _)⟩
    rw [← hpb, List.getD, List.getElem?_map, h1]
    rfl)
  have hml : m ≤ 30001 := by
    have h1 := pcs_many 32 x
    rw [← hps, ← hm] at h1
    omega
  have HML := Lib.hid hml
  have hb0 := (Below.refl w.heap.size w).alloc (Nat.le_refl _) (.cells (stpC (stp0 0 0)).toArray 39)
  have hG0 : StpAt (w.alloc (.cells (stpC (stp0 0 0)).toArray 39)) w.heap.size (stp0 0 0) := heap_alloc_new _ _
  have H0 := Lib.hid (And.intro hb0 hG0)
  have HXS := Lib.hid hxs
  clear hpb hpb1 hps hq hm hp0 hw0 hT hml hb0 hG0 hxs
  go_enter Tryd.func23, Tryd.ntmps23
  go_upto_region 1 with fail
  change Code.wp _ _ _ _ (w.alloc (.cells (stpC (stp0 0 0)).toArray 39))
  generalize w.alloc (.cells (stpC (stp0 0 0)).toArray 39) = wa at *
  go_upto_region 2 with (go_at_call 22; refine (HSP.out wa).mono ?_; rintro e wb ⟨g, cap, rfl, hps, hb1⟩; have H1 := Lib.hid (And.intro (H0.out.1.trans (hb1.mono H0.out.1.size)) (And.intro (H0.out.2.below hb1) hps)); clear hb1 hps)
  clear H0 HSP
  go_upto_region 4 with fail
  change Code.wp _ _ _ _ (wb.alloc (.cells (stpC (stp0 0 0)).toArray 39))
  have hb2 := (Below.refl wb.heap.size wb).alloc (Nat.le_refl _) (.cells (stpC (stp0 0 0)).toArray 39)
  have HI := Lib.hid (show StI w w.heap.size g wb.heap.size ps (stp0 0 0) (wb.alloc (.cells (stpC (stp0 0 0)).toArray 39)) from ⟨H1.out.2.1.below hb2, H1.out.2.2.below hb2, heap_alloc_new _ _, H1.out.1.trans (hb2.mono H1.out.1.size), Nat.le_refl _, H1.out.2.1.lt, H1.out.2.2.lt⟩)
  generalize wb.alloc (.cells (stpC (stp0 0 0)).toArray 39) = wc at *
  generalize wb.heap.size = g5 at *
  clear hb2 H1
  go_loopw [6] (fun s6 wr => ∃ i : Nat, s6 = .int .u8 (i : Int) ∧ 1 ≤ i ∧ i ≤ 14 ∧ StI w w.heap.size g g5 ps (stp0 (wdAt p0.data.toList i) 0) wr) (fun s6 _ => 14 - (intOf s6).toNat)
  case atStart => exact ⟨1, rfl, Nat.le_refl _, by decide, HI.out⟩
  case round =>
    clear HI
    obtain ⟨i, rfl, hi1, hi14, hI⟩ := hrel
    have HI := Lib.hid hI
    clear hI
    by_cases hlt : i < 14
    · have hlt' : (i : Int) < 14 := by omega
      have HW := Lib.hid (fun y => word_any i (by omega) y)
      have hw8 : IntKind.u8.wrap ((i : Int) + 1) = (i : Int) + 1 := by rw [IntKind.wrap_u8']; omega
      have hpc := HI.out.piece HP0.out
      obtain ⟨nm, hnm⟩ : ∃ nm : ByteArray, nm = ⟨(wdN i).toArray⟩ := ⟨_, rfl⟩
      unfold TwoS at HW
      rw [← hnm] at HW
      have HNM := Lib.hid (show nm.data.toList = wdN i by rw [hnm])
      clear hnm
      go_upto_region 7 with (go_at_call 34; refine (HW.out wr).mono ?_; rintro e w2 ⟨rfl, hb2⟩; replace HI := Lib.hid (HI.out.below hb2); clear hb2)
      clear hpc HW
      have hpc := HI.out.piece HP0.out
      by_cases hq : wdN i = p0.data.toList
      · have hqv : (nm.toList == p0.toList) = true := by rw [beq_iff_eq, ByteArray.toList_eq, ByteArray.toList_eq, HNM.out]; exact hq
        have HD := Lib.hid (show wdAt p0.data.toList (i + 1) = i by unfold wdAt; rw [if_pos ⟨hi1, hq⟩])
        clear hq
        obtain ⟨q0, q1, q2, q3, q6, q7, q8, q9, q10⟩ := StpAt.cells HI.out.s
        have hth := thaw_row 0 HI.out.s
        go_upto_region 5 with fail
        have HI2 := HI.out.set (stp0 i 0) 0 (.int .u8 (i : Int)) rfl
        replace HI := Lib.hid HI2
        clear HI2 hth hpc
        clear q0 q1 q2 q3 q6 q7 q8 q9 q10
        generalize w2.setCell ⟨g5, 0, none⟩ (.int .u8 (i : Int)) = w3 at *
        go_wp2
        go_roundw
        case rel => exact ⟨i + 1, (by first | rfl | simp), by omega, hlt, by rw [HD.out]; exact HI.out⟩
        case measure => simp only [intOf]; omega
      · have hqv : (nm.toList == p0.toList) = false := by rw [beq_eq_false_iff_ne, ByteArray.toList_eq, ByteArray.toList_eq, HNM.out]; exact hq
        have HD := Lib.hid (show wdAt p0.data.toList (i + 1) = wdAt p0.data.toList i by conv => lhs; unfold wdAt; rw [if_neg (fun h => hq h.2)])
        clear hq
        go_wp2
        go_roundw
        case rel => exact ⟨i + 1, (by first | rfl | simp), by omega, hlt, by rw [HD.out]; exact HI.out⟩
        case measure => simp only [intOf]; omega
    have hlt' : ¬ (i : Int) < 14 := by omega
    obtain rfl : i = 14 := by omega
    clear hi1 hi14 hlt
    obtain ⟨d, hd⟩ : ∃ d, d = wdAt p0.data.toList 14 := ⟨_, rfl⟩
    rw [← hd] at HI HT
    have hd14 : d ≤ 13 := by rw [hd]; exact wdAt_lt _ 13
    have HD := Lib.hid (And.intro hd hd14)
    have HW := Lib.hid (fun y => word_any d (by omega) y)
    rw [HT.out] at HW
    unfold TwoS at HW
    clear hd hd14
    obtain ⟨f0, f1, f2, f3, f6, f7, f8, f9, f10⟩ := StpAt.cells HI.out.s
    go_upto_region 10 with (go_at_call 34; refine (HW.out _).mono ?_; rintro e w2 ⟨rfl, hb2⟩; replace HI := Lib.hid (HI.out.below hb2); clear hb2)
    clear f0 f1 f2 f3 f6 f7 f8 f9 f10 HW
    have hdn : d ≠ 12 := fun e => by
      have h := HT.out
      rw [e] at h
      revert h
      decide
    have hd12 : ((d : Int) == 12) = false := by rw [beq_eq_false_iff_ne]; omega
    by_cases hm1 : 1 ≤ m
    · have hg1 : (m : Int) + 1 > 1 := by omega
      by_cases hm2 : 2 ≤ m
      · have hg2 : (m : Int) + 1 > 2 := by omega
        obtain ⟨p1, hp1, ht1, hz1⟩ := HGT.out 1 (by omega)
        have HP1 := Lib.hid (And.intro hp1 ht1)
        have HC1 := Lib.hid (fun y => small31_any p1 (by have := HXS.out; omega) y)
        clear hp1 ht1 hz1
        go_upto_region 11 with fail
        have hpc := HI.out.piece HP1.out.1
        obtain ⟨q0, q1, q2, q3, q6, q7, q8, q9, q10⟩ := StpAt.cells HI.out.s
        have hth := thaw_row 1 HI.out.s
        go_upto_region 12 with (go_at_call 40; refine (HC1.out _).mono ?_; rintro e v1 ⟨⟨bb, rfl⟩, rfl⟩)
        have HI2 := HI.out.set { (stp0 d 0) with a := smV p1.data.toList } 1 (.int .u8 (smV p1.data.toList : Int)) rfl
        replace HI := Lib.hid HI2
        clear HI2 hth hpc HC1
        clear q0 q1 q2 q3 q6 q7 q8 q9 q10
        generalize World.setCell _ ⟨g5, 1, none⟩ (.int .u8 (smV p1.data.toList : Int)) = wn1 at *
        have f0 : World.cell? _ ⟨g5, 0, none⟩ = some (.int .u8 (d : Int)) := (StpAt.cells HI.out.s).1
        go_upto_region 35 with fail
        clear f0
        obtain ⟨SF, hSF⟩ : ∃ SF : StpV, SF = { (stp0 d 0) with a := smV p1.data.toList } := ⟨_, rfl⟩
        rw [← hSF] at HI
        have HSF := Lib.hid (show SF = stepW (splL 32 x.data.toList) by
          rw [hSF]
          unfold stepW
          rw [HW0.out, ← HD.out.1, HT.out]
          have eA : stA [65] (splL 32 x.data.toList) (stp0 d 0) = { (stp0 d 0) with a := smV p1.data.toList } := by
            unfold stA
            rw [if_pos (by rw [HPB.out.2.1]; exact ⟨by omega, by decide⟩)]
            rw [← HP1.out.2]
          rw [eA]
          have eB : stB [65] (splL 32 x.data.toList) { (stp0 d 0) with a := smV p1.data.toList } = { (stp0 d 0) with a := smV p1.data.toList } := by
            unfold stB
            rw [if_neg (by rintro ⟨_, q⟩; revert q; decide)]
          rw [eB]
          have eK : stK [65] (splL 32 x.data.toList) { (stp0 d 0) with a := smV p1.data.toList } = { (stp0 d 0) with a := smV p1.data.toList } := by
            unfold stK
            rw [if_neg (by decide)]
          rw [eK]
          unfold stC
          rw [if_neg (fun q => hdn q.1)])
        clear hSF
        have hof := step_ok (splL 32 x.data.toList) (fun p hp => by
          have h1 := HPB.out.1
          rw [← h1] at hp
          obtain ⟨q, hq, rfl⟩ := List.mem_map.1 hp
          have h2 := HSZ.out q hq
          have h3 := HXS.out
          have h4 : q.data.toList.length = q.size := Array.length_toList
          omega)
        rw [← HSF.out] at hof
        have HOK := Lib.hid hof
        clear hof
        have HSAY := Lib.hid (fun y => say31_any SF HOK.out.1 HOK.out.2 y)
        have HR := Lib.hid (range_row HI.out.s)
        go_upto_region 36 with (first
          | (with_reducible refine wpList_load_mid rfl 39 _ rfl g5 0 rfl (stpC SF) _ HR.out Tryd.underlying39 rfl (stpC_size SF) ?_)
          | (go_at_call 20; refine (HSAY.out _).mono ?_; rintro e w9 ⟨hb9, X, rfl, hX, hXz⟩; replace HI := Lib.hid (HI.out.below hb9); have HXX := Lib.hid hX; clear hb9 hX hXz))
        clear HR HSAY
        have HR := Lib.hid (range_row HI.out.s)
        cases hR : sayL SF with
        | none =>
          have HN := Lib.hid (fin_no HSF.out (by rw [hR]; exact fun e => by cases e))
          clear hR
          simp only [Option.isSome_none]
          go_wp2_with (first
            | (with_reducible refine wpList_load_mid rfl 39 _ rfl g5 0 rfl (stpC SF) _ HR.out Tryd.underlying39 rfl (stpC_size SF) ?_)
            | ((with_reducible refine wpList_store_mid rfl 39 _ _ rfl w.heap.size 0 _ rfl rfl ?_ ?_ ?_ ?_); exact there_row (cs := stpC (stp0 0 0)) HI.out.z; exact stpC_size SF; exact all_oneCell_toArray (stpC_one SF)))
          change bodyPost _ _ _ _ _ (w9.setCells w.heap.size 0 (stpC SF))
          have hza : StpAt (w9.setCells w.heap.size 0 (stpC SF)) w.heap.size SF := by rw [st_eq]; exact rowSt_row (stpC SF) [] (stpC (stp0 0 0)) w9 HI.out.z rfl
          have hzb : Below w.heap.size w (w9.setCells w.heap.size 0 (stpC SF)) := by rw [st_eq]; exact rowSt_below (g := w.heap.size) (n := w.heap.size) (Nat.le_refl _) (stpC SF) 0 _ HI.out.bel
          have HZ9 := Lib.hid (And.intro hza hzb)
          clear hza hzb
          generalize w9.setCells w.heap.size 0 (stpC SF) = wz at *
          refine bodyPost_ret (v := .tuple #[stpV SF, .bool false]) (by simp [results, Tryd.results23, show (asAddr (Value.pointer (some ⟨w.heap.size, 0, none⟩))).run Tryd.prog wz = .ok ⟨w.heap.size, 0, none⟩ wz from rfl, stp_loadVar HZ9.out.1]) rfl ?_
          exact .bad HZ9.out.2 HN.out _
        | some l =>
          obtain rfl := HXX.out l hR
          have hxe : (l == x.toList) = decide (l = x.data.toList) := by rw [Bool.eq_iff_iff, beq_iff_eq, decide_eq_true_iff, ByteArray.toList_eq]
          simp only [Option.isSome_some]
          by_cases hl : l = x.data.toList
          · have HY := Lib.hid (fin_yes HOK.out.1 (by rw [hR, hl]))
            rw [decide_eq_true hl] at hxe
            clear hR hl
            go_wp2_with (first
              | (with_reducible refine wpList_load_mid rfl 39 _ rfl g5 0 rfl (stpC SF) _ HR.out Tryd.underlying39 rfl (stpC_size SF) ?_)
              | ((with_reducible refine wpList_store_mid rfl 39 _ _ rfl w.heap.size 0 _ rfl rfl ?_ ?_ ?_ ?_); exact there_row (cs := stpC (stp0 0 0)) HI.out.z; exact stpC_size SF; exact all_oneCell_toArray (stpC_one SF)))
            change bodyPost _ _ _ _ _ (w9.setCells w.heap.size 0 (stpC SF))
            have hza : StpAt (w9.setCells w.heap.size 0 (stpC SF)) w.heap.size SF := by rw [st_eq]; exact rowSt_row (stpC SF) [] (stpC (stp0 0 0)) w9 HI.out.z rfl
            have hzb : Below w.heap.size w (w9.setCells w.heap.size 0 (stpC SF)) := by rw [st_eq]; exact rowSt_below (g := w.heap.size) (n := w.heap.size) (Nat.le_refl _) (stpC SF) 0 _ HI.out.bel
            have HZ9 := Lib.hid (And.intro hza hzb)
            clear hza hzb
            generalize w9.setCells w.heap.size 0 (stpC SF) = wz at *
            refine bodyPost_ret (v := .tuple #[stpV SF, .bool true]) (by simp [results, Tryd.results23, show (asAddr (Value.pointer (some ⟨w.heap.size, 0, none⟩))).run Tryd.prog wz = .ok ⟨w.heap.size, 0, none⟩ wz from rfl, stp_loadVar HZ9.out.1]) rfl ?_
            exact .good HZ9.out.2 HY.out
          · have HN := Lib.hid (fin_no HSF.out (by rw [hR]; intro e; exact hl (Option.some.inj e)))
            rw [decide_eq_false hl] at hxe
            clear hR hl
            go_wp2_with (first
              | (with_reducible refine wpList_load_mid rfl 39 _ rfl g5 0 rfl (stpC SF) _ HR.out Tryd.underlying39 rfl (stpC_size SF) ?_)
              | ((with_reducible refine wpList_store_mid rfl 39 _ _ rfl w.heap.size 0 _ rfl rfl ?_ ?_ ?_ ?_); exact there_row (cs := stpC (stp0 0 0)) HI.out.z; exact stpC_size SF; exact all_oneCell_toArray (stpC_one SF)))
            change bodyPost _ _ _ _ _ (w9.setCells w.heap.size 0 (stpC SF))
            have hza : StpAt (w9.setCells w.heap.size 0 (stpC SF)) w.heap.size SF := by rw [st_eq]; exact rowSt_row (stpC SF) [] (stpC (stp0 0 0)) w9 HI.out.z rfl
            have hzb : Below w.heap.size w (w9.setCells w.heap.size 0 (stpC SF)) := by rw [st_eq]; exact rowSt_below (g := w.heap.size) (n := w.heap.size) (Nat.le_refl _) (stpC SF) 0 _ HI.out.bel
            have HZ9 := Lib.hid (And.intro hza hzb)
            clear hza hzb
            generalize w9.setCells w.heap.size 0 (stpC SF) = wz at *
            refine bodyPost_ret (v := .tuple #[stpV SF, .bool false]) (by simp [results, Tryd.results23, show (asAddr (Value.pointer (some ⟨w.heap.size, 0, none⟩))).run Tryd.prog wz = .ok ⟨w.heap.size, 0, none⟩ wz from rfl, stp_loadVar HZ9.out.1]) rfl ?_
            exact .bad HZ9.out.2 HN.out _
      · have hg2 : ¬ ((m : Int) + 1 > 2) := by omega
        obtain ⟨p1, hp1, ht1, hz1⟩ := HGT.out 1 (by omega)
        have HP1 := Lib.hid (And.intro hp1 ht1)
        have HC1 := Lib.hid (fun y => small31_any p1 (by have := HXS.out; omega) y)
        clear hp1 ht1 hz1
        go_upto_region 11 with fail
        have hpc := HI.out.piece HP1.out.1
        obtain ⟨q0, q1, q2, q3, q6, q7, q8, q9, q10⟩ := StpAt.cells HI.out.s
        have hth := thaw_row 1 HI.out.s
        go_upto_region 12 with (go_at_call 40; refine (HC1.out _).mono ?_; rintro e v1 ⟨⟨bb, rfl⟩, rfl⟩)
        have HI2 := HI.out.set { (stp0 d 0) with a := smV p1.data.toList } 1 (.int .u8 (smV p1.data.toList : Int)) rfl
        replace HI := Lib.hid HI2
        clear HI2 hth hpc HC1
        clear q0 q1 q2 q3 q6 q7 q8 q9 q10
        generalize World.setCell _ ⟨g5, 1, none⟩ (.int .u8 (smV p1.data.toList : Int)) = wn1 at *
        have f0 : World.cell? _ ⟨g5, 0, none⟩ = some (.int .u8 (d : Int)) := (StpAt.cells HI.out.s).1
        go_upto_region 35 with fail
        clear f0
        obtain ⟨SF, hSF⟩ : ∃ SF : StpV, SF = { (stp0 d 0) with a := smV p1.data.toList } := ⟨_, rfl⟩
        rw [← hSF] at HI
        have HSF := Lib.hid (show SF = stepW (splL 32 x.data.toList) by
          rw [hSF]
          unfold stepW
          rw [HW0.out, ← HD.out.1, HT.out]
          have eA : stA [65] (splL 32 x.data.toList) (stp0 d 0) = { (stp0 d 0) with a := smV p1.data.toList } := by
            unfold stA
            rw [if_pos (by rw [HPB.out.2.1]; exact ⟨by omega, by decide⟩)]
            rw [← HP1.out.2]
          rw [eA]
          have eB : stB [65] (splL 32 x.data.toList) { (stp0 d 0) with a := smV p1.data.toList } = { (stp0 d 0) with a := smV p1.data.toList } := by
            unfold stB
            rw [if_neg (by rintro ⟨_, q⟩; revert q; decide)]
          rw [eB]
          have eK : stK [65] (splL 32 x.data.toList) { (stp0 d 0) with a := smV p1.data.toList } = { (stp0 d 0) with a := smV p1.data.toList } := by
            unfold stK
            rw [if_neg (by decide)]
          rw [eK]
          unfold stC
          rw [if_neg (fun q => hdn q.1)])
        clear hSF
        have hof := step_ok (splL 32 x.data.toList) (fun p hp => by
          have h1 := HPB.out.1
          rw [← h1] at hp
          obtain ⟨q, hq, rfl⟩ := List.mem_map.1 hp
          have h2 := HSZ.out q hq
          have h3 := HXS.out
          have h4 : q.data.toList.length = q.size := Array.length_toList
          omega)
        rw [← HSF.out] at hof
        have HOK := Lib.hid hof
        clear hof
        have HSAY := Lib.hid (fun y => say31_any SF HOK.out.1 HOK.out.2 y)
        have HR := Lib.hid (range_row HI.out.s)
        go_upto_region 36 with (first
          | (with_reducible refine wpList_load_mid rfl 39 _ rfl g5 0 rfl (stpC SF) _ HR.out Tryd.underlying39 rfl (stpC_size SF) ?_)
          | (go_at_call 20; refine (HSAY.out _).mono ?_; rintro e w9 ⟨hb9, X, rfl, hX, hXz⟩; replace HI := Lib.hid (HI.out.below hb9); have HXX := Lib.hid hX; clear hb9 hX hXz))
        clear HR HSAY
        have HR := Lib.hid (range_row HI.out.s)
        cases hR : sayL SF with
        | none =>
          have HN := Lib.hid (fin_no HSF.out (by rw [hR]; exact fun e => by cases e))
          clear hR
          simp only [Option.isSome_none]
          go_wp2_with (first
            | (with_reducible refine wpList_load_mid rfl 39 _ rfl g5 0 rfl (stpC SF) _ HR.out Tryd.underlying39 rfl (stpC_size SF) ?_)
            | ((with_reducible refine wpList_store_mid rfl 39 _ _ rfl w.heap.size 0 _ rfl rfl ?_ ?_ ?_ ?_); exact there_row (cs := stpC (stp0 0 0)) HI.out.z; exact stpC_size SF; exact all_oneCell_toArray (stpC_one SF)))
          change bodyPost _ _ _ _ _ (w9.setCells w.heap.size 0 (stpC SF))
          have hza : StpAt (w9.setCells w.heap.size 0 (stpC SF)) w.heap.size SF := by rw [st_eq]; exact rowSt_row (stpC SF) [] (stpC (stp0 0 0)) w9 HI.out.z rfl
          have hzb : Below w.heap.size w (w9.setCells w.heap.size 0 (stpC SF)) := by rw [st_eq]; exact rowSt_below (g := w.heap.size) (n := w.heap.size) (Nat.le_refl _) (stpC SF) 0 _ HI.out.bel
          have HZ9 := Lib.hid (And.intro hza hzb)
          clear hza hzb
          generalize w9.setCells w.heap.size 0 (stpC SF) = wz at *
          refine bodyPost_ret (v := .tuple #[stpV SF, .bool false]) (by simp [results, Tryd.results23, show (asAddr (Value.pointer (some ⟨w.heap.size, 0, none⟩))).run Tryd.prog wz = .ok ⟨w.heap.size, 0, none⟩ wz from rfl, stp_loadVar HZ9.out.1]) rfl ?_
          exact .bad HZ9.out.2 HN.out _
        | some l =>
          obtain rfl := HXX.out l hR
          have hxe : (l == x.toList) = decide (l = x.data.toList) := by rw [Bool.eq_iff_iff, beq_iff_eq, decide_eq_true_iff, ByteArray.toList_eq]
          simp only [Option.isSome_some]
          by_cases hl : l = x.data.toList
          · have HY := Lib.hid (fin_yes HOK.out.1 (by rw [hR, hl]))
            rw [decide_eq_true hl] at hxe
            clear hR hl
            go_wp2_with (first
              | (with_reducible refine wpList_load_mid rfl 39 _ rfl g5 0 rfl (stpC SF) _ HR.out Tryd.underlying39 rfl (stpC_size SF) ?_)
              | ((with_reducible refine wpList_store_mid rfl 39 _ _ rfl w.heap.size 0 _ rfl rfl ?_ ?_ ?_ ?_); exact there_row (cs := stpC (stp0 0 0)) HI.out.z; exact stpC_size SF; exact all_oneCell_toArray (stpC_one SF)))
            change bodyPost _ _ _ _ _ (w9.setCells w.heap.size 0 (stpC SF))
            have hza : StpAt (w9.setCells w.heap.size 0 (stpC SF)) w.heap.size SF := by rw [st_eq]; exact rowSt_row (stpC SF) [] (stpC (stp0 0 0)) w9 HI.out.z rfl
            have hzb : Below w.heap.size w (w9.setCells w.heap.size 0 (stpC SF)) := by rw [st_eq]; exact rowSt_below (g := w.heap.size) (n := w.heap.size) (Nat.le_refl _) (stpC SF) 0 _ HI.out.bel
            have HZ9 := Lib.hid (And.intro hza hzb)
            clear hza hzb
            generalize w9.setCells w.heap.size 0 (stpC SF) = wz at *
            refine bodyPost_ret (v := .tuple #[stpV SF, .bool true]) (by simp [results, Tryd.results23, show (asAddr (Value.pointer (some ⟨w.heap.size, 0, none⟩))).run Tryd.prog wz = .ok ⟨w.heap.size, 0, none⟩ wz from rfl, stp_loadVar HZ9.out.1]) rfl ?_
            exact .good HZ9.out.2 HY.out
          · have HN := Lib.hid (fin_no HSF.out (by rw [hR]; intro e; exact hl (Option.some.inj e)))
            rw [decide_eq_false hl] at hxe
            clear hR hl
            go_wp2_with (first
              | (with_reducible refine wpList_load_mid rfl 39 _ rfl g5 0 rfl (stpC SF) _ HR.out Tryd.underlying39 rfl (stpC_size SF) ?_)
              | ((with_reducible refine wpList_store_mid rfl 39 _ _ rfl w.heap.size 0 _ rfl rfl ?_ ?_ ?_ ?_); exact there_row (cs := stpC (stp0 0 0)) HI.out.z; exact stpC_size SF; exact all_oneCell_toArray (stpC_one SF)))
            change bodyPost _ _ _ _ _ (w9.setCells w.heap.size 0 (stpC SF))
            have hza : StpAt (w9.setCells w.heap.size 0 (stpC SF)) w.heap.size SF := by rw [st_eq]; exact rowSt_row (stpC SF) [] (stpC (stp0 0 0)) w9 HI.out.z rfl
            have hzb : Below w.heap.size w (w9.setCells w.heap.size 0 (stpC SF)) := by rw [st_eq]; exact rowSt_below (g := w.heap.size) (n := w.heap.size) (Nat.le_refl _) (stpC SF) 0 _ HI.out.bel
            have HZ9 := Lib.hid (And.intro hza hzb)
            clear hza hzb
            generalize w9.setCells w.heap.size 0 (stpC SF) = wz at *
            refine bodyPost_ret (v := .tuple #[stpV SF, .bool false]) (by simp [results, Tryd.results23, show (asAddr (Value.pointer (some ⟨w.heap.size, 0, none⟩))).run Tryd.prog wz = .ok ⟨w.heap.size, 0, none⟩ wz from rfl, stp_loadVar HZ9.out.1]) rfl ?_
            exact .bad HZ9.out.2 HN.out _
    · have hg1 : ¬ ((m : Int) + 1 > 1) := by omega
      have hg2 : ¬ ((m : Int) + 1 > 2) := by omega
      have f0 : World.cell? _ ⟨g5, 0, none⟩ = some (.int .u8 (d : Int)) := (StpAt.cells HI.out.s).1
      go_upto_region 35 with fail
      clear f0
      obtain ⟨SF, hSF⟩ : ∃ SF : StpV, SF = (stp0 d 0) := ⟨_, rfl⟩
      rw [← hSF] at HI
      have HSF := Lib.hid (show SF = stepW (splL 32 x.data.toList) by
        rw [hSF]
        unfold stepW
        rw [HW0.out, ← HD.out.1, HT.out]
        have eA : stA [65] (splL 32 x.data.toList) (stp0 d 0) = (stp0 d 0) := by
          unfold stA
          rw [if_neg (by rw [HPB.out.2.1]; omega)]
        rw [eA]
        have eB : stB [65] (splL 32 x.data.toList) (stp0 d 0) = (stp0 d 0) := by
          unfold stB
          rw [if_neg (by rintro ⟨_, q⟩; revert q; decide)]
        rw [eB]
        have eK : stK [65] (splL 32 x.data.toList) (stp0 d 0) = (stp0 d 0) := by
          unfold stK
          rw [if_neg (by decide)]
        rw [eK]
        unfold stC
        rw [if_neg (fun q => hdn q.1)])
      clear hSF
      have hof := step_ok (splL 32 x.data.toList) (fun p hp => by
        have h1 := HPB.out.1
        rw [← h1] at hp
        obtain ⟨q, hq, rfl⟩ := List.mem_map.1 hp
        have h2 := HSZ.out q hq
        have h3 := HXS.out
        have h4 : q.data.toList.length = q.size := Array.length_toList
        omega)
      rw [← HSF.out] at hof
      have HOK := Lib.hid hof
      clear hof
      have HSAY := Lib.hid (fun y => say31_any SF HOK.out.1 HOK.out.2 y)
      have HR := Lib.hid (range_row HI.out.s)
      go_upto_region 36 with (first
        | (with_reducible refine wpList_load_mid rfl 39 _ rfl g5 0 rfl (stpC SF) _ HR.out Tryd.underlying39 rfl (stpC_size SF) ?_)
        | (go_at_call 20; refine (HSAY.out _).mono ?_; rintro e w9 ⟨hb9, X, rfl, hX, hXz⟩; replace HI := Lib.hid (HI.out.below hb9); have HXX := Lib.hid hX; clear hb9 hX hXz))
      clear HR HSAY
      have HR := Lib.hid (range_row HI.out.s)
      cases hR : sayL SF with
      | none =>
        have HN := Lib.hid (fin_no HSF.out (by rw [hR]; exact fun e => by cases e))
        clear hR
        simp only [Option.isSome_none]
        go_wp2_with (first
          | (with_reducible refine wpList_load_mid rfl 39 _ rfl g5 0 rfl (stpC SF) _ HR.out Tryd.underlying39 rfl (stpC_size SF) ?_)
          | ((with_reducible refine wpList_store_mid rfl 39 _ _ rfl w.heap.size 0 _ rfl rfl ?_ ?_ ?_ ?_); exact there_row (cs := stpC (stp0 0 0)) HI.out.z; exact stpC_size SF; exact all_oneCell_toArray (stpC_one SF)))
        change bodyPost _ _ _ _ _ (w9.setCells w.heap.size 0 (stpC SF))
        have hza : StpAt (w9.setCells w.heap.size 0 (stpC SF)) w.heap.size SF := by rw [st_eq]; exact rowSt_row (stpC SF) [] (stpC (stp0 0 0)) w9 HI.out.z rfl
        have hzb : Below w.heap.size w (w9.setCells w.heap.size 0 (stpC SF)) := by rw [st_eq]; exact rowSt_below (g := w.heap.size) (n := w.heap.size) (Nat.le_refl _) (stpC SF) 0 _ HI.out.bel
        have HZ9 := Lib.hid (And.intro hza hzb)
        clear hza hzb
        generalize w9.setCells w.heap.size 0 (stpC SF) = wz at *
        refine bodyPost_ret (v := .tuple #[stpV SF, .bool false]) (by simp [results, Tryd.results23, show (asAddr (Value.pointer (some ⟨w.heap.size, 0, none⟩))).run Tryd.prog wz = .ok ⟨w.heap.size, 0, none⟩ wz from rfl, stp_loadVar HZ9.out.1]) rfl ?_
        exact .bad HZ9.out.2 HN.out _
      | some l =>
        obtain rfl := HXX.out l hR
        have hxe : (l == x.toList) = decide (l = x.data.toList) := by rw [Bool.eq_iff_iff, beq_iff_eq, decide_eq_true_iff, ByteArray.toList_eq]
        simp only [Option.isSome_some]
        by_cases hl : l = x.data.toList
        · have HY := Lib.hid (fin_yes HOK.out.1 (by rw [hR, hl]))
          rw [decide_eq_true hl] at hxe
          clear hR hl
          go_wp2_with (first
            | (with_reducible refine wpList_load_mid rfl 39 _ rfl g5 0 rfl (stpC SF) _ HR.out Tryd.underlying39 rfl (stpC_size SF) ?_)
            | ((with_reducible refine wpList_store_mid rfl 39 _ _ rfl w.heap.size 0 _ rfl rfl ?_ ?_ ?_ ?_); exact there_row (cs := stpC (stp0 0 0)) HI.out.z; exact stpC_size SF; exact all_oneCell_toArray (stpC_one SF)))
          change bodyPost _ _ _ _ _ (w9.setCells w.heap.size 0 (stpC SF))
          have hza : StpAt (w9.setCells w.heap.size 0 (stpC SF)) w.heap.size SF := by rw [st_eq]; exact rowSt_row (stpC SF) [] (stpC (stp0 0 0)) w9 HI.out.z rfl
          have hzb : Below w.heap.size w (w9.setCells w.heap.size 0 (stpC SF)) := by rw [st_eq]; exact rowSt_below (g := w.heap.size) (n := w.heap.size) (Nat.le_refl _) (stpC SF) 0 _ HI.out.bel
          have HZ9 := Lib.hid (And.intro hza hzb)
          clear hza hzb
          generalize w9.setCells w.heap.size 0 (stpC SF) = wz at *
          refine bodyPost_ret (v := .tuple #[stpV SF, .bool true]) (by simp [results, Tryd.results23, show (asAddr (Value.pointer (some ⟨w.heap.size, 0, none⟩))).run Tryd.prog wz = .ok ⟨w.heap.size, 0, none⟩ wz from rfl, stp_loadVar HZ9.out.1]) rfl ?_
          exact .good HZ9.out.2 HY.out
        · have HN := Lib.hid (fin_no HSF.out (by rw [hR]; intro e; exact hl (Option.some.inj e)))
          rw [decide_eq_false hl] at hxe
          clear hR hl
          go_wp2_with (first
            | (with_reducible refine wpList_load_mid rfl 39 _ rfl g5 0 rfl (stpC SF) _ HR.out Tryd.underlying39 rfl (stpC_size SF) ?_)
            | ((with_reducible refine wpList_store_mid rfl 39 _ _ rfl w.heap.size 0 _ rfl rfl ?_ ?_ ?_ ?_); exact there_row (cs := stpC (stp0 0 0)) HI.out.z; exact stpC_size SF; exact all_oneCell_toArray (stpC_one SF)))
          change bodyPost _ _ _ _ _ (w9.setCells w.heap.size 0 (stpC SF))
          have hza : StpAt (w9.setCells w.heap.size 0 (stpC SF)) w.heap.size SF := by rw [st_eq]; exact rowSt_row (stpC SF) [] (stpC (stp0 0 0)) w9 HI.out.z rfl
          have hzb : Below w.heap.size w (w9.setCells w.heap.size 0 (stpC SF)) := by rw [st_eq]; exact rowSt_below (g := w.heap.size) (n := w.heap.size) (Nat.le_refl _) (stpC SF) 0 _ HI.out.bel
          have HZ9 := Lib.hid (And.intro hza hzb)
          clear hza hzb
          generalize w9.setCells w.heap.size 0 (stpC SF) = wz at *
          refine bodyPost_ret (v := .tuple #[stpV SF, .bool false]) (by simp [results, Tryd.results23, show (asAddr (Value.pointer (some ⟨w.heap.size, 0, none⟩))).run Tryd.prog wz = .ok ⟨w.heap.size, 0, none⟩ wz from rfl, stp_loadVar HZ9.out.1]) rfl ?_
          exact .bad HZ9.out.2 HN.out _
set_option maxRecDepth 100000 in
set_option maxHeartbeats 16000000 in
theorem step_ab (x : ByteArray) (hxs : x.size ≤ 30000) (hT : wdT (wdAt ((splL 32 x.data.toList).headD []) 14) = [65, 66]) (w : World) : Calls Tryd.prog 23 #[.string x] w (ReadR (rdL x.data.toList) w) := by
  obtain ⟨q0, rs, hq⟩ := pcs_cons 32 x
  have hpb := pcs_back 32 x
  have HSP := Lib.hid (fun y => split31_any 32 x (by omega) y)
  have HSZ := Lib.hid (fun (p : ByteArray) (hq : p ∈ pcsB 32 x) => pcs_size hq)
  obtain ⟨ps, hps⟩ : ∃ ps, ps = pcsB 32 x := ⟨_, rfl⟩
  rw [← hps] at hpb HSP HSZ hq
  have hpb1 := congrArg List.length hpb
  rw [List.length_map] at hpb1
  obtain ⟨m, hm⟩ : ∃ m, m + 1 = ps.length := ⟨rs.length, by rw [hq]; rfl⟩
  rw [← hm] at hpb1
  unfold SplR at HSP
  rw [← hm] at HSP
  have HPB := Lib.hid (And.intro hpb (And.intro hpb1.symm hm.symm))
  obtain ⟨p0, hp0⟩ : ∃ p0, ps[0]? = some p0 := ⟨q0, by rw [hq]; rfl⟩
  have HP0 := Lib.hid hp0
  have hw0 : (splL 32 x.data.toList).headD [] = p0.data.toList := by rw [← hpb, hq] ; rw [hq] at hp0; cases hp0; rfl
  rw [hw0] at hT
  have HW0 := Lib.hid hw0
  have HT := Lib.hid hT
  have HGT := Lib.hid (show ∀ j, j < m + 1 → ∃ p, ps[j]? = some p ∧ p.data.toList = (splL 32 x.data.toList).getD j [] ∧ p.size ≤ x.size from fun j hj => by
    have h1 : ps[j]? = some (ps[j]'(by omega)) := List.getElem?_eq_getElem (by omega)
    refine ⟨_, h1, ?_, HSZ.out _ (List.getElem_mem _)⟩
    rw [← hpb, List.getD, List.getElem?_map, h1]
    rfl)
  have hml : m ≤ 30001 := by
    have h1 := pcs_many 32 x
    rw [← hps, ← hm] at h1
    omega
  have HML := Lib.hid hml
  have hb0 := (Below.refl w.heap.size w).alloc (Nat.le_refl _) (.cells (stpC (stp0 0 0)).toArray 39)
  have hG0 : StpAt (w.alloc (.cells (stpC (stp0 0 0)).toArray 39)) w.heap.size (stp0 0 0) := heap_alloc_new _ _
  have H0 := Lib.hid (And.intro hb0 hG0)
  have HXS := Lib.hid hxs
  clear hpb hpb1 hps hq hm hp0 hw0 hT hml hb0 hG0 hxs
  go_enter Tryd.func23, Tryd.ntmps23
  go_upto_region 1 with fail
  change Code.wp _ _ _ _ (w.alloc (.cells (stpC (stp0 0 0)).toArray 39))
  generalize w.alloc (.cells (stpC (stp0 0 0)).toArray 39) = wa at *
  go_upto_region 2 with (go_at_call 22; refine (HSP.out wa).mono ?_; rintro e wb ⟨g, cap, rfl, hps, hb1⟩; have H1 := Lib.hid (And.intro (H0.out.1.trans (hb1.mono H0.out.1.size)) (And.intro (H0.out.2.below hb1) hps)); clear hb1 hps)
  clear H0 HSP
  go_upto_region 4 with fail
  change Code.wp _ _ _ _ (wb.alloc (.cells (stpC (stp0 0 0)).toArray 39))
  have hb2 := (Below.refl wb.heap.size wb).alloc (Nat.le_refl _) (.cells (stpC (stp0 0 0)).toArray 39)
  have HI := Lib.hid (show StI w w.heap.size g wb.heap.size ps (stp0 0 0) (wb.alloc (.cells (stpC (stp0 0 0)).toArray 39)) from ⟨H1.out.2.1.below hb2, H1.out.2.2.below hb2, heap_alloc_new _ _, H1.out.1.trans (hb2.mono H1.out.1.size), Nat.le_refl _, H1.out.2.1.lt, H1.out.2.2.lt⟩)
  generalize wb.alloc (.cells (stpC (stp0 0 0)).toArray 39) = wc at *
  generalize wb.heap.size = g5 at *
  clear hb2 H1
  go_loopw [6] (fun s6 wr => ∃ i : Nat, s6 = .int .u8 (i : Int) ∧ 1 ≤ i ∧ i ≤ 14 ∧ StI w w.heap.size g g5 ps (stp0 (wdAt p0.data.toList i) 0) wr) (fun s6 _ => 14 - (intOf s6).toNat)
  case atStart => exact ⟨1, rfl, Nat.le_refl _, by decide, HI.out⟩
  case round =>
    clear HI
    obtain ⟨i, rfl, hi1, hi14, hI⟩ := hrel
    have HI := Lib.hid hI
    clear hI
    by_cases hlt : i < 14
    · have hlt' : (i : Int) < 14 := by omega
      have HW := Lib.hid (fun y => word_any i (by omega) y)
      have hw8 : IntKind.u8.wrap ((i : Int) + 1) = (i : Int) + 1 := by rw [IntKind.wrap_u8']; omega
      have hpc := HI.out.piece HP0.out
      obtain ⟨nm, hnm⟩ : ∃ nm : ByteArray, nm = ⟨(wdN i).toArray⟩ := ⟨_, rfl⟩
      unfold TwoS at HW
      rw [← hnm] at HW
      have HNM := Lib.hid (show nm.data.toList = wdN i by rw [hnm])
      clear hnm
      go_upto_region 7 with (go_at_call 34; refine (HW.out wr).mono ?_; rintro e w2 ⟨rfl, hb2⟩; replace HI := Lib.hid (HI.out.below hb2); clear hb2)
      clear hpc HW
      have hpc := HI.out.piece HP0.out
      by_cases hq : wdN i = p0.data.toList
      · have hqv : (nm.toList == p0.toList) = true := by rw [beq_iff_eq, ByteArray.toList_eq, ByteArray.toList_eq, HNM.out]; exact hq
        have HD := Lib.hid (show wdAt p0.data.toList (i + 1) = i by unfold wdAt; rw [if_pos ⟨hi1, hq⟩])
        clear hq
        obtain ⟨q0, q1, q2, q3, q6, q7, q8, q9, q10⟩ := StpAt.cells HI.out.s
        have hth := thaw_row 0 HI.out.s
        go_upto_region 5 with fail
        have HI2 := HI.out.set (stp0 i 0) 0 (.int .u8 (i : Int)) rfl
        replace HI := Lib.hid HI2
        clear HI2 hth hpc
        clear q0 q1 q2 q3 q6 q7 q8 q9 q10
        generalize w2.setCell ⟨g5, 0, none⟩ (.int .u8 (i : Int)) = w3 at *
        go_wp2
        go_roundw
        case rel => exact ⟨i + 1, (by first | rfl | simp), by omega, hlt, by rw [HD.out]; exact HI.out⟩
        case measure => simp only [intOf]; omega
      · have hqv : (nm.toList == p0.toList) = false := by rw [beq_eq_false_iff_ne, ByteArray.toList_eq, ByteArray.toList_eq, HNM.out]; exact hq
        have HD := Lib.hid (show wdAt p0.data.toList (i + 1) = wdAt p0.data.toList i by conv => lhs; unfold wdAt; rw [if_neg (fun h => hq h.2)])
        clear hq
        go_wp2
        go_roundw
        case rel => exact ⟨i + 1, (by first | rfl | simp), by omega, hlt, by rw [HD.out]; exact HI.out⟩
        case measure => simp only [intOf]; omega
    have hlt' : ¬ (i : Int) < 14 := by omega
    obtain rfl : i = 14 := by omega
    clear hi1 hi14 hlt
    obtain ⟨d, hd⟩ : ∃ d, d = wdAt p0.data.toList 14 := ⟨_, rfl⟩
    rw [← hd] at HI HT
    have hd14 : d ≤ 13 := by rw [hd]; exact wdAt_lt _ 13
    have HD := Lib.hid (And.intro hd hd14)
    have HW := Lib.hid (fun y => word_any d (by omega) y)
    rw [HT.out] at HW
    unfold TwoS at HW
    clear hd hd14
    obtain ⟨f0, f1, f2, f3, f6, f7, f8, f9, f10⟩ := StpAt.cells HI.out.s
    go_upto_region 10 with (go_at_call 34; refine (HW.out _).mono ?_; rintro e w2 ⟨rfl, hb2⟩; replace HI := Lib.hid (HI.out.below hb2); clear hb2)
    clear f0 f1 f2 f3 f6 f7 f8 f9 f10 HW
    have hdn : d ≠ 12 := fun e => by
      have h := HT.out
      rw [e] at h
      revert h
      decide
    have hd12 : ((d : Int) == 12) = false := by rw [beq_eq_false_iff_ne]; omega
    by_cases hm1 : 1 ≤ m
    · have hg1 : (m : Int) + 1 > 1 := by omega
      by_cases hm2 : 2 ≤ m
      · have hg2 : (m : Int) + 1 > 2 := by omega
        obtain ⟨p1, hp1, ht1, hz1⟩ := HGT.out 1 (by omega)
        have HP1 := Lib.hid (And.intro hp1 ht1)
        have HC1 := Lib.hid (fun y => small31_any p1 (by have := HXS.out; omega) y)
        clear hp1 ht1 hz1
        go_upto_region 11 with fail
        have hpc := HI.out.piece HP1.out.1
        obtain ⟨q0, q1, q2, q3, q6, q7, q8, q9, q10⟩ := StpAt.cells HI.out.s
        have hth := thaw_row 1 HI.out.s
        go_upto_region 12 with (go_at_call 40; refine (HC1.out _).mono ?_; rintro e v1 ⟨⟨bb, rfl⟩, rfl⟩)
        have HI2 := HI.out.set { (stp0 d 0) with a := smV p1.data.toList } 1 (.int .u8 (smV p1.data.toList : Int)) rfl
        replace HI := Lib.hid HI2
        clear HI2 hth hpc HC1
        clear q0 q1 q2 q3 q6 q7 q8 q9 q10
        generalize World.setCell _ ⟨g5, 1, none⟩ (.int .u8 (smV p1.data.toList : Int)) = wn1 at *
        obtain ⟨p2, hp2, ht2, hz2⟩ := HGT.out 2 (by omega)
        have HP2 := Lib.hid (And.intro hp2 ht2)
        have HC2 := Lib.hid (fun y => small31_any p2 (by have := HXS.out; omega) y)
        clear hp2 ht2 hz2
        go_upto_region 13 with fail
        have hpc := HI.out.piece HP2.out.1
        obtain ⟨q0, q1, q2, q3, q6, q7, q8, q9, q10⟩ := StpAt.cells HI.out.s
        have hth := thaw_row 2 HI.out.s
        go_upto_region 14 with (go_at_call 40; refine (HC2.out _).mono ?_; rintro e v1 ⟨⟨bb, rfl⟩, rfl⟩)
        have HI2 := HI.out.set { ({ (stp0 d 0) with a := smV p1.data.toList } : StpV) with b := smV p2.data.toList } 2 (.int .u8 (smV p2.data.toList : Int)) rfl
        replace HI := Lib.hid HI2
        clear HI2 hth hpc HC2
        clear q0 q1 q2 q3 q6 q7 q8 q9 q10
        generalize World.setCell _ ⟨g5, 2, none⟩ (.int .u8 (smV p2.data.toList : Int)) = wn2 at *
        have f0 : World.cell? _ ⟨g5, 0, none⟩ = some (.int .u8 (d : Int)) := (StpAt.cells HI.out.s).1
        go_upto_region 35 with fail
        clear f0
        obtain ⟨SF, hSF⟩ : ∃ SF : StpV, SF = { ({ (stp0 d 0) with a := smV p1.data.toList } : StpV) with b := smV p2.data.toList } := ⟨_, rfl⟩
        rw [← hSF] at HI
        have HSF := Lib.hid (show SF = stepW (splL 32 x.data.toList) by
          rw [hSF]
          unfold stepW
          rw [HW0.out, ← HD.out.1, HT.out]
          have eA : stA [65, 66] (splL 32 x.data.toList) (stp0 d 0) = { (stp0 d 0) with a := smV p1.data.toList } := by
            unfold stA
            rw [if_pos (by rw [HPB.out.2.1]; exact ⟨by omega, by decide⟩)]
            rw [← HP1.out.2]
          rw [eA]
          have eB : stB [65, 66] (splL 32 x.data.toList) { (stp0 d 0) with a := smV p1.data.toList } = { { (stp0 d 0) with a := smV p1.data.toList } with b := smV p2.data.toList } := by
            unfold stB
            rw [if_pos (by rw [HPB.out.2.1]; exact ⟨by omega, by decide⟩)]
            rw [← HP2.out.2]
          rw [eB]
          have eK : stK [65, 66] (splL 32 x.data.toList) { { (stp0 d 0) with a := smV p1.data.toList } with b := smV p2.data.toList } = { { (stp0 d 0) with a := smV p1.data.toList } with b := smV p2.data.toList } := by
            unfold stK
            rw [if_neg (by decide)]
          rw [eK]
          unfold stC
          rw [if_neg (fun q => hdn q.1)])
        clear hSF
        have hof := step_ok (splL 32 x.data.toList) (fun p hp => by
          have h1 := HPB.out.1
          rw [← h1] at hp
          obtain ⟨q, hq, rfl⟩ := List.mem_map.1 hp
          have h2 := HSZ.out q hq
          have h3 := HXS.out
          have h4 : q.data.toList.length = q.size := Array.length_toList
          omega)
        rw [← HSF.out] at hof
        have HOK := Lib.hid hof
        clear hof
        have HSAY := Lib.hid (fun y => say31_any SF HOK.out.1 HOK.out.2 y)
        have HR := Lib.hid (range_row HI.out.s)
        go_upto_region 36 with (first
          | (with_reducible refine wpList_load_mid rfl 39 _ rfl g5 0 rfl (stpC SF) _ HR.out Tryd.underlying39 rfl (stpC_size SF) ?_)
          | (go_at_call 20; refine (HSAY.out _).mono ?_; rintro e w9 ⟨hb9, X, rfl, hX, hXz⟩; replace HI := Lib.hid (HI.out.below hb9); have HXX := Lib.hid hX; clear hb9 hX hXz))
        clear HR HSAY
        have HR := Lib.hid (range_row HI.out.s)
        cases hR : sayL SF with
        | none =>
          have HN := Lib.hid (fin_no HSF.out (by rw [hR]; exact fun e => by cases e))
          clear hR
          simp only [Option.isSome_none]
          go_wp2_with (first
            | (with_reducible refine wpList_load_mid rfl 39 _ rfl g5 0 rfl (stpC SF) _ HR.out Tryd.underlying39 rfl (stpC_size SF) ?_)
            | ((with_reducible refine wpList_store_mid rfl 39 _ _ rfl w.heap.size 0 _ rfl rfl ?_ ?_ ?_ ?_); exact there_row (cs := stpC (stp0 0 0)) HI.out.z; exact stpC_size SF; exact all_oneCell_toArray (stpC_one SF)))
          change bodyPost _ _ _ _ _ (w9.setCells w.heap.size 0 (stpC SF))
          have hza : StpAt (w9.setCells w.heap.size 0 (stpC SF)) w.heap.size SF := by rw [st_eq]; exact rowSt_row (stpC SF) [] (stpC (stp0 0 0)) w9 HI.out.z rfl
          have hzb : Below w.heap.size w (w9.setCells w.heap.size 0 (stpC SF)) := by rw [st_eq]; exact rowSt_below (g := w.heap.size) (n := w.heap.size) (Nat.le_refl _) (stpC SF) 0 _ HI.out.bel
          have HZ9 := Lib.hid (And.intro hza hzb)
          clear hza hzb
          generalize w9.setCells w.heap.size 0 (stpC SF) = wz at *
          refine bodyPost_ret (v := .tuple #[stpV SF, .bool false]) (by simp [results, Tryd.results23, show (asAddr (Value.pointer (some ⟨w.heap.size, 0, none⟩))).run Tryd.prog wz = .ok ⟨w.heap.size, 0, none⟩ wz from rfl, stp_loadVar HZ9.out.1]) rfl ?_
          exact .bad HZ9.out.2 HN.out _
        | some l =>
          obtain rfl := HXX.out l hR
          have hxe : (l == x.toList) = decide (l = x.data.toList) := by rw [Bool.eq_iff_iff, beq_iff_eq, decide_eq_true_iff, ByteArray.toList_eq]
          simp only [Option.isSome_some]
          by_cases hl : l = x.data.toList
          · have HY := Lib.hid (fin_yes HOK.out.1 (by rw [hR, hl]))
            rw [decide_eq_true hl] at hxe
            clear hR hl
            go_wp2_with (first
              | (with_reducible refine wpList_load_mid rfl 39 _ rfl g5 0 rfl (stpC SF) _ HR.out Tryd.underlying39 rfl (stpC_size SF) ?_)
              | ((with_reducible refine wpList_store_mid rfl 39 _ _ rfl w.heap.size 0 _ rfl rfl ?_ ?_ ?_ ?_); exact there_row (cs := stpC (stp0 0 0)) HI.out.z; exact stpC_size SF; exact all_oneCell_toArray (stpC_one SF)))
            change bodyPost _ _ _ _ _ (w9.setCells w.heap.size 0 (stpC SF))
            have hza : StpAt (w9.setCells w.heap.size 0 (stpC SF)) w.heap.size SF := by rw [st_eq]; exact rowSt_row (stpC SF) [] (stpC (stp0 0 0)) w9 HI.out.z rfl
            have hzb : Below w.heap.size w (w9.setCells w.heap.size 0 (stpC SF)) := by rw [st_eq]; exact rowSt_below (g := w.heap.size) (n := w.heap.size) (Nat.le_refl _) (stpC SF) 0 _ HI.out.bel
            have HZ9 := Lib.hid (And.intro hza hzb)
            clear hza hzb
            generalize w9.setCells w.heap.size 0 (stpC SF) = wz at *
            refine bodyPost_ret (v := .tuple #[stpV SF, .bool true]) (by simp [results, Tryd.results23, show (asAddr (Value.pointer (some ⟨w.heap.size, 0, none⟩))).run Tryd.prog wz = .ok ⟨w.heap.size, 0, none⟩ wz from rfl, stp_loadVar HZ9.out.1]) rfl ?_
            exact .good HZ9.out.2 HY.out
          · have HN := Lib.hid (fin_no HSF.out (by rw [hR]; intro e; exact hl (Option.some.inj e)))
            rw [decide_eq_false hl] at hxe
            clear hR hl
            go_wp2_with (first
              | (with_reducible refine wpList_load_mid rfl 39 _ rfl g5 0 rfl (stpC SF) _ HR.out Tryd.underlying39 rfl (stpC_size SF) ?_)
              | ((with_reducible refine wpList_store_mid rfl 39 _ _ rfl w.heap.size 0 _ rfl rfl ?_ ?_ ?_ ?_); exact there_row (cs := stpC (stp0 0 0)) HI.out.z; exact stpC_size SF; exact all_oneCell_toArray (stpC_one SF)))
            change bodyPost _ _ _ _ _ (w9.setCells w.heap.size 0 (stpC SF))
            have hza : StpAt (w9.setCells w.heap.size 0 (stpC SF)) w.heap.size SF := by rw [st_eq]; exact rowSt_row (stpC SF) [] (stpC (stp0 0 0)) w9 HI.out.z rfl
            have hzb : Below w.heap.size w (w9.setCells w.heap.size 0 (stpC SF)) := by rw [st_eq]; exact rowSt_below (g := w.heap.size) (n := w.heap.size) (Nat.le_refl _) (stpC SF) 0 _ HI.out.bel
            have HZ9 := Lib.hid (And.intro hza hzb)
            clear hza hzb
            generalize w9.setCells w.heap.size 0 (stpC SF) = wz at *
            refine bodyPost_ret (v := .tuple #[stpV SF, .bool false]) (by simp [results, Tryd.results23, show (asAddr (Value.pointer (some ⟨w.heap.size, 0, none⟩))).run Tryd.prog wz = .ok ⟨w.heap.size, 0, none⟩ wz from rfl, stp_loadVar HZ9.out.1]) rfl ?_
            exact .bad HZ9.out.2 HN.out _
      · have hg2 : ¬ ((m : Int) + 1 > 2) := by omega
        obtain ⟨p1, hp1, ht1, hz1⟩ := HGT.out 1 (by omega)
        have HP1 := Lib.hid (And.intro hp1 ht1)
        have HC1 := Lib.hid (fun y => small31_any p1 (by have := HXS.out; omega) y)
        clear hp1 ht1 hz1
        go_upto_region 11 with fail
        have hpc := HI.out.piece HP1.out.1
        obtain ⟨q0, q1, q2, q3, q6, q7, q8, q9, q10⟩ := StpAt.cells HI.out.s
        have hth := thaw_row 1 HI.out.s
        go_upto_region 12 with (go_at_call 40; refine (HC1.out _).mono ?_; rintro e v1 ⟨⟨bb, rfl⟩, rfl⟩)
        have HI2 := HI.out.set { (stp0 d 0) with a := smV p1.data.toList } 1 (.int .u8 (smV p1.data.toList : Int)) rfl
        replace HI := Lib.hid HI2
        clear HI2 hth hpc HC1
        clear q0 q1 q2 q3 q6 q7 q8 q9 q10
        generalize World.setCell _ ⟨g5, 1, none⟩ (.int .u8 (smV p1.data.toList : Int)) = wn1 at *
        have f0 : World.cell? _ ⟨g5, 0, none⟩ = some (.int .u8 (d : Int)) := (StpAt.cells HI.out.s).1
        go_upto_region 35 with fail
        clear f0
        obtain ⟨SF, hSF⟩ : ∃ SF : StpV, SF = { (stp0 d 0) with a := smV p1.data.toList } := ⟨_, rfl⟩
        rw [← hSF] at HI
        have HSF := Lib.hid (show SF = stepW (splL 32 x.data.toList) by
          rw [hSF]
          unfold stepW
          rw [HW0.out, ← HD.out.1, HT.out]
          have eA : stA [65, 66] (splL 32 x.data.toList) (stp0 d 0) = { (stp0 d 0) with a := smV p1.data.toList } := by
            unfold stA
            rw [if_pos (by rw [HPB.out.2.1]; exact ⟨by omega, by decide⟩)]
            rw [← HP1.out.2]
          rw [eA]
          have eB : stB [65, 66] (splL 32 x.data.toList) { (stp0 d 0) with a := smV p1.data.toList } = { (stp0 d 0) with a := smV p1.data.toList } := by
            unfold stB
            rw [if_neg (by rw [HPB.out.2.1]; omega)]
          rw [eB]
          have eK : stK [65, 66] (splL 32 x.data.toList) { (stp0 d 0) with a := smV p1.data.toList } = { (stp0 d 0) with a := smV p1.data.toList } := by
            unfold stK
            rw [if_neg (by decide)]
          rw [eK]
          unfold stC
          rw [if_neg (fun q => hdn q.1)])
        clear hSF
        have hof := step_ok (splL 32 x.data.toList) (fun p hp => by
          have h1 := HPB.out.1
          rw [← h1] at hp
          obtain ⟨q, hq, rfl⟩ := List.mem_map.1 hp
          have h2 := HSZ.out q hq
          have h3 := HXS.out
          have h4 : q.data.toList.length = q.size := Array.length_toList
          omega)
        rw [← HSF.out] at hof
        have HOK := Lib.hid hof
        clear hof
        have HSAY := Lib.hid (fun y => say31_any SF HOK.out.1 HOK.out.2 y)
        have HR := Lib.hid (range_row HI.out.s)
        go_upto_region 36 with (first
          | (with_reducible refine wpList_load_mid rfl 39 _ rfl g5 0 rfl (stpC SF) _ HR.out Tryd.underlying39 rfl (stpC_size SF) ?_)
          | (go_at_call 20; refine (HSAY.out _).mono ?_; rintro e w9 ⟨hb9, X, rfl, hX, hXz⟩; replace HI := Lib.hid (HI.out.below hb9); have HXX := Lib.hid hX; clear hb9 hX hXz))
        clear HR HSAY
        have HR := Lib.hid (range_row HI.out.s)
        cases hR : sayL SF with
        | none =>
          have HN := Lib.hid (fin_no HSF.out (by rw [hR]; exact fun e => by cases e))
          clear hR
          simp only [Option.isSome_none]
          go_wp2_with (first
            | (with_reducible refine wpList_load_mid rfl 39 _ rfl g5 0 rfl (stpC SF) _ HR.out Tryd.underlying39 rfl (stpC_size SF) ?_)
            | ((with_reducible refine wpList_store_mid rfl 39 _ _ rfl w.heap.size 0 _ rfl rfl ?_ ?_ ?_ ?_); exact there_row (cs := stpC (stp0 0 0)) HI.out.z; exact stpC_size SF; exact all_oneCell_toArray (stpC_one SF)))
          change bodyPost _ _ _ _ _ (w9.setCells w.heap.size 0 (stpC SF))
          have hza : StpAt (w9.setCells w.heap.size 0 (stpC SF)) w.heap.size SF := by rw [st_eq]; exact rowSt_row (stpC SF) [] (stpC (stp0 0 0)) w9 HI.out.z rfl
          have hzb : Below w.heap.size w (w9.setCells w.heap.size 0 (stpC SF)) := by rw [st_eq]; exact rowSt_below (g := w.heap.size) (n := w.heap.size) (Nat.le_refl _) (stpC SF) 0 _ HI.out.bel
          have HZ9 := Lib.hid (And.intro hza hzb)
          clear hza hzb
          generalize w9.setCells w.heap.size 0 (stpC SF) = wz at *
          refine bodyPost_ret (v := .tuple #[stpV SF, .bool false]) (by simp [results, Tryd.results23, show (asAddr (Value.pointer (some ⟨w.heap.size, 0, none⟩))).run Tryd.prog wz = .ok ⟨w.heap.size, 0, none⟩ wz from rfl, stp_loadVar HZ9.out.1]) rfl ?_
          exact .bad HZ9.out.2 HN.out _
        | some l =>
          obtain rfl := HXX.out l hR
          have hxe : (l == x.toList) = decide (l = x.data.toList) := by rw [Bool.eq_iff_iff, beq_iff_eq, decide_eq_true_iff, ByteArray.toList_eq]
          simp only [Option.isSome_some]
          by_cases hl : l = x.data.toList
          · have HY := Lib.hid (fin_yes HOK.out.1 (by rw [hR, hl]))
            rw [decide_eq_true hl] at hxe
            clear hR hl
            go_wp2_with (first
              | (with_reducible refine wpList_load_mid rfl 39 _ rfl g5 0 rfl (stpC SF) _ HR.out Tryd.underlying39 rfl (stpC_size SF) ?_)
              | ((with_reducible refine wpList_store_mid rfl 39 _ _ rfl w.heap.size 0 _ rfl rfl ?_ ?_ ?_ ?_); exact there_row (cs := stpC (stp0 0 0)) HI.out.z; exact stpC_size SF; exact all_oneCell_toArray (stpC_one SF)))
            change bodyPost _ _ _ _ _ (w9.setCells w.heap.size 0 (stpC SF))
            have hza : StpAt (w9.setCells w.heap.size 0 (stpC SF)) w.heap.size SF := by rw [st_eq]; exact rowSt_row (stpC SF) [] (stpC (stp0 0 0)) w9 HI.out.z rfl
            have hzb : Below w.heap.size w (w9.setCells w.heap.size 0 (stpC SF)) := by rw [st_eq]; exact rowSt_below (g := w.heap.size) (n := w.heap.size) (Nat.le_refl _) (stpC SF) 0 _ HI.out.bel
            have HZ9 := Lib.hid (And.intro hza hzb)
            clear hza hzb
            generalize w9.setCells w.heap.size 0 (stpC SF) = wz at *
            refine bodyPost_ret (v := .tuple #[stpV SF, .bool true]) (by simp [results, Tryd.results23, show (asAddr (Value.pointer (some ⟨w.heap.size, 0, none⟩))).run Tryd.prog wz = .ok ⟨w.heap.size, 0, none⟩ wz from rfl, stp_loadVar HZ9.out.1]) rfl ?_
            exact .good HZ9.out.2 HY.out
          · have HN := Lib.hid (fin_no HSF.out (by rw [hR]; intro e; exact hl (Option.some.inj e)))
            rw [decide_eq_false hl] at hxe
            clear hR hl
            go_wp2_with (first
              | (with_reducible refine wpList_load_mid rfl 39 _ rfl g5 0 rfl (stpC SF) _ HR.out Tryd.underlying39 rfl (stpC_size SF) ?_)
              | ((with_reducible refine wpList_store_mid rfl 39 _ _ rfl w.heap.size 0 _ rfl rfl ?_ ?_ ?_ ?_); exact there_row (cs := stpC (stp0 0 0)) HI.out.z; exact stpC_size SF; exact all_oneCell_toArray (stpC_one SF)))
            change bodyPost _ _ _ _ _ (w9.setCells w.heap.size 0 (stpC SF))
            have hza : StpAt (w9.setCells w.heap.size 0 (stpC SF)) w.heap.size SF := by rw [st_eq]; exact rowSt_row (stpC SF) [] (stpC (stp0 0 0)) w9 HI.out.z rfl
            have hzb : Below w.heap.size w (w9.setCells w.heap.size 0 (stpC SF)) := by rw [st_eq]; exact rowSt_below (g := w.heap.size) (n := w.heap.size) (Nat.le_refl _) (stpC SF) 0 _ HI.out.bel
            have HZ9 := Lib.hid (And.intro hza hzb)
            clear hza hzb
            generalize w9.setCells w.heap.size 0 (stpC SF) = wz at *
            refine bodyPost_ret (v := .tuple #[stpV SF, .bool false]) (by simp [results, Tryd.results23, show (asAddr (Value.pointer (some ⟨w.heap.size, 0, none⟩))).run Tryd.prog wz = .ok ⟨w.heap.size, 0, none⟩ wz from rfl, stp_loadVar HZ9.out.1]) rfl ?_
            exact .bad HZ9.out.2 HN.out _
    · have hg1 : ¬ ((m : Int) + 1 > 1) := by omega
      have hg2 : ¬ ((m : Int) + 1 > 2) := by omega
      have f0 : World.cell? _ ⟨g5, 0, none⟩ = some (.int .u8 (d : Int)) := (StpAt.cells HI.out.s).1
      go_upto_region 35 with fail
      clear f0
      obtain ⟨SF, hSF⟩ : ∃ SF : StpV, SF = (stp0 d 0) := ⟨_, rfl⟩
      rw [← hSF] at HI
      have HSF := Lib.hid (show SF = stepW (splL 32 x.data.toList) by
        rw [hSF]
        unfold stepW
        rw [HW0.out, ← HD.out.1, HT.out]
        have eA : stA [65, 66] (splL 32 x.data.toList) (stp0 d 0) = (stp0 d 0) := by
          unfold stA
          rw [if_neg (by rw [HPB.out.2.1]; omega)]
        rw [eA]
        have eB : stB [65, 66] (splL 32 x.data.toList) (stp0 d 0) = (stp0 d 0) := by
          unfold stB
          rw [if_neg (by rw [HPB.out.2.1]; omega)]
        rw [eB]
        have eK : stK [65, 66] (splL 32 x.data.toList) (stp0 d 0) = (stp0 d 0) := by
          unfold stK
          rw [if_neg (by decide)]
        rw [eK]
        unfold stC
        rw [if_neg (fun q => hdn q.1)])
      clear hSF
      have hof := step_ok (splL 32 x.data.toList) (fun p hp => by
        have h1 := HPB.out.1
        rw [← h1] at hp
        obtain ⟨q, hq, rfl⟩ := List.mem_map.1 hp
        have h2 := HSZ.out q hq
        have h3 := HXS.out
        have h4 : q.data.toList.length = q.size := Array.length_toList
        omega)
      rw [← HSF.out] at hof
      have HOK := Lib.hid hof
      clear hof
      have HSAY := Lib.hid (fun y => say31_any SF HOK.out.1 HOK.out.2 y)
      have HR := Lib.hid (range_row HI.out.s)
      go_upto_region 36 with (first
        | (with_reducible refine wpList_load_mid rfl 39 _ rfl g5 0 rfl (stpC SF) _ HR.out Tryd.underlying39 rfl (stpC_size SF) ?_)
        | (go_at_call 20; refine (HSAY.out _).mono ?_; rintro e w9 ⟨hb9, X, rfl, hX, hXz⟩; replace HI := Lib.hid (HI.out.below hb9); have HXX := Lib.hid hX; clear hb9 hX hXz))
      clear HR HSAY
      have HR := Lib.hid (range_row HI.out.s)
      cases hR : sayL SF with
      | none =>
        have HN := Lib.hid (fin_no HSF.out (by rw [hR]; exact fun e => by cases e))
        clear hR
        simp only [Option.isSome_none]
        go_wp2_with (first
          | (with_reducible refine wpList_load_mid rfl 39 _ rfl g5 0 rfl (stpC SF) _ HR.out Tryd.underlying39 rfl (stpC_size SF) ?_)
          | ((with_reducible refine wpList_store_mid rfl 39 _ _ rfl w.heap.size 0 _ rfl rfl ?_ ?_ ?_ ?_); exact there_row (cs := stpC (stp0 0 0)) HI.out.z; exact stpC_size SF; exact all_oneCell_toArray (stpC_one SF)))
        change bodyPost _ _ _ _ _ (w9.setCells w.heap.size 0 (stpC SF))
        have hza : StpAt (w9.setCells w.heap.size 0 (stpC SF)) w.heap.size SF := by rw [st_eq]; exact rowSt_row (stpC SF) [] (stpC (stp0 0 0)) w9 HI.out.z rfl
        have hzb : Below w.heap.size w (w9.setCells w.heap.size 0 (stpC SF)) := by rw [st_eq]; exact rowSt_below (g := w.heap.size) (n := w.heap.size) (Nat.le_refl _) (stpC SF) 0 _ HI.out.bel
        have HZ9 := Lib.hid (And.intro hza hzb)
        clear hza hzb
        generalize w9.setCells w.heap.size 0 (stpC SF) = wz at *
        refine bodyPost_ret (v := .tuple #[stpV SF, .bool false]) (by simp [results, Tryd.results23, show (asAddr (Value.pointer (some ⟨w.heap.size, 0, none⟩))).run Tryd.prog wz = .ok ⟨w.heap.size, 0, none⟩ wz from rfl, stp_loadVar HZ9.out.1]) rfl ?_
        exact .bad HZ9.out.2 HN.out _
      | some l =>
        obtain rfl := HXX.out l hR
        have hxe : (l == x.toList) = decide (l = x.data.toList) := by rw [Bool.eq_iff_iff, beq_iff_eq, decide_eq_true_iff, ByteArray.toList_eq]
        simp only [Option.isSome_some]
        by_cases hl : l = x.data.toList
        · have HY := Lib.hid (fin_yes HOK.out.1 (by rw [hR, hl]))
          rw [decide_eq_true hl] at hxe
          clear hR hl
          go_wp2_with (first
            | (with_reducible refine wpList_load_mid rfl 39 _ rfl g5 0 rfl (stpC SF) _ HR.out Tryd.underlying39 rfl (stpC_size SF) ?_)
            | ((with_reducible refine wpList_store_mid rfl 39 _ _ rfl w.heap.size 0 _ rfl rfl ?_ ?_ ?_ ?_); exact there_row (cs := stpC (stp0 0 0)) HI.out.z; exact stpC_size SF; exact all_oneCell_toArray (stpC_one SF)))
          change bodyPost _ _ _ _ _ (w9.setCells w.heap.size 0 (stpC SF))
          have hza : StpAt (w9.setCells w.heap.size 0 (stpC SF)) w.heap.size SF := by rw [st_eq]; exact rowSt_row (stpC SF) [] (stpC (stp0 0 0)) w9 HI.out.z rfl
          have hzb : Below w.heap.size w (w9.setCells w.heap.size 0 (stpC SF)) := by rw [st_eq]; exact rowSt_below (g := w.heap.size) (n := w.heap.size) (Nat.le_refl _) (stpC SF) 0 _ HI.out.bel
          have HZ9 := Lib.hid (And.intro hza hzb)
          clear hza hzb
          generalize w9.setCells w.heap.size 0 (stpC SF) = wz at *
          refine bodyPost_ret (v := .tuple #[stpV SF, .bool true]) (by simp [results, Tryd.results23, show (asAddr (Value.pointer (some ⟨w.heap.size, 0, none⟩))).run Tryd.prog wz = .ok ⟨w.heap.size, 0, none⟩ wz from rfl, stp_loadVar HZ9.out.1]) rfl ?_
          exact .good HZ9.out.2 HY.out
        · have HN := Lib.hid (fin_no HSF.out (by rw [hR]; intro e; exact hl (Option.some.inj e)))
          rw [decide_eq_false hl] at hxe
          clear hR hl
          go_wp2_with (first
            | (with_reducible refine wpList_load_mid rfl 39 _ rfl g5 0 rfl (stpC SF) _ HR.out Tryd.underlying39 rfl (stpC_size SF) ?_)
            | ((with_reducible refine wpList_store_mid rfl 39 _ _ rfl w.heap.size 0 _ rfl rfl ?_ ?_ ?_ ?_); exact there_row (cs := stpC (stp0 0 0)) HI.out.z; exact stpC_size SF; exact all_oneCell_toArray (stpC_one SF)))
          change bodyPost _ _ _ _ _ (w9.setCells w.heap.size 0 (stpC SF))
          have hza : StpAt (w9.setCells w.heap.size 0 (stpC SF)) w.heap.size SF := by rw [st_eq]; exact rowSt_row (stpC SF) [] (stpC (stp0 0 0)) w9 HI.out.z rfl
          have hzb : Below w.heap.size w (w9.setCells w.heap.size 0 (stpC SF)) := by rw [st_eq]; exact rowSt_below (g := w.heap.size) (n := w.heap.size) (Nat.le_refl _) (stpC SF) 0 _ HI.out.bel
          have HZ9 := Lib.hid (And.intro hza hzb)
          clear hza hzb
          generalize w9.setCells w.heap.size 0 (stpC SF) = wz at *
          refine bodyPost_ret (v := .tuple #[stpV SF, .bool false]) (by simp [results, Tryd.results23, show (asAddr (Value.pointer (some ⟨w.heap.size, 0, none⟩))).run Tryd.prog wz = .ok ⟨w.heap.size, 0, none⟩ wz from rfl, stp_loadVar HZ9.out.1]) rfl ?_
          exact .bad HZ9.out.2 HN.out _
set_option maxRecDepth 100000 in
set_option maxHeartbeats 16000000 in
theorem step_abk (x : ByteArray) (hxs : x.size ≤ 30000) (hT : wdT (wdAt ((splL 32 x.data.toList).headD []) 14) = [65, 66, 75]) (w : World) : Calls Tryd.prog 23 #[.string x] w (ReadR (rdL x.data.toList) w) := by
  obtain ⟨q0, rs, hq⟩ := pcs_cons 32 x
  have hpb := pcs_back 32 x
  have HSP := Lib.hid (fun y => split31_any 32 x (by omega) y)
  have HSZ := Lib.hid (fun (p : ByteArray) (hq : p ∈ pcsB 32 x) => pcs_size hq)
  obtain ⟨ps, hps⟩ : ∃ ps, ps = pcsB 32 x := ⟨_, rfl⟩
  rw [← hps] at hpb HSP HSZ hq
  have hpb1 := congrArg List.length hpb
  rw [List.length_map] at hpb1
  obtain ⟨m, hm⟩ : ∃ m, m + 1 = ps.length := ⟨rs.length, by rw [hq]; rfl⟩
  rw [← hm] at hpb1
  unfold SplR at HSP
  rw [← hm] at HSP
  have HPB := Lib.hid (And.intro hpb (And.intro hpb1.symm hm.symm))
  obtain ⟨p0, hp0⟩ : ∃ p0, ps[0]? = some p0 := ⟨q0, by rw [hq]; rfl⟩
  have HP0 := Lib.hid hp0
  have hw0 : (splL 32 x.data.toList).headD [] = p0.data.toList := by rw [← hpb, hq] ; rw [hq] at hp0; cases hp0; rfl
  rw [hw0] at hT
  have HW0 := Lib.hid hw0
  have HT := Lib.hid hT
  have HGT := Lib.hid (show ∀ j, j < m + 1 → ∃ p, ps[j]? = some p ∧ p.data.toList = (splL 32 x.data.toList).getD j [] ∧ p.size ≤ x.size from fun j hj => by
    have h1 : ps[j]? = some (ps[j]'(by omega)) := List.getElem?_eq_getElem (by omega)
    refine ⟨_, h1, ?_, HSZ.out _ (List.getElem_mem _)⟩
    rw [← hpb, List.getD, List.getElem?_map, h1]
    rfl)
  have hml : m ≤ 30001 := by
    have h1 := pcs_many 32 x
    rw [← hps, ← hm] at h1
    omega
  have HML := Lib.hid hml
  have hb0 := (Below.refl w.heap.size w).alloc (Nat.le_refl _) (.cells (stpC (stp0 0 0)).toArray 39)
  have hG0 : StpAt (w.alloc (.cells (stpC (stp0 0 0)).toArray 39)) w.heap.size (stp0 0 0) := heap_alloc_new _ _
  have H0 := Lib.hid (And.intro hb0 hG0)
  have HXS := Lib.hid hxs
  clear hpb hpb1 hps hq hm hp0 hw0 hT hml hb0 hG0 hxs
  go_enter Tryd.func23, Tryd.ntmps23
  go_upto_region 1 with fail
  change Code.wp _ _ _ _ (w.alloc (.cells (stpC (stp0 0 0)).toArray 39))
  generalize w.alloc (.cells (stpC (stp0 0 0)).toArray 39) = wa at *
  go_upto_region 2 with (go_at_call 22; refine (HSP.out wa).mono ?_; rintro e wb ⟨g, cap, rfl, hps, hb1⟩; have H1 := Lib.hid (And.intro (H0.out.1.trans (hb1.mono H0.out.1.size)) (And.intro (H0.out.2.below hb1) hps)); clear hb1 hps)
  clear H0 HSP
  go_upto_region 4 with fail
  change Code.wp _ _ _ _ (wb.alloc (.cells (stpC (stp0 0 0)).toArray 39))
  have hb2 := (Below.refl wb.heap.size wb).alloc (Nat.le_refl _) (.cells (stpC (stp0 0 0)).toArray 39)
  have HI := Lib.hid (show StI w w.heap.size g wb.heap.size ps (stp0 0 0) (wb.alloc (.cells (stpC (stp0 0 0)).toArray 39)) from ⟨H1.out.2.1.below hb2, H1.out.2.2.below hb2, heap_alloc_new _ _, H1.out.1.trans (hb2.mono H1.out.1.size), Nat.le_refl _, H1.out.2.1.lt, H1.out.2.2.lt⟩)
  generalize wb.alloc (.cells (stpC (stp0 0 0)).toArray 39) = wc at *
  generalize wb.heap.size = g5 at *
  clear hb2 H1
  go_loopw [6] (fun s6 wr => ∃ i : Nat, s6 = .int .u8 (i : Int) ∧ 1 ≤ i ∧ i ≤ 14 ∧ StI w w.heap.size g g5 ps (stp0 (wdAt p0.data.toList i) 0) wr) (fun s6 _ => 14 - (intOf s6).toNat)
  case atStart => exact ⟨1, rfl, Nat.le_refl _, by decide, HI.out⟩
  case round =>
    clear HI
    obtain ⟨i, rfl, hi1, hi14, hI⟩ := hrel
    have HI := Lib.hid hI
    clear hI
    by_cases hlt : i < 14
    · have hlt' : (i : Int) < 14 := by omega
      have HW := Lib.hid (fun y => word_any i (by omega) y)
      have hw8 : IntKind.u8.wrap ((i : Int) + 1) = (i : Int) + 1 := by rw [IntKind.wrap_u8']; omega
      have hpc := HI.out.piece HP0.out
      obtain ⟨nm, hnm⟩ : ∃ nm : ByteArray, nm = ⟨(wdN i).toArray⟩ := ⟨_, rfl⟩
      unfold TwoS at HW
      rw [← hnm] at HW
      have HNM := Lib.hid (show nm.data.toList = wdN i by rw [hnm])
      clear hnm
      go_upto_region 7 with (go_at_call 34; refine (HW.out wr).mono ?_; rintro e w2 ⟨rfl, hb2⟩; replace HI := Lib.hid (HI.out.below hb2); clear hb2)
      clear hpc HW
      have hpc := HI.out.piece HP0.out
      by_cases hq : wdN i = p0.data.toList
      · have hqv : (nm.toList == p0.toList) = true := by rw [beq_iff_eq, ByteArray.toList_eq, ByteArray.toList_eq, HNM.out]; exact hq
        have HD := Lib.hid (show wdAt p0.data.toList (i + 1) = i by unfold wdAt; rw [if_pos ⟨hi1, hq⟩])
        clear hq
        obtain ⟨q0, q1, q2, q3, q6, q7, q8, q9, q10⟩ := StpAt.cells HI.out.s
        have hth := thaw_row 0 HI.out.s
        go_upto_region 5 with fail
        have HI2 := HI.out.set (stp0 i 0) 0 (.int .u8 (i : Int)) rfl
        replace HI := Lib.hid HI2
        clear HI2 hth hpc
        clear q0 q1 q2 q3 q6 q7 q8 q9 q10
        generalize w2.setCell ⟨g5, 0, none⟩ (.int .u8 (i : Int)) = w3 at *
        go_wp2
        go_roundw
        case rel => exact ⟨i + 1, (by first | rfl | simp), by omega, hlt, by rw [HD.out]; exact HI.out⟩
        case measure => simp only [intOf]; omega
      · have hqv : (nm.toList == p0.toList) = false := by rw [beq_eq_false_iff_ne, ByteArray.toList_eq, ByteArray.toList_eq, HNM.out]; exact hq
        have HD := Lib.hid (show wdAt p0.data.toList (i + 1) = wdAt p0.data.toList i by conv => lhs; unfold wdAt; rw [if_neg (fun h => hq h.2)])
        clear hq
        go_wp2
        go_roundw
        case rel => exact ⟨i + 1, (by first | rfl | simp), by omega, hlt, by rw [HD.out]; exact HI.out⟩
        case measure => simp only [intOf]; omega
    have hlt' : ¬ (i : Int) < 14 := by omega
    obtain rfl : i = 14 := by omega
    clear hi1 hi14 hlt
    obtain ⟨d, hd⟩ : ∃ d, d = wdAt p0.data.toList 14 := ⟨_, rfl⟩
    rw [← hd] at HI HT
    have hd14 : d ≤ 13 := by rw [hd]; exact wdAt_lt _ 13
    have HD := Lib.hid (And.intro hd hd14)
    have HW := Lib.hid (fun y => word_any d (by omega) y)
    rw [HT.out] at HW
    unfold TwoS at HW
    clear hd hd14
    obtain ⟨f0, f1, f2, f3, f6, f7, f8, f9, f10⟩ := StpAt.cells HI.out.s
    go_upto_region 10 with (go_at_call 34; refine (HW.out _).mono ?_; rintro e w2 ⟨rfl, hb2⟩; replace HI := Lib.hid (HI.out.below hb2); clear hb2)
    clear f0 f1 f2 f3 f6 f7 f8 f9 f10 HW
    have hdn : d ≠ 12 := fun e => by
      have h := HT.out
      rw [e] at h
      revert h
      decide
    have hd12 : ((d : Int) == 12) = false := by rw [beq_eq_false_iff_ne]; omega
    by_cases hm1 : 1 ≤ m
    · have hg1 : (m : Int) + 1 > 1 := by omega
      by_cases hm2 : 2 ≤ m
      · have hg2 : (m : Int) + 1 > 2 := by omega
        obtain ⟨p1, hp1, ht1, hz1⟩ := HGT.out 1 (by omega)
        have HP1 := Lib.hid (And.intro hp1 ht1)
        have HC1 := Lib.hid (fun y => small31_any p1 (by have := HXS.out; omega) y)
        clear hp1 ht1 hz1
        go_upto_region 11 with fail
        have hpc := HI.out.piece HP1.out.1
        obtain ⟨q0, q1, q2, q3, q6, q7, q8, q9, q10⟩ := StpAt.cells HI.out.s
        have hth := thaw_row 1 HI.out.s
        go_upto_region 12 with (go_at_call 40; refine (HC1.out _).mono ?_; rintro e v1 ⟨⟨bb, rfl⟩, rfl⟩)
        have HI2 := HI.out.set { (stp0 d 0) with a := smV p1.data.toList } 1 (.int .u8 (smV p1.data.toList : Int)) rfl
        replace HI := Lib.hid HI2
        clear HI2 hth hpc HC1
        clear q0 q1 q2 q3 q6 q7 q8 q9 q10
        generalize World.setCell _ ⟨g5, 1, none⟩ (.int .u8 (smV p1.data.toList : Int)) = wn1 at *
        obtain ⟨p2, hp2, ht2, hz2⟩ := HGT.out 2 (by omega)
        have HP2 := Lib.hid (And.intro hp2 ht2)
        have HC2 := Lib.hid (fun y => small31_any p2 (by have := HXS.out; omega) y)
        clear hp2 ht2 hz2
        go_upto_region 13 with fail
        have hpc := HI.out.piece HP2.out.1
        obtain ⟨q0, q1, q2, q3, q6, q7, q8, q9, q10⟩ := StpAt.cells HI.out.s
        have hth := thaw_row 2 HI.out.s
        go_upto_region 14 with (go_at_call 40; refine (HC2.out _).mono ?_; rintro e v1 ⟨⟨bb, rfl⟩, rfl⟩)
        have HI2 := HI.out.set { ({ (stp0 d 0) with a := smV p1.data.toList } : StpV) with b := smV p2.data.toList } 2 (.int .u8 (smV p2.data.toList : Int)) rfl
        replace HI := Lib.hid HI2
        clear HI2 hth hpc HC2
        clear q0 q1 q2 q3 q6 q7 q8 q9 q10
        generalize World.setCell _ ⟨g5, 2, none⟩ (.int .u8 (smV p2.data.toList : Int)) = wn2 at *
        have hwm : wrap64 (m : Int) = (m : Int) := wrap64_id (by have := HML.out; omega)
        obtain ⟨p9, hp9, ht9, hz9⟩ := HGT.out m (by omega)
        have HP9 := Lib.hid (And.intro hp9 ht9)
        have HC9 := Lib.hid (fun y => number31_any p9 (by have := HXS.out; omega) y)
        clear hp9 ht9 hz9
        go_upto_region 15 with fail
        have hpc := HI.out.piece HP9.out.1
        obtain ⟨q0, q1, q2, q3, q6, q7, q8, q9, q10⟩ := StpAt.cells HI.out.s
        have hth := thaw_row 3 HI.out.s
        go_upto_region 16 with (go_at_call 41; refine (HC9.out _).mono ?_; rintro e v1 ⟨⟨bb, rfl⟩, rfl⟩)
        have HI2 := HI.out.set { ({ ({ (stp0 d 0) with a := smV p1.data.toList } : StpV) with b := smV p2.data.toList } : StpV) with k := numV p9.data.toList } 3 (.int .i64 (numV p9.data.toList)) rfl
        replace HI := Lib.hid HI2
        clear HI2 hth hpc HC9
        clear q0 q1 q2 q3 q6 q7 q8 q9 q10
        generalize World.setCell _ ⟨g5, 3, none⟩ (.int .i64 (numV p9.data.toList)) = wn9 at *
        have f0 : World.cell? _ ⟨g5, 0, none⟩ = some (.int .u8 (d : Int)) := (StpAt.cells HI.out.s).1
        go_upto_region 35 with fail
        clear f0
        obtain ⟨SF, hSF⟩ : ∃ SF : StpV, SF = { ({ ({ (stp0 d 0) with a := smV p1.data.toList } : StpV) with b := smV p2.data.toList } : StpV) with k := numV p9.data.toList } := ⟨_, rfl⟩
        rw [← hSF] at HI
        have HSF := Lib.hid (show SF = stepW (splL 32 x.data.toList) by
          rw [hSF]
          unfold stepW
          rw [HW0.out, ← HD.out.1, HT.out]
          have eA : stA [65, 66, 75] (splL 32 x.data.toList) (stp0 d 0) = { (stp0 d 0) with a := smV p1.data.toList } := by
            unfold stA
            rw [if_pos (by rw [HPB.out.2.1]; exact ⟨by omega, by decide⟩)]
            rw [← HP1.out.2]
          rw [eA]
          have eB : stB [65, 66, 75] (splL 32 x.data.toList) { (stp0 d 0) with a := smV p1.data.toList } = { { (stp0 d 0) with a := smV p1.data.toList } with b := smV p2.data.toList } := by
            unfold stB
            rw [if_pos (by rw [HPB.out.2.1]; exact ⟨by omega, by decide⟩)]
            rw [← HP2.out.2]
          rw [eB]
          have eK : stK [65, 66, 75] (splL 32 x.data.toList) { { (stp0 d 0) with a := smV p1.data.toList } with b := smV p2.data.toList } = { { { (stp0 d 0) with a := smV p1.data.toList } with b := smV p2.data.toList } with k := numV p9.data.toList } := by
            unfold stK
            rw [if_pos (by decide)]
            rw [HPB.out.2.1, Nat.add_sub_cancel, ← HP9.out.2]
          rw [eK]
          unfold stC
          rw [if_neg (fun q => hdn q.1)])
        clear hSF
        have hof := step_ok (splL 32 x.data.toList) (fun p hp => by
          have h1 := HPB.out.1
          rw [← h1] at hp
          obtain ⟨q, hq, rfl⟩ := List.mem_map.1 hp
          have h2 := HSZ.out q hq
          have h3 := HXS.out
          have h4 : q.data.toList.length = q.size := Array.length_toList
          omega)
        rw [← HSF.out] at hof
        have HOK := Lib.hid hof
        clear hof
        have HSAY := Lib.hid (fun y => say31_any SF HOK.out.1 HOK.out.2 y)
        have HR := Lib.hid (range_row HI.out.s)
        go_upto_region 36 with (first
          | (with_reducible refine wpList_load_mid rfl 39 _ rfl g5 0 rfl (stpC SF) _ HR.out Tryd.underlying39 rfl (stpC_size SF) ?_)
          | (go_at_call 20; refine (HSAY.out _).mono ?_; rintro e w9 ⟨hb9, X, rfl, hX, hXz⟩; replace HI := Lib.hid (HI.out.below hb9); have HXX := Lib.hid hX; clear hb9 hX hXz))
        clear HR HSAY
        have HR := Lib.hid (range_row HI.out.s)
        cases hR : sayL SF with
        | none =>
          have HN := Lib.hid (fin_no HSF.out (by rw [hR]; exact fun e => by cases e))
          clear hR
          simp only [Option.isSome_none]
          go_wp2_with (first
            | (with_reducible refine wpList_load_mid rfl 39 _ rfl g5 0 rfl (stpC SF) _ HR.out Tryd.underlying39 rfl (stpC_size SF) ?_)
            | ((with_reducible refine wpList_store_mid rfl 39 _ _ rfl w.heap.size 0 _ rfl rfl ?_ ?_ ?_ ?_); exact there_row (cs := stpC (stp0 0 0)) HI.out.z; exact stpC_size SF; exact all_oneCell_toArray (stpC_one SF)))
          change bodyPost _ _ _ _ _ (w9.setCells w.heap.size 0 (stpC SF))
          have hza : StpAt (w9.setCells w.heap.size 0 (stpC SF)) w.heap.size SF := by rw [st_eq]; exact rowSt_row (stpC SF) [] (stpC (stp0 0 0)) w9 HI.out.z rfl
          have hzb : Below w.heap.size w (w9.setCells w.heap.size 0 (stpC SF)) := by rw [st_eq]; exact rowSt_below (g := w.heap.size) (n := w.heap.size) (Nat.le_refl _) (stpC SF) 0 _ HI.out.bel
          have HZ9 := Lib.hid (And.intro hza hzb)
          clear hza hzb
          generalize w9.setCells w.heap.size 0 (stpC SF) = wz at *
          refine bodyPost_ret (v := .tuple #[stpV SF, .bool false]) (by simp [results, Tryd.results23, show (asAddr (Value.pointer (some ⟨w.heap.size, 0, none⟩))).run Tryd.prog wz = .ok ⟨w.heap.size, 0, none⟩ wz from rfl, stp_loadVar HZ9.out.1]) rfl ?_
          exact .bad HZ9.out.2 HN.out _
        | some l =>
          obtain rfl := HXX.out l hR
          have hxe : (l == x.toList) = decide (l = x.data.toList) := by rw [Bool.eq_iff_iff, beq_iff_eq, decide_eq_true_iff, ByteArray.toList_eq]
          simp only [Option.isSome_some]
          by_cases hl : l = x.data.toList
          · have HY := Lib.hid (fin_yes HOK.out.1 (by rw [hR, hl]))
            rw [decide_eq_true hl] at hxe
            clear hR hl
            go_wp2_with (first
              | (with_reducible refine wpList_load_mid rfl 39 _ rfl g5 0 rfl (stpC SF) _ HR.out Tryd.underlying39 rfl (stpC_size SF) ?_)
              | ((with_reducible refine wpList_store_mid rfl 39 _ _ rfl w.heap.size 0 _ rfl rfl ?_ ?_ ?_ ?_); exact there_row (cs := stpC (stp0 0 0)) HI.out.z; exact stpC_size SF; exact all_oneCell_toArray (stpC_one SF)))
            change bodyPost _ _ _ _ _ (w9.setCells w.heap.size 0 (stpC SF))
            have hza : StpAt (w9.setCells w.heap.size 0 (stpC SF)) w.heap.size SF := by rw [st_eq]; exact rowSt_row (stpC SF) [] (stpC (stp0 0 0)) w9 HI.out.z rfl
            have hzb : Below w.heap.size w (w9.setCells w.heap.size 0 (stpC SF)) := by rw [st_eq]; exact rowSt_below (g := w.heap.size) (n := w.heap.size) (Nat.le_refl _) (stpC SF) 0 _ HI.out.bel
            have HZ9 := Lib.hid (And.intro hza hzb)
            clear hza hzb
            generalize w9.setCells w.heap.size 0 (stpC SF) = wz at *
            refine bodyPost_ret (v := .tuple #[stpV SF, .bool true]) (by simp [results, Tryd.results23, show (asAddr (Value.pointer (some ⟨w.heap.size, 0, none⟩))).run Tryd.prog wz = .ok ⟨w.heap.size, 0, none⟩ wz from rfl, stp_loadVar HZ9.out.1]) rfl ?_
            exact .good HZ9.out.2 HY.out
          · have HN := Lib.hid (fin_no HSF.out (by rw [hR]; intro e; exact hl (Option.some.inj e)))
            rw [decide_eq_false hl] at hxe
            clear hR hl
            go_wp2_with (first
              | (with_reducible refine wpList_load_mid rfl 39 _ rfl g5 0 rfl (stpC SF) _ HR.out Tryd.underlying39 rfl (stpC_size SF) ?_)
              | ((with_reducible refine wpList_store_mid rfl 39 _ _ rfl w.heap.size 0 _ rfl rfl ?_ ?_ ?_ ?_); exact there_row (cs := stpC (stp0 0 0)) HI.out.z; exact stpC_size SF; exact all_oneCell_toArray (stpC_one SF)))
            change bodyPost _ _ _ _ _ (w9.setCells w.heap.size 0 (stpC SF))
            have hza : StpAt (w9.setCells w.heap.size 0 (stpC SF)) w.heap.size SF := by rw [st_eq]; exact rowSt_row (stpC SF) [] (stpC (stp0 0 0)) w9 HI.out.z rfl
            have hzb : Below w.heap.size w (w9.setCells w.heap.size 0 (stpC SF)) := by rw [st_eq]; exact rowSt_below (g := w.heap.size) (n := w.heap.size) (Nat.le_refl _) (stpC SF) 0 _ HI.out.bel
            have HZ9 := Lib.hid (And.intro hza hzb)
            clear hza hzb
            generalize w9.setCells w.heap.size 0 (stpC SF) = wz at *
            refine bodyPost_ret (v := .tuple #[stpV SF, .bool false]) (by simp [results, Tryd.results23, show (asAddr (Value.pointer (some ⟨w.heap.size, 0, none⟩))).run Tryd.prog wz = .ok ⟨w.heap.size, 0, none⟩ wz from rfl, stp_loadVar HZ9.out.1]) rfl ?_
            exact .bad HZ9.out.2 HN.out _
      · have hg2 : ¬ ((m : Int) + 1 > 2) := by omega
        obtain ⟨p1, hp1, ht1, hz1⟩ := HGT.out 1 (by omega)
        have HP1 := Lib.hid (And.intro hp1 ht1)
        have HC1 := Lib.hid (fun y => small31_any p1 (by have := HXS.out; omega) y)
        clear hp1 ht1 hz1
        go_upto_region 11 with fail
        have hpc := HI.out.piece HP1.out.1
        obtain ⟨q0, q1, q2, q3, q6, q7, q8, q9, q10⟩ := StpAt.cells HI.out.s
        have hth := thaw_row 1 HI.out.s
        go_upto_region 12 with (go_at_call 40; refine (HC1.out _).mono ?_; rintro e v1 ⟨⟨bb, rfl⟩, rfl⟩)
        have HI2 := HI.out.set { (stp0 d 0) with a := smV p1.data.toList } 1 (.int .u8 (smV p1.data.toList : Int)) rfl
        replace HI := Lib.hid HI2
        clear HI2 hth hpc HC1
        clear q0 q1 q2 q3 q6 q7 q8 q9 q10
        generalize World.setCell _ ⟨g5, 1, none⟩ (.int .u8 (smV p1.data.toList : Int)) = wn1 at *
        have hwm : wrap64 (m : Int) = (m : Int) := wrap64_id (by have := HML.out; omega)
        obtain ⟨p9, hp9, ht9, hz9⟩ := HGT.out m (by omega)
        have HP9 := Lib.hid (And.intro hp9 ht9)
        have HC9 := Lib.hid (fun y => number31_any p9 (by have := HXS.out; omega) y)
        clear hp9 ht9 hz9
        go_upto_region 15 with fail
        have hpc := HI.out.piece HP9.out.1
        obtain ⟨q0, q1, q2, q3, q6, q7, q8, q9, q10⟩ := StpAt.cells HI.out.s
        have hth := thaw_row 3 HI.out.s
        go_upto_region 16 with (go_at_call 41; refine (HC9.out _).mono ?_; rintro e v1 ⟨⟨bb, rfl⟩, rfl⟩)
        have HI2 := HI.out.set { ({ (stp0 d 0) with a := smV p1.data.toList } : StpV) with k := numV p9.data.toList } 3 (.int .i64 (numV p9.data.toList)) rfl
        replace HI := Lib.hid HI2
        clear HI2 hth hpc HC9
        clear q0 q1 q2 q3 q6 q7 q8 q9 q10
        generalize World.setCell _ ⟨g5, 3, none⟩ (.int .i64 (numV p9.data.toList)) = wn9 at *
        have f0 : World.cell? _ ⟨g5, 0, none⟩ = some (.int .u8 (d : Int)) := (StpAt.cells HI.out.s).1
        go_upto_region 35 with fail
        clear f0
        obtain ⟨SF, hSF⟩ : ∃ SF : StpV, SF = { ({ (stp0 d 0) with a := smV p1.data.toList } : StpV) with k := numV p9.data.toList } := ⟨_, rfl⟩
        rw [← hSF] at HI
        have HSF := Lib.hid (show SF = stepW (splL 32 x.data.toList) by
          rw [hSF]
          unfold stepW
          rw [HW0.out, ← HD.out.1, HT.out]
          have eA : stA [65, 66, 75] (splL 32 x.data.toList) (stp0 d 0) = { (stp0 d 0) with a := smV p1.data.toList } := by
            unfold stA
            rw [if_pos (by rw [HPB.out.2.1]; exact ⟨by omega, by decide⟩)]
            rw [← HP1.out.2]
          rw [eA]
          have eB : stB [65, 66, 75] (splL 32 x.data.toList) { (stp0 d 0) with a := smV p1.data.toList } = { (stp0 d 0) with a := smV p1.data.toList } := by
            unfold stB
            rw [if_neg (by rw [HPB.out.2.1]; omega)]
          rw [eB]
          have eK : stK [65, 66, 75] (splL 32 x.data.toList) { (stp0 d 0) with a := smV p1.data.toList } = { { (stp0 d 0) with a := smV p1.data.toList } with k := numV p9.data.toList } := by
            unfold stK
            rw [if_pos (by decide)]
            rw [HPB.out.2.1, Nat.add_sub_cancel, ← HP9.out.2]
          rw [eK]
          unfold stC
          rw [if_neg (fun q => hdn q.1)])
        clear hSF
        have hof := step_ok (splL 32 x.data.toList) (fun p hp => by
          have h1 := HPB.out.1
          rw [← h1] at hp
          obtain ⟨q, hq, rfl⟩ := List.mem_map.1 hp
          have h2 := HSZ.out q hq
          have h3 := HXS.out
          have h4 : q.data.toList.length = q.size := Array.length_toList
          omega)
        rw [← HSF.out] at hof
        have HOK := Lib.hid hof
        clear hof
        have HSAY := Lib.hid (fun y => say31_any SF HOK.out.1 HOK.out.2 y)
        have HR := Lib.hid (range_row HI.out.s)
        go_upto_region 36 with (first
          | (with_reducible refine wpList_load_mid rfl 39 _ rfl g5 0 rfl (stpC SF) _ HR.out Tryd.underlying39 rfl (stpC_size SF) ?_)
          | (go_at_call 20; refine (HSAY.out _).mono ?_; rintro e w9 ⟨hb9, X, rfl, hX, hXz⟩; replace HI := Lib.hid (HI.out.below hb9); have HXX := Lib.hid hX; clear hb9 hX hXz))
        clear HR HSAY
        have HR := Lib.hid (range_row HI.out.s)
        cases hR : sayL SF with
        | none =>
          have HN := Lib.hid (fin_no HSF.out (by rw [hR]; exact fun e => by cases e))
          clear hR
          simp only [Option.isSome_none]
          go_wp2_with (first
            | (with_reducible refine wpList_load_mid rfl 39 _ rfl g5 0 rfl (stpC SF) _ HR.out Tryd.underlying39 rfl (stpC_size SF) ?_)
            | ((with_reducible refine wpList_store_mid rfl 39 _ _ rfl w.heap.size 0 _ rfl rfl ?_ ?_ ?_ ?_); exact there_row (cs := stpC (stp0 0 0)) HI.out.z; exact stpC_size SF; exact all_oneCell_toArray (stpC_one SF)))
          change bodyPost _ _ _ _ _ (w9.setCells w.heap.size 0 (stpC SF))
          have hza : StpAt (w9.setCells w.heap.size 0 (stpC SF)) w.heap.size SF := by rw [st_eq]; exact rowSt_row (stpC SF) [] (stpC (stp0 0 0)) w9 HI.out.z rfl
          have hzb : Below w.heap.size w (w9.setCells w.heap.size 0 (stpC SF)) := by rw [st_eq]; exact rowSt_below (g := w.heap.size) (n := w.heap.size) (Nat.le_refl _) (stpC SF) 0 _ HI.out.bel
          have HZ9 := Lib.hid (And.intro hza hzb)
          clear hza hzb
          generalize w9.setCells w.heap.size 0 (stpC SF) = wz at *
          refine bodyPost_ret (v := .tuple #[stpV SF, .bool false]) (by simp [results, Tryd.results23, show (asAddr (Value.pointer (some ⟨w.heap.size, 0, none⟩))).run Tryd.prog wz = .ok ⟨w.heap.size, 0, none⟩ wz from rfl, stp_loadVar HZ9.out.1]) rfl ?_
          exact .bad HZ9.out.2 HN.out _
        | some l =>
          obtain rfl := HXX.out l hR
          have hxe : (l == x.toList) = decide (l = x.data.toList) := by rw [Bool.eq_iff_iff, beq_iff_eq, decide_eq_true_iff, ByteArray.toList_eq]
          simp only [Option.isSome_some]
          by_cases hl : l = x.data.toList
          · have HY := Lib.hid (fin_yes HOK.out.1 (by rw [hR, hl]))
            rw [decide_eq_true hl] at hxe
            clear hR hl
            go_wp2_with (first
              | (with_reducible refine wpList_load_mid rfl 39 _ rfl g5 0 rfl (stpC SF) _ HR.out Tryd.underlying39 rfl (stpC_size SF) ?_)
              | ((with_reducible refine wpList_store_mid rfl 39 _ _ rfl w.heap.size 0 _ rfl rfl ?_ ?_ ?_ ?_); exact there_row (cs := stpC (stp0 0 0)) HI.out.z; exact stpC_size SF; exact all_oneCell_toArray (stpC_one SF)))
            change bodyPost _ _ _ _ _ (w9.setCells w.heap.size 0 (stpC SF))
            have hza : StpAt (w9.setCells w.heap.size 0 (stpC SF)) w.heap.size SF := by rw [st_eq]; exact rowSt_row (stpC SF) [] (stpC (stp0 0 0)) w9 HI.out.z rfl
            have hzb : Below w.heap.size w (w9.setCells w.heap.size 0 (stpC SF)) := by rw [st_eq]; exact rowSt_below (g := w.heap.size) (n := w.heap.size) (Nat.le_refl _) (stpC SF) 0 _ HI.out.bel
            have HZ9 := Lib.hid (And.intro hza hzb)
            clear hza hzb
            generalize w9.setCells w.heap.size 0 (stpC SF) = wz at *
            refine bodyPost_ret (v := .tuple #[stpV SF, .bool true]) (by simp [results, Tryd.results23, show (asAddr (Value.pointer (some ⟨w.heap.size, 0, none⟩))).run Tryd.prog wz = .ok ⟨w.heap.size, 0, none⟩ wz from rfl, stp_loadVar HZ9.out.1]) rfl ?_
            exact .good HZ9.out.2 HY.out
          · have HN := Lib.hid (fin_no HSF.out (by rw [hR]; intro e; exact hl (Option.some.inj e)))
            rw [decide_eq_false hl] at hxe
            clear hR hl
            go_wp2_with (first
              | (with_reducible refine wpList_load_mid rfl 39 _ rfl g5 0 rfl (stpC SF) _ HR.out Tryd.underlying39 rfl (stpC_size SF) ?_)
              | ((with_reducible refine wpList_store_mid rfl 39 _ _ rfl w.heap.size 0 _ rfl rfl ?_ ?_ ?_ ?_); exact there_row (cs := stpC (stp0 0 0)) HI.out.z; exact stpC_size SF; exact all_oneCell_toArray (stpC_one SF)))
            change bodyPost _ _ _ _ _ (w9.setCells w.heap.size 0 (stpC SF))
            have hza : StpAt (w9.setCells w.heap.size 0 (stpC SF)) w.heap.size SF := by rw [st_eq]; exact rowSt_row (stpC SF) [] (stpC (stp0 0 0)) w9 HI.out.z rfl
            have hzb : Below w.heap.size w (w9.setCells w.heap.size 0 (stpC SF)) := by rw [st_eq]; exact rowSt_below (g := w.heap.size) (n := w.heap.size) (Nat.le_refl _) (stpC SF) 0 _ HI.out.bel
            have HZ9 := Lib.hid (And.intro hza hzb)
            clear hza hzb
            generalize w9.setCells w.heap.size 0 (stpC SF) = wz at *
            refine bodyPost_ret (v := .tuple #[stpV SF, .bool false]) (by simp [results, Tryd.results23, show (asAddr (Value.pointer (some ⟨w.heap.size, 0, none⟩))).run Tryd.prog wz = .ok ⟨w.heap.size, 0, none⟩ wz from rfl, stp_loadVar HZ9.out.1]) rfl ?_
            exact .bad HZ9.out.2 HN.out _
    · have hg1 : ¬ ((m : Int) + 1 > 1) := by omega
      have hg2 : ¬ ((m : Int) + 1 > 2) := by omega
      have hwm : wrap64 (m : Int) = (m : Int) := wrap64_id (by have := HML.out; omega)
      obtain ⟨p9, hp9, ht9, hz9⟩ := HGT.out m (by omega)
      have HP9 := Lib.hid (And.intro hp9 ht9)
      have HC9 := Lib.hid (fun y => number31_any p9 (by have := HXS.out; omega) y)
      clear hp9 ht9 hz9
      go_upto_region 15 with fail
      have hpc := HI.out.piece HP9.out.1
      obtain ⟨q0, q1, q2, q3, q6, q7, q8, q9, q10⟩ := StpAt.cells HI.out.s
      have hth := thaw_row 3 HI.out.s
      go_upto_region 16 with (go_at_call 41; refine (HC9.out _).mono ?_; rintro e v1 ⟨⟨bb, rfl⟩, rfl⟩)
      have HI2 := HI.out.set { (stp0 d 0) with k := numV p9.data.toList } 3 (.int .i64 (numV p9.data.toList)) rfl
      replace HI := Lib.hid HI2
      clear HI2 hth hpc HC9
      clear q0 q1 q2 q3 q6 q7 q8 q9 q10
      generalize World.setCell _ ⟨g5, 3, none⟩ (.int .i64 (numV p9.data.toList)) = wn9 at *
      have f0 : World.cell? _ ⟨g5, 0, none⟩ = some (.int .u8 (d : Int)) := (StpAt.cells HI.out.s).1
      go_upto_region 35 with fail
      clear f0
      obtain ⟨SF, hSF⟩ : ∃ SF : StpV, SF = { (stp0 d 0) with k := numV p9.data.toList } := ⟨_, rfl⟩
      rw [← hSF] at HI
      have HSF := Lib.hid (show SF = stepW (splL 32 x.data.toList) by
        rw [hSF]
        unfold stepW
        rw [HW0.out, ← HD.out.1, HT.out]
        have eA : stA [65, 66, 75] (splL 32 x.data.toList) (stp0 d 0) = (stp0 d 0) := by
          unfold stA
          rw [if_neg (by rw [HPB.out.2.1]; omega)]
        rw [eA]
        have eB : stB [65, 66, 75] (splL 32 x.data.toList) (stp0 d 0) = (stp0 d 0) := by
          unfold stB
          rw [if_neg (by rw [HPB.out.2.1]; omega)]
        rw [eB]
        have eK : stK [65, 66, 75] (splL 32 x.data.toList) (stp0 d 0) = { (stp0 d 0) with k := numV p9.data.toList } := by
          unfold stK
          rw [if_pos (by decide)]
          rw [HPB.out.2.1, Nat.add_sub_cancel, ← HP9.out.2]
        rw [eK]
        unfold stC
        rw [if_neg (fun q => hdn q.1)])
      clear hSF
      have hof := step_ok (splL 32 x.data.toList) (fun p hp => by
        have h1 := HPB.out.1
        rw [← h1] at hp
        obtain ⟨q, hq, rfl⟩ := List.mem_map.1 hp
        have h2 := HSZ.out q hq
        have h3 := HXS.out
        have h4 : q.data.toList.length = q.size := Array.length_toList
        omega)
      rw [← HSF.out] at hof
      have HOK := Lib.hid hof
      clear hof
      have HSAY := Lib.hid (fun y => say31_any SF HOK.out.1 HOK.out.2 y)
      have HR := Lib.hid (range_row HI.out.s)
      go_upto_region 36 with (first
        | (with_reducible refine wpList_load_mid rfl 39 _ rfl g5 0 rfl (stpC SF) _ HR.out Tryd.underlying39 rfl (stpC_size SF) ?_)
        | (go_at_call 20; refine (HSAY.out _).mono ?_; rintro e w9 ⟨hb9, X, rfl, hX, hXz⟩; replace HI := Lib.hid (HI.out.below hb9); have HXX := Lib.hid hX; clear hb9 hX hXz))
      clear HR HSAY
      have HR := Lib.hid (range_row HI.out.s)
      cases hR : sayL SF with
      | none =>
        have HN := Lib.hid (fin_no HSF.out (by rw [hR]; exact fun e => by cases e))
        clear hR
        simp only [Option.isSome_none]
        go_wp2_with (first
          | (with_reducible refine wpList_load_mid rfl 39 _ rfl g5 0 rfl (stpC SF) _ HR.out Tryd.underlying39 rfl (stpC_size SF) ?_)
          | ((with_reducible refine wpList_store_mid rfl 39 _ _ rfl w.heap.size 0 _ rfl rfl ?_ ?_ ?_ ?_); exact there_row (cs := stpC (stp0 0 0)) HI.out.z; exact stpC_size SF; exact all_oneCell_toArray (stpC_one SF)))
        change bodyPost _ _ _ _ _ (w9.setCells w.heap.size 0 (stpC SF))
        have hza : StpAt (w9.setCells w.heap.size 0 (stpC SF)) w.heap.size SF := by rw [st_eq]; exact rowSt_row (stpC SF) [] (stpC (stp0 0 0)) w9 HI.out.z rfl
        have hzb : Below w.heap.size w (w9.setCells w.heap.size 0 (stpC SF)) := by rw [st_eq]; exact rowSt_below (g := w.heap.size) (n := w.heap.size) (Nat.le_refl _) (stpC SF) 0 _ HI.out.bel
        have HZ9 := Lib.hid (And.intro hza hzb)
        clear hza hzb
        generalize w9.setCells w.heap.size 0 (stpC SF) = wz at *
        refine bodyPost_ret (v := .tuple #[stpV SF, .bool false]) (by simp [results, Tryd.results23, show (asAddr (Value.pointer (some ⟨w.heap.size, 0, none⟩))).run Tryd.prog wz = .ok ⟨w.heap.size, 0, none⟩ wz from rfl, stp_loadVar HZ9.out.1]) rfl ?_
        exact .bad HZ9.out.2 HN.out _
      | some l =>
        obtain rfl := HXX.out l hR
        have hxe : (l == x.toList) = decide (l = x.data.toList) := by rw [Bool.eq_iff_iff, beq_iff_eq, decide_eq_true_iff, ByteArray.toList_eq]
        simp only [Option.isSome_some]
        by_cases hl : l = x.data.toList
        · have HY := Lib.hid (fin_yes HOK.out.1 (by rw [hR, hl]))
          rw [decide_eq_true hl] at hxe
          clear hR hl
          go_wp2_with (first
            | (with_reducible refine wpList_load_mid rfl 39 _ rfl g5 0 rfl (stpC SF) _ HR.out Tryd.underlying39 rfl (stpC_size SF) ?_)
            | ((with_reducible refine wpList_store_mid rfl 39 _ _ rfl w.heap.size 0 _ rfl rfl ?_ ?_ ?_ ?_); exact there_row (cs := stpC (stp0 0 0)) HI.out.z; exact stpC_size SF; exact all_oneCell_toArray (stpC_one SF)))
          change bodyPost _ _ _ _ _ (w9.setCells w.heap.size 0 (stpC SF))
          have hza : StpAt (w9.setCells w.heap.size 0 (stpC SF)) w.heap.size SF := by rw [st_eq]; exact rowSt_row (stpC SF) [] (stpC (stp0 0 0)) w9 HI.out.z rfl
          have hzb : Below w.heap.size w (w9.setCells w.heap.size 0 (stpC SF)) := by rw [st_eq]; exact rowSt_below (g := w.heap.size) (n := w.heap.size) (Nat.le_refl _) (stpC SF) 0 _ HI.out.bel
          have HZ9 := Lib.hid (And.intro hza hzb)
          clear hza hzb
          generalize w9.setCells w.heap.size 0 (stpC SF) = wz at *
          refine bodyPost_ret (v := .tuple #[stpV SF, .bool true]) (by simp [results, Tryd.results23, show (asAddr (Value.pointer (some ⟨w.heap.size, 0, none⟩))).run Tryd.prog wz = .ok ⟨w.heap.size, 0, none⟩ wz from rfl, stp_loadVar HZ9.out.1]) rfl ?_
          exact .good HZ9.out.2 HY.out
        · have HN := Lib.hid (fin_no HSF.out (by rw [hR]; intro e; exact hl (Option.some.inj e)))
          rw [decide_eq_false hl] at hxe
          clear hR hl
          go_wp2_with (first
            | (with_reducible refine wpList_load_mid rfl 39 _ rfl g5 0 rfl (stpC SF) _ HR.out Tryd.underlying39 rfl (stpC_size SF) ?_)
            | ((with_reducible refine wpList_store_mid rfl 39 _ _ rfl w.heap.size 0 _ rfl rfl ?_ ?_ ?_ ?_); exact there_row (cs := stpC (stp0 0 0)) HI.out.z; exact stpC_size SF; exact all_oneCell_toArray (stpC_one SF)))
          change bodyPost _ _ _ _ _ (w9.setCells w.heap.size 0 (stpC SF))
          have hza : StpAt (w9.setCells w.heap.size 0 (stpC SF)) w.heap.size SF := by rw [st_eq]; exact rowSt_row (stpC SF) [] (stpC (stp0 0 0)) w9 HI.out.z rfl
          have hzb : Below w.heap.size w (w9.setCells w.heap.size 0 (stpC SF)) := by rw [st_eq]; exact rowSt_below (g := w.heap.size) (n := w.heap.size) (Nat.le_refl _) (stpC SF) 0 _ HI.out.bel
          have HZ9 := Lib.hid (And.intro hza hzb)
          clear hza hzb
          generalize w9.setCells w.heap.size 0 (stpC SF) = wz at *
          refine bodyPost_ret (v := .tuple #[stpV SF, .bool false]) (by simp [results, Tryd.results23, show (asAddr (Value.pointer (some ⟨w.heap.size, 0, none⟩))).run Tryd.prog wz = .ok ⟨w.heap.size, 0, none⟩ wz from rfl, stp_loadVar HZ9.out.1]) rfl ?_
          exact .bad HZ9.out.2 HN.out _
end Go.Proofs.YtjjlodeiejobdaaDoor
