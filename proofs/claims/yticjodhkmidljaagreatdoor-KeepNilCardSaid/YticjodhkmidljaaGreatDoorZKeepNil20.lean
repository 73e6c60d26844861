/- Keep: a record's bytes. Condition: the record's numbers fit. -/
import Derived.Test.YticjodhkmidljaaGreatDoorZKeepNil19
namespace Go.Proofs.YticjodhkmidljaaGreatDoor
open Go.RowKit Go.Shelf
/-- A record's cells: its kind, and a vote's. -/
def votOf:RecK→VotV
  | .pro b=>⟨0,b,[]⟩
  | .vot v=>v
def recC (x:RecK):List Value:=.int .u8 (match x with | .pro _=>1 | .vot _=>2)::votK (votOf x)
structure RecFit (x:RecK):Prop where
  slot:(votOf x).slot<18446744073709551616
  n:(votOf x).b.n<18446744073709551616
  r:(votOf x).b.r<256
  v:(votOf x).v.length≤100000
set_option maxRecDepth 100000 in
set_option maxHeartbeats 4000000 in
theorem bytes_any (x:RecK) (hx:RecFit x) (w:World):Calls Tryz.prog 34 #[.agg (recC x).toArray] w fun e w'=>e=.returned (.string ⟨(recB x).toArray⟩)∧Below w.heap.size w w':=by
  have HX:=Lib.hid hx
  clear hx
  cases x with
  | pro b =>
    obtain ⟨bn,br⟩:=b
    show Calls _ _ #[.agg #[.int .u8 1,.int .u64 0,.int .u64 (bn:Int),.int .u8 (br:Int),.string ⟨#[]⟩]] w _
    have hb1:=(Below.refl w.heap.size w).alloc (Nat.le_refl _) (.cells #[.int .u8 1,.int .u64 0,.int .u64 (bn:Int),.int .u8 (br:Int),.string ⟨#[]⟩] 67)
    have hr1:=heap_alloc_new w (.cells #[.int .u8 1,.int .u64 0,.int .u64 (bn:Int),.int .u8 (br:Int),.string ⟨#[]⟩] 67)
    have hb2:=hb1.alloc hb1.size (.cells #[.int .u8 1] 5)
    have hr2:=(Below.heap_alloc (w.alloc (.cells #[.int .u8 1,.int .u64 0,.int .u64 (bn:Int),.int .u8 (br:Int),.string ⟨#[]⟩] 67)) (.cells #[.int .u8 1] 5) w.heap.size (by simp)).trans hr1
    have hrd:=ReadB.one (w.alloc (.cells #[.int .u8 1,.int .u64 0,.int .u64 (bn:Int),.int .u8 (br:Int),.string ⟨#[]⟩] 67)) 1 5
    rw [World.size_alloc] at hrd
    have HW:=Lib.hid (And.intro hb2 (And.intro hr2 hrd))
    clear hb1 hr1 hb2 hr2 hrd
    go_enter Tryz.func34,Tryz.ntmps34
    go_upto_region 2 with fail
    change Code.wp _ _ _ _ ((w.alloc (.cells #[.int .u8 1,.int .u64 0,.int .u64 (bn:Int),.int .u8 (br:Int),.string ⟨#[]⟩] 67)).alloc (.cells #[.int .u8 ((1:UInt8).toNat:Int)] 5))
    change Hid (Below w.heap.size w ((w.alloc (.cells #[.int .u8 1,.int .u64 0,.int .u64 (bn:Int),.int .u8 (br:Int),.string ⟨#[]⟩] 67)).alloc (.cells #[.int .u8 ((1:UInt8).toNat:Int)] 5))∧((w.alloc (.cells #[.int .u8 1,.int .u64 0,.int .u64 (bn:Int),.int .u8 (br:Int),.string ⟨#[]⟩] 67)).alloc (.cells #[.int .u8 ((1:UInt8).toNat:Int)] 5)).heap[w.heap.size]?=_∧_) at HW
    generalize (w.alloc (.cells #[.int .u8 1,.int .u64 0,.int .u64 (bn:Int),.int .u8 (br:Int),.string ⟨#[]⟩] 67)).alloc (.cells #[.int .u8 ((1:UInt8).toNat:Int)] 5)=w2 at *
    have HC:=Lib.hid (fun (y:World) (hy:Below w2.heap.size w2 y)=>(show y.cell? ⟨w.heap.size,0,none⟩=some (.int .u8 1)∧y.cell? ⟨w.heap.size,1,none⟩=some (.int .u64 0)∧y.cell? ⟨w.heap.size,2,none⟩=some (.int .u64 (bn:Int))∧y.cell? ⟨w.heap.size,3,none⟩=some (.int .u8 (br:Int))∧y.cell? ⟨w.heap.size,4,none⟩=some (.string ⟨#[]⟩) from by
      have k1:=(hy.block _ (Array.getElem?_eq_some_iff.1 HW.out.2.1).1).trans HW.out.2.1
      exact ⟨cell_of_row _ _ _ _ _ _ k1,cell_of_row _ _ _ _ _ _ k1,cell_of_row _ _ _ _ _ _ k1,cell_of_row _ _ _ _ _ _ k1,cell_of_row _ _ _ _ _ _ k1⟩))
    obtain ⟨c0,c1,c2,c3,c4⟩:=HC.out w2 (Below.refl _ _)
    have Hp:=Lib.hid (show Calls Tryz.prog 68 #[.slice (some ⟨w.heap.size+1,0,none⟩) 1 1,.agg #[.int .u64 (bn:Int),.int .u8 (br:Int)]] w2 _ from put_bal (.slice (some ⟨w.heap.size+1,0,none⟩) 1 1) [1] ⟨bn,br⟩ HX.out.n HX.out.r (by simp) w2 HW.out.2.2)
    go_wp2_with ((with_reducible refine Hp.out.mono ?_);rintro e x2 ⟨v2,rfl,ho2,hb2⟩
                 have hcv:=(OwnB.read ho2).conv (P:=Tryz.prog) (src:=121) (dst:=9) (e:=5) Tryz.underlying121 Tryz.underlying5 Tryz.underlying9
                 have HB:=Lib.hid (HW.out.1.trans (hb2.mono HW.out.1.size))
                 clear c0 c1 c2 c3 c4
                 obtain ⟨c0,c1,c2,c3,c4⟩:=HC.out x2 hb2
                 clear ho2 hb2 c1 c2 c3 c4)
    go_ret
    refine ⟨?_,HB.out⟩
    rfl
  | vot v =>
    obtain ⟨s,⟨bn,br⟩,vv⟩:=v
    have hvl:(⟨vv.toArray⟩:ByteArray).size=vv.length:=by simp [ByteArray.size]
    have hst:strL (⟨vv.toArray⟩:ByteArray)=numL vv.length++vv:=by unfold strL;rw [hvl]
    obtain ⟨xb,hxb⟩:∃ xb:ByteArray,xb=⟨vv.toArray⟩:=⟨_,rfl⟩
    rw [← hxb] at hvl hst
    have HST:=Lib.hid (And.intro hst hvl)
    have hfin:(⟨(recB (.vot ⟨s,⟨bn,br⟩,vv⟩)).toArray⟩:ByteArray)=⟨(([2]++numL s++balB ⟨bn,br⟩)++strL xb).toArray⟩:=by
      rw [hst]
      simp [recB]
    rw [hfin]
    have hs9:=(numL_len s).1
    have hb9:(balB ⟨bn,br⟩).length≤10:=by unfold balB;rw [List.length_append];have:=(numL_len bn).1;simp;omega
    have HL:=Lib.hid (And.intro hs9 hb9)
    clear hst hvl hfin hs9 hb9
    have hshow:recC (.vot ⟨s,⟨bn,br⟩,vv⟩)=[.int .u8 2,.int .u64 (s:Int),.int .u64 (bn:Int),.int .u8 (br:Int),.string xb]:=by rw [hxb];rfl
    rw [hshow]
    clear hshow hxb
    show Calls _ _ #[.agg #[.int .u8 2,.int .u64 (s:Int),.int .u64 (bn:Int),.int .u8 (br:Int),.string xb]] w _
    have hb1:=(Below.refl w.heap.size w).alloc (Nat.le_refl _) (.cells #[.int .u8 2,.int .u64 (s:Int),.int .u64 (bn:Int),.int .u8 (br:Int),.string xb] 67)
    have hr1:=heap_alloc_new w (.cells #[.int .u8 2,.int .u64 (s:Int),.int .u64 (bn:Int),.int .u8 (br:Int),.string xb] 67)
    have hb2:=hb1.alloc hb1.size (.cells #[.int .u8 2] 5)
    have hr2:=(Below.heap_alloc (w.alloc (.cells #[.int .u8 2,.int .u64 (s:Int),.int .u64 (bn:Int),.int .u8 (br:Int),.string xb] 67)) (.cells #[.int .u8 2] 5) w.heap.size (by simp)).trans hr1
    have hrd:=ReadB.one (w.alloc (.cells #[.int .u8 2,.int .u64 (s:Int),.int .u64 (bn:Int),.int .u8 (br:Int),.string xb] 67)) 2 5
    rw [World.size_alloc] at hrd
    have HW:=Lib.hid (And.intro hb2 (And.intro hr2 hrd))
    clear hb1 hr1 hb2 hr2 hrd
    go_enter Tryz.func34,Tryz.ntmps34
    go_upto_region 2 with fail
    change Code.wp _ _ _ _ ((w.alloc (.cells #[.int .u8 2,.int .u64 (s:Int),.int .u64 (bn:Int),.int .u8 (br:Int),.string xb] 67)).alloc (.cells #[.int .u8 ((2:UInt8).toNat:Int)] 5))
    change Hid (Below w.heap.size w ((w.alloc (.cells #[.int .u8 2,.int .u64 (s:Int),.int .u64 (bn:Int),.int .u8 (br:Int),.string xb] 67)).alloc (.cells #[.int .u8 ((2:UInt8).toNat:Int)] 5))∧((w.alloc (.cells #[.int .u8 2,.int .u64 (s:Int),.int .u64 (bn:Int),.int .u8 (br:Int),.string xb] 67)).alloc (.cells #[.int .u8 ((2:UInt8).toNat:Int)] 5)).heap[w.heap.size]?=_∧_) at HW
    generalize (w.alloc (.cells #[.int .u8 2,.int .u64 (s:Int),.int .u64 (bn:Int),.int .u8 (br:Int),.string xb] 67)).alloc (.cells #[.int .u8 ((2:UInt8).toNat:Int)] 5)=w2 at *
    have HC:=Lib.hid (fun (y:World) (hy:Below w2.heap.size w2 y)=>(show y.cell? ⟨w.heap.size,0,none⟩=some (.int .u8 2)∧y.cell? ⟨w.heap.size,1,none⟩=some (.int .u64 (s:Int))∧y.cell? ⟨w.heap.size,2,none⟩=some (.int .u64 (bn:Int))∧y.cell? ⟨w.heap.size,3,none⟩=some (.int .u8 (br:Int))∧y.cell? ⟨w.heap.size,4,none⟩=some (.string xb) from by
      have k1:=(hy.block _ (Array.getElem?_eq_some_iff.1 HW.out.2.1).1).trans HW.out.2.1
      exact ⟨cell_of_row _ _ _ _ _ _ k1,cell_of_row _ _ _ _ _ _ k1,cell_of_row _ _ _ _ _ _ k1,cell_of_row _ _ _ _ _ _ k1,cell_of_row _ _ _ _ _ _ k1⟩))
    obtain ⟨c0,c1,c2,c3,c4⟩:=HC.out w2 (Below.refl _ _)
    have Hn:=Lib.hid (num_any (.slice (some ⟨w.heap.size+1,0,none⟩) 1 1) [2] s HX.out.slot (by simp) w2 HW.out.2.2)
    go_wp2_with (first
      | ((with_reducible refine Hn.out.mono ?_);rintro e x1 ⟨v1,rfl,ho1,hb1⟩
         have Hp:=Lib.hid (show Calls Tryz.prog 68 #[v1,.agg #[.int .u64 (bn:Int),.int .u8 (br:Int)]] x1 _ from put_bal v1 ([2]++numL s) ⟨bn,br⟩ HX.out.n HX.out.r (by rw [List.length_append];have:=HL.out.1;simp;omega) x1 ho1.read)
         have HB1:=Lib.hid hb1
         clear c0 c1 c2 c3 c4
         obtain ⟨c0,c1,c2,c3,c4⟩:=HC.out x1 hb1
         clear ho1 hb1)
      | ((with_reducible refine Hp.out.mono ?_);rintro e x2 ⟨v2,rfl,ho2,hb2⟩
         have Hs:=Lib.hid (str_any v2 ([2]++numL s++balB ⟨bn,br⟩) xb (by rw [List.length_append,List.length_append];have:=HL.out;have:=HST.out.2;have:vv.length≤100000:=HX.out.v;simp;omega) x2 ho2.read)
         have hb12:=HB1.out.trans (hb2.mono HB1.out.size)
         have HB2:=Lib.hid hb12
         clear c0 c1 c2 c3 c4
         obtain ⟨c0,c1,c2,c3,c4⟩:=HC.out x2 hb12
         clear ho2 hb2 hb12)
      | ((with_reducible refine Hs.out.mono ?_);rintro e x3 ⟨v3,rfl,ho3,hb3⟩
         have hcv:=(OwnB.read ho3).conv (P:=Tryz.prog) (src:=121) (dst:=9) (e:=5) Tryz.underlying121 Tryz.underlying5 Tryz.underlying9
         have HB:=Lib.hid (HW.out.1.trans ((HB2.out.trans (hb3.mono HB2.out.size)).mono HW.out.1.size))
         clear ho3 hb3))
    go_ret
    refine ⟨?_,HB.out⟩
    show Ending.returned (.string ⟨(2::(numL s++(balB ⟨bn,br⟩++strL xb))).toArray⟩)=_
    simp
end Go.Proofs.YticjodhkmidljaaGreatDoor
namespace Go.Proofs.YticjodhkmidljaaGreatDoor
open Go.RowKit Go.Shelf
set_option maxRecDepth 100000 in
set_option maxHeartbeats 4000000 in
theorem may_any {w:World} {k S l g n:Nat} {V:KepV} (h:KepAt w k S l g n V) (b:BalV) (hbn:b.n<18446744073709551616):Calls Tryz.prog 28 #[.pointer (some ⟨k,0,none⟩),.agg (balC b).toArray] w fun e w'=>e=.returned (.bool (decide (kMay V b)))∧Below w.heap.size w w':=by
  obtain ⟨P,hP⟩:∃ P,V.pr=P:=⟨_,rfl⟩
  obtain ⟨bn,br⟩:=b
  have hA:chkN ⟨bn,br⟩=2→decide (kMay V ⟨bn,br⟩)=false:=fun q=>decide_eq_false (fun m=>by
    unfold chkN at q
    obtain ⟨⟨m1,m2,_⟩,_⟩:=m
    simp only at m1 m2
    rw [if_neg (fun z=>by rcases z with z | z;simp only at z;omega;have:=z.1;simp only at this;omega)] at q
    omega)
  have hB:(⟨bn,br⟩:BalV)=bal0→decide (kMay V ⟨bn,br⟩)=false:=fun q=>decide_eq_false (fun m=>by
    rw [q] at m
    exact absurd m.1.2.1 (by decide))
  have hC:chkN ⟨bn,br⟩≠2→(⟨bn,br⟩:BalV)≠bal0→decide (kMay V ⟨bn,br⟩) = !decide (balLt ⟨bn,br⟩ P):=fun q1 q2=>by
    have hok:balOk ⟨bn,br⟩:=by
      unfold chkN at q1
      by_cases z:7≤br∨(bn=0∧(⟨bn,br⟩:BalV)≠bal0)
      · rw [if_pos z] at q1;exact (q1 rfl).elim
      · refine ⟨by show br<7;omega,?_,hbn⟩
        show 1≤bn
        by_cases z1:bn=0
        · exact (z (.inr ⟨z1,q2⟩)).elim
        · omega
    rw [← hP]
    by_cases z:balLt ⟨bn,br⟩ V.pr
    · rw [decide_eq_true z,decide_eq_false (fun m=>m.2 z)];rfl
    · rw [decide_eq_false z,decide_eq_true ⟨hok,z⟩];rfl
  have HK:=Lib.hid (fun y:World=>(show Calls Tryz.prog 60 #[.agg #[.int .u64 (bn:Int),.int .u8 (br:Int)]] y _ from check_any ⟨bn,br⟩ y))
  obtain ⟨pn,prr⟩:=P
  have HL:=Lib.hid (fun y:World=>(show Calls Tryz.prog 59 #[.agg #[.int .u64 (bn:Int),.int .u8 (br:Int)],.agg #[.int .u64 (pn:Int),.int .u8 (prr:Int)]] y _ from below_bal ⟨bn,br⟩ ⟨pn,prr⟩ y))
  show Calls _ _ #[.pointer (some ⟨k,0,none⟩),.agg #[.int .u64 (bn:Int),.int .u8 (br:Int)]] w _
  have hb1:=(Below.refl w.heap.size w).alloc (Nat.le_refl _) (.cells #[.int .u64 (bn:Int),.int .u8 (br:Int)] 24)
  have hr1:=heap_alloc_new w (.cells #[.int .u64 (bn:Int),.int .u8 (br:Int)] 24)
  have hkr:=(h.below hb1).row
  rw [hP] at hkr
  have HW:=Lib.hid (And.intro hb1 (And.intro hr1 hkr))
  have HC:=Lib.hid (fun (y:World) (hy:Below (w.alloc (.cells #[.int .u64 (bn:Int),.int .u8 (br:Int)] 24)).heap.size (w.alloc (.cells #[.int .u64 (bn:Int),.int .u8 (br:Int)] 24)) y)=>(show y.cell? ⟨w.heap.size,0,none⟩=some (.int .u64 (bn:Int))∧y.cell? ⟨w.heap.size,1,none⟩=some (.int .u8 (br:Int))∧y.cell? ⟨k,2,none⟩=some (.int .u64 (pn:Int))∧y.cell? ⟨k,3,none⟩=some (.int .u8 (prr:Int)) from by
    have k1:=(hy.block _ (Array.getElem?_eq_some_iff.1 HW.out.2.1).1).trans HW.out.2.1
    have k2:=(hy.block _ (Array.getElem?_eq_some_iff.1 HW.out.2.2).1).trans HW.out.2.2
    exact ⟨cell_of_row _ _ _ _ _ _ k1,cell_of_row _ _ _ _ _ _ k1,cell_of_row _ _ _ _ _ _ k2,cell_of_row _ _ _ _ _ _ k2⟩))
  clear hb1 hr1 hkr h hP hbn
  by_cases h1:chkN ⟨bn,br⟩=2
  · rw [hA h1]
    rw [h1] at HK
    clear hA hB hC h1 HL
    go_enter Tryz.func28,Tryz.ntmps28
    go_upto_region 1 with fail
    generalize w.alloc (.cells #[.int .u64 (bn:Int),.int .u8 (br:Int)] 24)=w1 at *
    refine (wpIn_wide (n:=1)).1 ?_
    refine RegK.wpIn_region_can (F:=Fence.wide) (KeptW w1) [(0,0),(1,1),(2,0),(3,0),(4,0),(5,0),(6,0),(7,0),(8,0),(9,0),(10,0),(11,0),(12,0),(13,0),(14,1),(15,0),(16,0),(17,0)] (by kernel_rfl) (by kernel_rfl) (by kernel_rfl) (fun _ _ d _ _ h=>by cases d <;> exact h) ⟨rfl,rfl,rfl,Nat.le_refl _,fun _ _=>rfl⟩ ?_
    dsimp only [RegK.pick,List.getElem?_cons_zero,List.getElem?_cons_succ]
    change RegK.Can _ _ _ _ _ _ _ _ w1.drew
    have hkd:KeptW w1 w1.drew:=⟨rfl,rfl,rfl,Nat.le_refl _,fun _ _=>rfl⟩
    generalize w1.drew=v1 at *
    refine RegK.can_reads ?_
    intro K hK
    go_simp
    refine ⟨.agg #[.int .u64 (bn:Int),.int .u8 (br:Int)],fun y hy=>?_,hK _ ?_⟩
    · obtain ⟨c0,c1,c2,c3⟩:=HC.out y (KeptW.bel hy)
      go_simp
    clear hK K
    refine RegK.can_turns (fun _=>trivial) ?_
    intro K K0 hK hK0
    go_simp
    refine ⟨trivial,?_⟩
    refine (callsIn_wide.2 (HK.out v1)).mono ?_
    rintro e v2 ⟨rfl,hb7⟩
    have v2k:KeptW w1 v2:=KeptW.mono hkd hb7
    refine hK _ _ v2k ?_
    clear hK K hK0 K0
    iterate 2 (refine RegK.can_reads ?_;intro K hK;go_simp;(first | refine ⟨_,fun _ _=>rfl,hK _ ?_⟩ | refine hK _ ?_);clear hK K)
    (refine RegK.can_reads ?_;intro K hK;go_simp;refine hK _ ?_;clear hK K)
    (refine RegK.can_reads ?_;intro K hK;go_simp;refine hK _ ?_;clear hK K)
    (refine RegK.can_reads ?_;intro K hK;go_simp;refine hK _ ?_;clear hK K)
    iterate 2 (refine RegK.can_reads ?_;intro K hK;go_simp;(first | refine ⟨_,fun _ _=>rfl,hK _ ?_⟩ | refine hK _ ?_);clear hK K)
    (refine RegK.can_reads ?_;intro K hK;go_simp;refine hK _ ?_;clear hK K)
    (refine RegK.can_reads ?_;intro K hK;go_simp;refine hK _ ?_;clear hK K)
    (refine RegK.can_reads ?_;intro K hK;go_simp;refine hK _ ?_;clear hK K)
    (refine RegK.can_reads ?_;intro K hK;go_simp;refine hK _ ?_;clear hK K)
    (refine RegK.can_reads ?_;intro K hK;go_simp;refine hK _ ?_;clear hK K)
    (refine RegK.can_turns (fun _=>trivial) ?_;intro K K0 hK hK0;go_simp;refine hK0 _ ?_;clear hK K hK0 K0)
    (refine RegK.can_reads ?_;intro K hK;go_simp;refine hK _ ?_;clear hK K)
    iterate 2 (refine RegK.can_reads ?_;intro K hK;go_simp;(first | refine ⟨_,fun _ _=>rfl,hK _ ?_⟩ | refine hK _ ?_);clear hK K)
    refine RegK.can_nil ?_
    go_wp2_with fail
    go_ret
    exact ⟨rfl,HW.out.1.trans ((KeptW.bel v2k).mono HW.out.1.size)⟩
  · have h0:chkN ⟨bn,br⟩=0:=by
      unfold chkN at h1 ⊢
      split
      · next z=>rw [if_pos z] at h1;exact (h1 rfl).elim
      · rfl
    by_cases h2:(⟨bn,br⟩:BalV)=bal0
    · rw [hB h2]
      have HQ:=Lib.hid (show (decide ((⟨bn,br⟩:BalV)=bal0) == false)=false by rw [decide_eq_true h2];rfl)
      rw [h0] at HK
      clear hA hB hC h1 h0 h2 HL
      go_enter Tryz.func28,Tryz.ntmps28
      go_upto_region 1 with fail
      generalize w.alloc (.cells #[.int .u64 (bn:Int),.int .u8 (br:Int)] 24)=w1 at *
      refine (wpIn_wide (n:=1)).1 ?_
      refine RegK.wpIn_region_can (F:=Fence.wide) (KeptW w1) [(0,0),(1,1),(2,0),(3,0),(4,0),(5,0),(6,0),(7,0),(8,0),(9,0),(10,0),(11,0),(12,0),(13,0),(14,1),(15,0),(16,0),(17,0)] (by kernel_rfl) (by kernel_rfl) (by kernel_rfl) (fun _ _ d _ _ h=>by cases d <;> exact h) ⟨rfl,rfl,rfl,Nat.le_refl _,fun _ _=>rfl⟩ ?_
      dsimp only [RegK.pick,List.getElem?_cons_zero,List.getElem?_cons_succ]
      change RegK.Can _ _ _ _ _ _ _ _ w1.drew
      have hkd:KeptW w1 w1.drew:=⟨rfl,rfl,rfl,Nat.le_refl _,fun _ _=>rfl⟩
      generalize w1.drew=v1 at *
      refine RegK.can_reads ?_
      intro K hK
      go_simp
      refine ⟨.agg #[.int .u64 (bn:Int),.int .u8 (br:Int)],fun y hy=>?_,hK _ ?_⟩
      · obtain ⟨c0,c1,c2,c3⟩:=HC.out y (KeptW.bel hy)
        go_simp
      clear hK K
      refine RegK.can_turns (fun _=>trivial) ?_
      intro K K0 hK hK0
      go_simp
      refine ⟨trivial,?_⟩
      refine (callsIn_wide.2 (HK.out v1)).mono ?_
      rintro e v2 ⟨rfl,hb7⟩
      have v2k:KeptW w1 v2:=KeptW.mono hkd hb7
      refine hK _ _ v2k ?_
      clear hK K hK0 K0
      iterate 2 (refine RegK.can_reads ?_;intro K hK;go_simp;(first | refine ⟨_,fun _ _=>rfl,hK _ ?_⟩ | refine hK _ ?_);clear hK K)
      refine RegK.can_reads ?_
      intro K hK
      go_simp
      refine ⟨.agg #[.int .u64 (bn:Int),.int .u8 (br:Int)],fun y hy=>?_,hK _ ?_⟩
      · obtain ⟨c0,c1,c2,c3⟩:=HC.out y (KeptW.bel hy)
        go_simp
      clear hK K
      refine RegK.can_reads ?_;intro K hK;go_simp;(first | refine ⟨_,fun _ _=>rfl,hK _ ?_⟩ | refine hK _ ?_);clear hK K
      refine RegK.can_reads ?_
      intro K hK
      rw [if_pos (by first | (simp [Region.wanted];done) | (go_simp;done))]
      refine ⟨.bool false,fun y hy=>(bal_exec ⟨bn,br⟩ bal0 _ _ false _ _ rfl rfl rfl y).trans (by rw [HQ.out]),hK _ ?_⟩
      clear hK K
      go_simp
      iterate 2 (refine RegK.can_reads ?_;intro K hK;go_simp;(first | refine ⟨_,fun _ _=>rfl,hK _ ?_⟩ | refine hK _ ?_);clear hK K)
      (refine RegK.can_reads ?_;intro K hK;go_simp;refine hK _ ?_;clear hK K)
      (refine RegK.can_reads ?_;intro K hK;go_simp;refine hK _ ?_;clear hK K)
      (refine RegK.can_reads ?_;intro K hK;go_simp;refine hK _ ?_;clear hK K)
      (refine RegK.can_reads ?_;intro K hK;go_simp;refine hK _ ?_;clear hK K)
      (refine RegK.can_reads ?_;intro K hK;go_simp;refine hK _ ?_;clear hK K)
      (refine RegK.can_turns (fun _=>trivial) ?_;intro K K0 hK hK0;go_simp;refine hK0 _ ?_;clear hK K hK0 K0)
      (refine RegK.can_reads ?_;intro K hK;go_simp;refine hK _ ?_;clear hK K)
      iterate 2 (refine RegK.can_reads ?_;intro K hK;go_simp;(first | refine ⟨_,fun _ _=>rfl,hK _ ?_⟩ | refine hK _ ?_);clear hK K)
      refine RegK.can_nil ?_
      go_wp2_with fail
      go_ret
      exact ⟨rfl,HW.out.1.trans ((KeptW.bel v2k).mono HW.out.1.size)⟩
    · rw [hC h1 h2]
      have HQ:=Lib.hid (show (decide ((⟨bn,br⟩:BalV)=bal0) == false)=true by rw [decide_eq_false h2];rfl)
      rw [h0] at HK
      generalize decide (balLt ⟨bn,br⟩ ⟨pn,prr⟩)=q at *
      clear hA hB hC h1 h0 h2
      go_enter Tryz.func28,Tryz.ntmps28
      go_upto_region 1 with fail
      generalize w.alloc (.cells #[.int .u64 (bn:Int),.int .u8 (br:Int)] 24)=w1 at *
      refine (wpIn_wide (n:=1)).1 ?_
      refine RegK.wpIn_region_can (F:=Fence.wide) (KeptW w1) [(0,0),(1,1),(2,0),(3,0),(4,0),(5,0),(6,0),(7,0),(8,0),(9,0),(10,0),(11,0),(12,0),(13,0),(14,1),(15,0),(16,0),(17,0)] (by kernel_rfl) (by kernel_rfl) (by kernel_rfl) (fun _ _ d _ _ h=>by cases d <;> exact h) ⟨rfl,rfl,rfl,Nat.le_refl _,fun _ _=>rfl⟩ ?_
      dsimp only [RegK.pick,List.getElem?_cons_zero,List.getElem?_cons_succ]
      change RegK.Can _ _ _ _ _ _ _ _ w1.drew
      have hkd:KeptW w1 w1.drew:=⟨rfl,rfl,rfl,Nat.le_refl _,fun _ _=>rfl⟩
      generalize w1.drew=v1 at *
      refine RegK.can_reads ?_
      intro K hK
      go_simp
      refine ⟨.agg #[.int .u64 (bn:Int),.int .u8 (br:Int)],fun y hy=>?_,hK _ ?_⟩
      · obtain ⟨c0,c1,c2,c3⟩:=HC.out y (KeptW.bel hy)
        go_simp
      clear hK K
      refine RegK.can_turns (fun _=>trivial) ?_
      intro K K0 hK hK0
      go_simp
      refine ⟨trivial,?_⟩
      refine (callsIn_wide.2 (HK.out v1)).mono ?_
      rintro e v2 ⟨rfl,hb7⟩
      have v2k:KeptW w1 v2:=KeptW.mono hkd hb7
      refine hK _ _ v2k ?_
      clear hK K hK0 K0
      iterate 2 (refine RegK.can_reads ?_;intro K hK;go_simp;(first | refine ⟨_,fun _ _=>rfl,hK _ ?_⟩ | refine hK _ ?_);clear hK K)
      refine RegK.can_reads ?_
      intro K hK
      go_simp
      refine ⟨.agg #[.int .u64 (bn:Int),.int .u8 (br:Int)],fun y hy=>?_,hK _ ?_⟩
      · obtain ⟨c0,c1,c2,c3⟩:=HC.out y (KeptW.bel hy)
        go_simp
      clear hK K
      refine RegK.can_reads ?_;intro K hK;go_simp;(first | refine ⟨_,fun _ _=>rfl,hK _ ?_⟩ | refine hK _ ?_);clear hK K
      refine RegK.can_reads ?_
      intro K hK
      rw [if_pos (by first | (simp [Region.wanted];done) | (go_simp;done))]
      refine ⟨.bool true,fun y hy=>(bal_exec ⟨bn,br⟩ bal0 _ _ false _ _ rfl rfl rfl y).trans (by rw [HQ.out]),hK _ ?_⟩
      clear hK K
      go_simp
      iterate 2 (refine RegK.can_reads ?_;intro K hK;go_simp;(first | refine ⟨_,fun _ _=>rfl,hK _ ?_⟩ | refine hK _ ?_);clear hK K)
      refine RegK.can_reads ?_
      intro K hK
      go_simp
      refine ⟨.agg #[.int .u64 (bn:Int),.int .u8 (br:Int)],fun y hy=>?_,hK _ ?_⟩
      · obtain ⟨c0,c1,c2,c3⟩:=HC.out y (KeptW.bel hy)
        go_simp
      clear hK K
      iterate 3 (refine RegK.can_reads ?_;intro K hK;go_simp;(first | refine ⟨_,fun _ _=>rfl,hK _ ?_⟩ | refine hK _ ?_);clear hK K)
      refine RegK.can_reads ?_
      intro K hK
      go_simp
      refine ⟨.agg #[.int .u64 (pn:Int),.int .u8 (prr:Int)],fun y hy=>?_,hK _ ?_⟩
      · obtain ⟨c0,c1,c2,c3⟩:=HC.out y (KeptW.bel hy)
        go_simp
      clear hK K
      refine RegK.can_turns (fun _=>trivial) ?_
      intro K K0 hK hK0
      go_simp
      refine ⟨trivial,?_⟩
      refine (callsIn_wide.2 (HL.out v2)).mono ?_
      rintro e v3 ⟨rfl,hb8⟩
      have v3k:KeptW w1 v3:=KeptW.mono v2k hb8
      refine hK _ _ v3k ?_
      clear hK K hK0 K0
      iterate 3 (refine RegK.can_reads ?_;intro K hK;go_simp;(first | refine ⟨_,fun _ _=>rfl,hK _ ?_⟩ | refine hK _ ?_);clear hK K)
      refine RegK.can_nil ?_
      go_wp2_with fail
      go_ret
      exact ⟨rfl,HW.out.1.trans ((KeptW.bel v3k).mono HW.out.1.size)⟩
end Go.Proofs.YticjodhkmidljaaGreatDoor
