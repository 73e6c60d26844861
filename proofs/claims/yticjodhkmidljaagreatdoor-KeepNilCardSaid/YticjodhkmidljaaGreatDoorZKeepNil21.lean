/- Keep: takeIn. Condition: the keep lies there; the record's numbers fit. -/
import Derived.Test.YticjodhkmidljaaGreatDoorZKeepNil20
import Derived.Test.YticjodhkmidljaaGreatDoorZKeepNil1
namespace Go.Proofs.YticjodhkmidljaaGreatDoor
open Go.RowKit Go.Shelf
open Go.Maps (Keyed)
theorem lays_any {l:List Oper} {i d:Nat} {z:Obj} {t:TypeId} (h:∀ (ρ:Operand→Value) (x:World) (o:Oper),o.op=.alloc t→(execOp ρ o).run Tryz.prog x=.ok (.value (RegL.ptr x.heap.size)) (x.alloc z)) (hl:(l[i]?).map (fun o=>o.op)=some (.alloc t)) :
    RegL.LayOk Tryz.prog l ⟨i,d,z⟩:=fun o ho ρ x=>h ρ x o (by
  have ho':l[i]?=some o:=ho
  rw [ho'] at hl
  simpa using hl)
theorem keptW_mono (w:World):∀ y y',KeptW w y→Below y.heap.size y y'→KeptW w y':=fun _ _ h hb=>h.mono hb
theorem layVt (ρ:Operand→Value) (x:World) (o:Oper) (h:o.op=.alloc 26):(execOp ρ o).run Tryz.prog x=.ok (.value (RegL.ptr x.heap.size)) (x.alloc (.cells (voCells 0 vo0).toArray 26 (0,0))):=by
  simp only [execOp,h]
  go_simp
  exact ⟨rfl,rfl⟩
/-- 'm[k] = v', one operation. -/
theorem wp_store_mp {P:Program} {w:World} {o:Oper} {a:Act} {K0:Act→World→Prop} {Q:Exit→Act→World→Prop} {k:TypeId} {b n:Nat} {M:Lit→Option Value} (m x v:Operand) (t e:TypeId) (hop:o.op=Op.mapUpdate t m x v) (K:Keyed P k) (ht:P.underlying t=some (.map k e))
    (hm:a.eval m=.map (some b)) (h:MpAt P k w b n M) (hn:n<maxLen) (key val:Value) (kl:Lit) (hx:a.eval x=key) (hv:a.eval v=val) (hkey:keyOf P k key=some kl)
    (hK:∀ w',MpAt P k w' b (n+1) (mpPut M kl val)→w.mapTurned w' b→K0 (a.put o.dst undef) w'):o.wp P a w K0 Q:=by
  obtain ⟨w',hrun,r1,r2⟩:=h.store K ht hn (val:=val) hkey
  unfold Oper.wp
  simp [execOp,hop,hm,hx,hv,hrun,Result.andThen]
  exact hK w' r1 r2
/-- A keep, and a record's box. -/
structure TkAt (w:World) (k S l g n:Nat) (V:KepV) (B:Nat) (kd:Int) (s bn br pn prr:Nat) (xb:ByteArray):Prop where
  kep:KepAt w k S l g n V
  pr:V.pr=⟨pn,prr⟩
  box:w.heap[B]?=some (.cells #[.int .u8 kd,.int .u64 (s:Int),.int .u64 (bn:Int),.int .u8 (br:Int),.string xb] 67 (0,0))
section
variable {w w' : World} {k S l g n : Nat} {V : KepV} {B : Nat} {kd : Int} {s bn br pn prr : Nat} {xb : ByteArray}
theorem TkAt.below (h:TkAt w k S l g n V B kd s bn br pn prr xb) (hb:Below w.heap.size w w'):TkAt w' k S l g n V B kd s bn br pn prr xb:=⟨h.kep.below hb,h.pr,(hb.block B (Array.getElem?_eq_some_iff.1 h.box).1).trans h.box⟩
theorem TkAt.cells (h:TkAt w k S l g n V B kd s bn br pn prr xb):w.cell? ⟨B,0,none⟩=some (.int .u8 kd)∧w.cell? ⟨B,1,none⟩=some (.int .u64 (s:Int))∧w.cell? ⟨B,2,none⟩=some (.int .u64 (bn:Int))∧w.cell? ⟨B,3,none⟩=some (.int .u8 (br:Int))∧w.cell? ⟨B,4,none⟩=some (.string xb)∧w.cell? ⟨k,2,none⟩=some (.int .u64 (pn:Int))∧w.cell? ⟨k,3,none⟩=some (.int .u8 (prr:Int))∧w.cell? ⟨k,4,none⟩=some (.map (some g)):=by
  obtain ⟨d0,d1,d2,d3,d4⟩:=h.kep.cells
  rw [h.pr] at d2 d3
  exact ⟨cell_of_row _ _ _ _ _ _ h.box,cell_of_row _ _ _ _ _ _ h.box,cell_of_row _ _ _ _ _ _ h.box,cell_of_row _ _ _ _ _ _ h.box,cell_of_row _ _ _ _ _ _ h.box,d2,d3,d4⟩
theorem KepAt.rise (h:KepAt w k S l g n V) (b:BalV):KepAt ((w.setCell ⟨k,2,none⟩ (.int .u64 (b.n:Int))).setCell ⟨k,3,none⟩ (.int .u8 (b.r:Int))) k S l g n { V with pr:=b }:=by
  refine ⟨?_,(h.mp.stay (Below.heap_setCell _ _ _ _ (fun e=>h.ne e.symm))).stay (Below.heap_setCell _ _ _ _ (fun e=>h.ne e.symm))⟩
  rw [heap_setCell_same _ _ _ _ _ _ (heap_setCell_same _ _ _ _ _ _ h.row)]
  rfl
theorem rise_yes {b:BalV} (h:balLt V.pr b):V.rise b={ V with pr:=b }:=by unfold KepV.rise;rw [if_pos h]
theorem rise_no {b:BalV} (h : ¬ balLt V.pr b):V.rise b=V:=by unfold KepV.rise;rw [if_neg h]
theorem take_yes {base:Nat} {v:VotV} (h:V.may base v):V.take base (.vot v)=(V.put v).rise v.b:=by
  show (if V.may base v then V.put v else V).rise v.b=_
  rw [if_pos h]
theorem take_no {base:Nat} {v:VotV} (h : ¬ V.may base v):V.take base (.vot v)=V.rise v.b:=by
  show (if V.may base v then V.put v else V).rise v.b=_
  rw [if_neg h]
end
set_option maxRecDepth 100000 in
set_option maxHeartbeats 8000000 in
theorem take_pro {w:World} {k S l g n:Nat} {V:KepV} {b:Nat × Bs} (h:KepAt w k S l g n V) (q:BalV) :
    Calls Tryz.prog 26 #[.pointer (some ⟨k,0,none⟩),.agg (recC (.pro q)).toArray] w fun e w'=>e=.returned (.tuple #[])∧KepAt w' k S l g (n+1) (V.take b.1 (.pro q))∧ButTwo k g w w':=by
  obtain ⟨P,hP⟩:∃ P,V.pr=P:=⟨_,rfl⟩
  obtain ⟨pn,prr⟩:=P
  obtain ⟨bn,br⟩:=q
  have HR:=Lib.hid (fun y:World=>(show Calls Tryz.prog 59 #[.agg #[.int .u64 (pn:Int),.int .u8 (prr:Int)],.agg #[.int .u64 (bn:Int),.int .u8 (br:Int)]] y _ from below_bal ⟨pn,prr⟩ ⟨bn,br⟩ y))
  suffices hgen:∀ (s:Nat) (xb:ByteArray),Calls Tryz.prog 26 #[.pointer (some ⟨k,0,none⟩),.agg #[.int .u8 1,.int .u64 (s:Int),.int .u64 (bn:Int),.int .u8 (br:Int),.string xb]] w fun e w'=>e=.returned (.tuple #[])∧KepAt w' k S l g (n+1) (V.take b.1 (.pro ⟨bn,br⟩))∧ButTwo k g w w' from hgen 0 ⟨#[]⟩
  intro s xb
  have hb1:=(Below.refl w.heap.size w).alloc (Nat.le_refl _) (.cells #[.int .u8 1,.int .u64 (s:Int),.int .u64 (bn:Int),.int .u8 (br:Int),.string xb] 67)
  have HT:=Lib.hid (show TkAt _ k S l g n V w.heap.size 1 s bn br pn prr xb from ⟨h.below hb1,hP,heap_alloc_new w _⟩)
  have HB3:=Lib.hid (two_of (p:=k) (g:=g) hb1)
  obtain ⟨c0,c1,c2,c3,c4,c5,c6,c7⟩:=HT.out.cells
  clear hb1 h c1 c2 c3 c4 c5 c6 c7
  have HP:=Lib.hid hP
  clear hP
  by_cases hr:balLt ⟨pn,prr⟩ ⟨bn,br⟩
  · have HV:=Lib.hid (show V.take b.1 (.pro ⟨bn,br⟩)={ V with pr:=⟨bn,br⟩ } from rise_yes (by rw [HP.out];exact hr))
    rw [decide_eq_true hr] at HR
    clear hr
    go_enter Tryz.func26,Tryz.ntmps26
    go_upto_region 8 with fail
    generalize w.alloc (.cells #[.int .u8 1,.int .u64 (s:Int),.int .u64 (bn:Int),.int .u8 (br:Int),.string xb] 67)=w3 at *
    clear c0
    refine (wpIn_wide (n:=1)).1 ?_
    refine RegJ.wpIn_region_plan (F:=Fence.wide) (KeptW w3) (.step 0 0 (.step 1 0 (.step 2 0 (.step 3 0 (.step 4 0 (.step 5 0 (.step 6 0 (.step 7 1 .nil)))))))) (by kernel_rfl) (by kernel_rfl) (by kernel_rfl) (fun _ _ d _ _ h=>by cases d <;> exact h) ⟨rfl,rfl,rfl,Nat.le_refl _,fun _ _=>rfl⟩ ?_
    dsimp only [RegJ.pickJ,List.getElem?_cons_zero,List.getElem?_cons_succ]
    change RegJ.Can _ _ _ _ _ _ _ _ w3.drew
    have hkd:KeptW w3 w3.drew:=⟨rfl,rfl,rfl,Nat.le_refl _,fun _ _=>rfl⟩
    generalize w3.drew=v1 at *
    iterate 3 (refine RegJ.reads ?_;intro K hK;go_simp;(first | refine ⟨_,fun _ _=>rfl,hK _ ?_⟩ | refine hK _ ?_);clear hK K)
    refine RegJ.reads ?_
    intro K hK
    go_simp
    refine ⟨.agg #[.int .u64 (pn:Int),.int .u8 (prr:Int)],fun y hy=>?_,hK _ ?_⟩
    · obtain ⟨c0,c1,c2,c3,c4,c5,c6,c7⟩:=(HT.out.below (KeptW.bel hy)).cells
      go_simp
    clear hK K
    iterate 2 (refine RegJ.reads ?_;intro K hK;go_simp;(first | refine ⟨_,fun _ _=>rfl,hK _ ?_⟩ | refine hK _ ?_);clear hK K)
    refine RegJ.reads ?_
    intro K hK
    go_simp
    refine ⟨.agg #[.int .u64 (bn:Int),.int .u8 (br:Int)],fun y hy=>?_,hK _ ?_⟩
    · obtain ⟨c0,c1,c2,c3,c4,c5,c6,c7⟩:=(HT.out.below (KeptW.bel hy)).cells
      go_simp
    clear hK K
    refine RegJ.turns (fun _=>trivial) ?_
    intro K K0 hK hK0
    go_simp
    refine ⟨trivial,?_⟩
    refine (callsIn_wide.2 (HR.out v1)).mono ?_
    rintro e v2 ⟨rfl,hb7⟩
    have v2k:KeptW w3 v2:=KeptW.mono hkd hb7
    refine hK _ _ _ (fun _ h=>h) v2k ?_
    clear hK K hK0 K0
    refine RegJ.nil ?_
    have HT2:=Lib.hid (HT.out.below (KeptW.bel v2k))
    have hk2:=HT2.out.kep.row
    have t2:=thawed_row 2 hk2
    have t3:=thawed_row 3 hk2
    obtain ⟨c0,c1,c2,c3,c4,c5,c6,c7⟩:=HT2.out.cells
    have HKR:=Lib.hid hk2
    clear hk2 c0 c1 c4 c7
    go_wp2_with fail
    refine bodyPost_end (results_none rfl _ _ _) rfl ?_
    refine ⟨rfl,?_,(HB3.out.trans (two_of (KeptW.bel v2k))).trans ((two_cell _).trans (two_cell _))⟩
    rw [HV.out]
    exact (HT2.out.kep.rise ⟨bn,br⟩).wide (by omega)
  · have HV:=Lib.hid (show V.take b.1 (.pro ⟨bn,br⟩)=V from rise_no (by rw [HP.out];exact hr))
    rw [decide_eq_false hr] at HR
    clear hr
    go_enter Tryz.func26,Tryz.ntmps26
    go_upto_region 8 with fail
    generalize w.alloc (.cells #[.int .u8 1,.int .u64 (s:Int),.int .u64 (bn:Int),.int .u8 (br:Int),.string xb] 67)=w3 at *
    clear c0
    refine (wpIn_wide (n:=1)).1 ?_
    refine RegJ.wpIn_region_plan (F:=Fence.wide) (KeptW w3) (.step 0 0 (.step 1 0 (.step 2 0 (.step 3 0 (.step 4 0 (.step 5 0 (.step 6 0 (.step 7 1 .nil)))))))) (by kernel_rfl) (by kernel_rfl) (by kernel_rfl) (fun _ _ d _ _ h=>by cases d <;> exact h) ⟨rfl,rfl,rfl,Nat.le_refl _,fun _ _=>rfl⟩ ?_
    dsimp only [RegJ.pickJ,List.getElem?_cons_zero,List.getElem?_cons_succ]
    change RegJ.Can _ _ _ _ _ _ _ _ w3.drew
    have hkd:KeptW w3 w3.drew:=⟨rfl,rfl,rfl,Nat.le_refl _,fun _ _=>rfl⟩
    generalize w3.drew=v1 at *
    iterate 3 (refine RegJ.reads ?_;intro K hK;go_simp;(first | refine ⟨_,fun _ _=>rfl,hK _ ?_⟩ | refine hK _ ?_);clear hK K)
    refine RegJ.reads ?_
    intro K hK
    go_simp
    refine ⟨.agg #[.int .u64 (pn:Int),.int .u8 (prr:Int)],fun y hy=>?_,hK _ ?_⟩
    · obtain ⟨c0,c1,c2,c3,c4,c5,c6,c7⟩:=(HT.out.below (KeptW.bel hy)).cells
      go_simp
    clear hK K
    iterate 2 (refine RegJ.reads ?_;intro K hK;go_simp;(first | refine ⟨_,fun _ _=>rfl,hK _ ?_⟩ | refine hK _ ?_);clear hK K)
    refine RegJ.reads ?_
    intro K hK
    go_simp
    refine ⟨.agg #[.int .u64 (bn:Int),.int .u8 (br:Int)],fun y hy=>?_,hK _ ?_⟩
    · obtain ⟨c0,c1,c2,c3,c4,c5,c6,c7⟩:=(HT.out.below (KeptW.bel hy)).cells
      go_simp
    clear hK K
    refine RegJ.turns (fun _=>trivial) ?_
    intro K K0 hK hK0
    go_simp
    refine ⟨trivial,?_⟩
    refine (callsIn_wide.2 (HR.out v1)).mono ?_
    rintro e v2 ⟨rfl,hb7⟩
    have v2k:KeptW w3 v2:=KeptW.mono hkd hb7
    refine hK _ _ _ (fun _ h=>h) v2k ?_
    clear hK K hK0 K0
    refine RegJ.nil ?_
    have HT2:=Lib.hid (HT.out.below (KeptW.bel v2k))
    go_wp2_with fail
    refine bodyPost_end (results_none rfl _ _ _) rfl ?_
    refine ⟨rfl,?_,HB3.out.trans (two_of (KeptW.bel v2k))⟩
    rw [HV.out]
    exact HT2.out.kep.wide (by omega)
set_option maxRecDepth 100000 in
set_option maxHeartbeats 16000000 in
theorem take_vot {w:World} {k S l g n p:Nat} {V:KepV} {b:Nat × Bs} (h:KepAt w k S l g n V) (hs:StoAt w S p b) (hz:b.1=0→b.2=[]) (v:VotV) (hx:v.slot<18446744073709551616) (hn:n<100000) :
    Calls Tryz.prog 26 #[.pointer (some ⟨k,0,none⟩),.agg (recC (.vot v)).toArray] w fun e w'=>e=.returned (.tuple #[])∧KepAt w' k S l g (n+1) (V.take b.1 (.vot v))∧ButTwo k g w w':=by
  obtain ⟨P,hP⟩:∃ P,V.pr=P:=⟨_,rfl⟩
  obtain ⟨pn,prr⟩:=P
  obtain ⟨s,⟨bn,br⟩,vv⟩:=v
  obtain ⟨bs,bt⟩:=b
  have HR:=Lib.hid (fun y:World=>(show Calls Tryz.prog 59 #[.agg #[.int .u64 (pn:Int),.int .u8 (prr:Int)],.agg #[.int .u64 (bn:Int),.int .u8 (br:Int)]] y _ from below_bal ⟨pn,prr⟩ ⟨bn,br⟩ y))
  have HKY:=Lib.hid (key_ku (s:=s) hx)
  have HN:=Lib.hid (show n<maxLen from by unfold maxLen;omega)
  obtain ⟨s0,r0,bq,e3,e4,e5⟩:∃ s0 r0 bq,(mpV V.vs (ku s)).getD (voV 0 vo0)=voV s0 r0∧(mpV V.vs (ku s)).isSome=bq∧V.vs s=if bq=true then some r0 else none:=by
    rw [mpV_at]
    cases hv:V.vs s with
    | none=>exact ⟨0,vo0,false,rfl,rfl,rfl⟩
    | some r=>exact ⟨s,r,true,rfl,rfl,rfl⟩
  have HE:=Lib.hid (And.intro e3 e4)
  have HE5:=Lib.hid e5
  clear e3 e4 e5 hx
  obtain ⟨⟨on,orr⟩,ov⟩:=r0
  have HO:=Lib.hid (fun y:World=>(show Calls Tryz.prog 59 #[.agg #[.int .u64 (on:Int),.int .u8 (orr:Int)],.agg #[.int .u64 (bn:Int),.int .u8 (br:Int)]] y _ from below_bal ⟨on,orr⟩ ⟨bn,br⟩ y))
  obtain ⟨r0,hr0⟩:∃ r0:VoR,r0=(⟨on,orr⟩,ov):=⟨_,rfl⟩
  rw [← hr0] at HE HE5
  have HR0:=Lib.hid hr0
  clear hr0
  obtain ⟨xb,hxb⟩:∃ xb:ByteArray,xb=⟨vv.toArray⟩:=⟨_,rfl⟩
  show Calls _ _ #[.pointer (some ⟨k,0,none⟩),.agg #[.int .u8 2,.int .u64 (s:Int),.int .u64 (bn:Int),.int .u8 (br:Int),.string ⟨vv.toArray⟩]] w _
  rw [← hxb]
  have HXB:=Lib.hid hxb
  have hb1:=(Below.refl w.heap.size w).alloc (Nat.le_refl _) (.cells #[.int .u8 2,.int .u64 (s:Int),.int .u64 (bn:Int),.int .u8 (br:Int),.string xb] 67)
  have HT:=Lib.hid (show TkAt _ k S l g n V w.heap.size 2 s bn br pn prr xb from ⟨h.below hb1,hP,heap_alloc_new w _⟩)
  have HB:=Lib.hid (kbase_any (h.below hb1) (show StoAt _ S p (bs,bt) from (hb1.block S (sto_lt hs)).trans hs) hz)
  have HB3:=Lib.hid (two_of (p:=k) (g:=g) hb1)
  have HP:=Lib.hid hP
  clear hb1 h hP hxb hs hz hn
  obtain ⟨BQ,hBQ⟩:∃ B,B=w.heap.size:=⟨_,rfl⟩
  go_enter Tryz.func26,Tryz.ntmps26
  go_upto_region 1 with fail
  generalize w.alloc (.cells #[.int .u8 2,.int .u64 (s:Int),.int .u64 (bn:Int),.int .u8 (br:Int),.string xb] 67)=w1 at *
  rw [← hBQ] at HT ⊢
  clear hBQ
  obtain ⟨c0,c1,c2,c3,c4,c5,c6,c7⟩:=HT.out.cells
  clear c1 c2 c3 c4 c5 c6 c7
  go_upto_region 5 with ((with_reducible refine HB.out.mono ?_);rintro e w2 ⟨rfl,hb2⟩;have HB2:=Lib.hid hb2;clear hb2)
  have HTa:=HT
  have HT:=Lib.hid (HTa.out.below HB2.out)
  have HB4:=Lib.hid (HB3.out.trans (two_of HB2.out))
  clear c0 HB HB2 HTa HB3
  refine (wpIn_wide (n:=1)).1 ?_
  refine RegL.wpIn_region_lays (F:=Fence.wide) (KeptW w2) [⟨11,6,.cells (voCells 0 vo0).toArray 26 (0,0)⟩] [(0,0),(1,0),(2,0),(3,0),(4,0),(5,0),(6,0),(7,0),(8,0),(9,0),(10,2),(12,3),(13,0)] (by kernel_rfl) (by kernel_rfl) (by kernel_rfl) (fun p hp=>by rw [List.mem_singleton] at hp;subst hp;exact lays_any layVt rfl) (fun _ _ d _ _ h=>by cases d <;> exact h) (fun _ _ d _ _ h=>by cases d <;> exact h) ⟨rfl,rfl,rfl,Nat.le_refl _,fun _ _=>rfl⟩ (keptW_mono w2) ?_
  dsimp only [RegK.pick,List.getElem?_cons_zero,List.getElem?_cons_succ]
  refine RegL.reads ?_
  intro K hK
  go_simp
  (first | refine ⟨_,fun _ _=>rfl,hK _ ?_⟩ | refine hK _ ?_)
  clear hK K
  refine RegL.reads ?_
  intro K hK
  go_simp
  (first | refine ⟨_,fun _ _=>rfl,hK _ ?_⟩ | refine hK _ ?_)
  clear hK K
  refine RegL.reads ?_
  intro K hK
  go_simp
  (first | refine ⟨_,fun _ _=>rfl,hK _ ?_⟩ | refine hK _ ?_)
  clear hK K
  refine RegL.reads ?_
  intro K hK
  go_simp
  refine ⟨.map (some g),fun y hy=>?_,hK _ ?_⟩
  · obtain ⟨c0,c1,c2,c3,c4,c5,c6,c7⟩:=(HT.out.below (KeptW.bel hy)).cells
    go_simp
  clear hK K
  refine RegL.reads ?_
  intro K hK
  go_simp
  (first | refine ⟨_,fun _ _=>rfl,hK _ ?_⟩ | refine hK _ ?_)
  clear hK K
  refine RegL.reads ?_
  intro K hK
  go_simp
  (first | refine ⟨_,fun _ _=>rfl,hK _ ?_⟩ | refine hK _ ?_)
  clear hK K
  refine RegL.reads ?_
  intro K hK
  go_simp
  refine ⟨.int .u64 (s:Int),fun y hy=>?_,hK _ ?_⟩
  · obtain ⟨c0,c1,c2,c3,c4,c5,c6,c7⟩:=(HT.out.below (KeptW.bel hy)).cells
    go_simp
  clear hK K
  refine RegL.reads ?_
  intro K hK
  go_simp
  refine ⟨.tuple #[voV s0 r0,.bool bq],fun y hy=>?_,hK _ ?_⟩
  · have hl:=(HT.out.below (KeptW.bel hy)).kep.mp.look_ok lawU Tryz.underlying63 (vo_zero y) HKY.out
    rw [HE.out.1,HE.out.2] at hl
    go_simp
  clear hK K
  refine RegL.reads ?_
  intro K hK
  go_simp
  (first | refine ⟨_,fun _ _=>rfl,hK _ ?_⟩ | refine hK _ ?_)
  clear hK K
  refine RegL.reads ?_
  intro K hK
  go_simp
  (first | refine ⟨_,fun _ _=>rfl,hK _ ?_⟩ | refine hK _ ?_)
  clear hK K
  refine RegL.pures ?_
  intro K hK
  go_simp
  (first | (refine ⟨_,fun _=>rfl,hK _ ?_⟩) | (refine hK _ ?_))
  clear hK K
  refine RegL.last ?_
  intro g' y hF hy
  have hyk:KeptW w2 y:=hy
  obtain ⟨hlgb,hngb⟩:=hF.1 ⟨11,6,.cells (voCells 0 vo0).toArray 26 (0,0)⟩ (by simp) rfl
  simp only [RegL.putS,RegL.ptr,if_true]
  clear hF
  generalize g' 11=gb at *
  refine RegK.can_frees (fun _=>trivial) ?_
  intro K K0 hK hK0
  rw [if_pos (by simp [Region.wanted])]
  refine RegK.op_wide rfl ?_
  refine wp_store_mid 26 _ _ rfl gb 0 (voCells s0 r0).toArray rfl rfl (there_row (cs:=voCells 0 vo0) hlgb) (vo_size s0 r0) (all_oneCell_toArray (vo_one s0 r0)) ?_
  rw [show (y).setCells gb 0 (voCells s0 r0).toArray.toList=rowSt y gb 0 (voCells s0 r0) from st_eq _ _ _]
  refine hK (fun _=>True) _ _ trivial ?_
  clear hK K hK0 K0 
  have hz2:=Lib.hid (show VtAt (rowSt y gb 0 (voCells s0 r0)) gb s0 r0 from rowSt_row (voCells s0 r0) [] (voCells 0 vo0) y hlgb rfl)
  have hbz:=rowSt_below hngb (voCells s0 r0) 0 _ (KeptW.bel hyk)
  generalize rowSt y gb 0 (voCells s0 r0)=w3 at *
  (refine RegK.can_reads ?_;intro K hK;go_simp;(first | refine ⟨_,fun _ _=>rfl,hK _ ?_⟩ | refine hK _ ?_);clear hK K)
  refine RegK.can_nil ?_
  have HTb:=HT
  have HT:=Lib.hid (HTb.out.below hbz)
  have HB3:=Lib.hid (HB4.out.trans (two_of hbz))
  have HX:=Lib.hid (hz2.out)
  clear HTb HB4 hbz hz2 hlgb hngb hyk hy
  by_cases hr:balLt ⟨pn,prr⟩ ⟨bn,br⟩
  · by_cases hsl:bs<s
    · have hsl':(bs:Int)<(s:Int):=by omega
      cases bq with
      | false =>
        have HV:=Lib.hid (show V.take (bs,bt).1 (.vot ⟨s,⟨bn,br⟩,vv⟩)={ (V.put ⟨s,⟨bn,br⟩,vv⟩) with pr:=⟨bn,br⟩ } from (take_yes ⟨hsl,fun p hp=>by rw [show V.vs s=none from HE5.out] at hp;cases hp⟩).trans (rise_yes (show  balLt V.pr ⟨bn,br⟩ by rw [HP.out];exact hr)))
        rw [decide_eq_true hr] at HR
        clear hr
        clear hsl
        obtain ⟨c0,c1,c2,c3,c4,c5,c6,c7⟩:=HT.out.cells
        obtain ⟨d1,d2⟩:w3.cell? ⟨gb,1,none⟩=some (.int .u64 (on:Int))∧w3.cell? ⟨gb,2,none⟩=some (.int .u8 (orr:Int)):=by
          have h2:=HX.out
          rw [HR0.out] at h2
          exact ⟨cell_of_row _ _ _ _ _ _ h2,cell_of_row _ _ _ _ _ _ h2⟩
        clear c0 c4 c5 c6 c7
        go_upto_region 7 with fail
        clear c1 c2 c3 d1 d2
        refine (wpIn_wide (n:=1)).1 ?_
        refine RegK.wpIn_region_can (F:=Fence.wide) (KeptW w3) [(0,0),(1,0),(2,0),(3,0),(4,0),(5,0),(6,0),(7,0),(8,0),(9,3)] (by kernel_rfl) (by kernel_rfl) (by kernel_rfl) (fun _ _ d _ _ h=>by cases d <;> exact h) ⟨rfl,rfl,rfl,Nat.le_refl _,fun _ _=>rfl⟩ ?_
        dsimp only [RegK.pick,List.getElem?_cons_zero,List.getElem?_cons_succ]
        change RegK.Can _ _ _ _ _ _ _ _ w3.drew
        have hkd:KeptW w3 w3.drew:=⟨rfl,rfl,rfl,Nat.le_refl _,fun _ _=>rfl⟩
        generalize w3.drew=v1 at *
        iterate 3 (refine RegK.can_reads ?_;intro K hK;go_simp;(first | refine ⟨_,fun _ _=>rfl,hK _ ?_⟩ | refine hK _ ?_);clear hK K)
        refine RegK.can_reads ?_
        intro K hK
        go_simp
        refine ⟨.map (some g),fun y hy=>?_,hK _ ?_⟩
        · obtain ⟨c0,c1,c2,c3,c4,c5,c6,c7⟩:=(HT.out.below (KeptW.bel hy)).cells
          go_simp
        clear hK K
        iterate 2 (refine RegK.can_reads ?_;intro K hK;go_simp;(first | refine ⟨_,fun _ _=>rfl,hK _ ?_⟩ | refine hK _ ?_);clear hK K)
        refine RegK.can_reads ?_
        intro K hK
        go_simp
        refine ⟨.int .u64 (s:Int),fun y hy=>?_,hK _ ?_⟩
        · obtain ⟨c0,c1,c2,c3,c4,c5,c6,c7⟩:=(HT.out.below (KeptW.bel hy)).cells
          go_simp
        clear hK K
        refine RegK.can_reads ?_;intro K hK;go_simp;(first | refine ⟨_,fun _ _=>rfl,hK _ ?_⟩ | refine hK _ ?_);clear hK K
        refine RegK.can_reads ?_
        intro K hK
        go_simp
        refine ⟨.agg #[.int .u64 (s:Int),.int .u64 (bn:Int),.int .u8 (br:Int),.string xb],fun y hy=>?_,hK _ ?_⟩
        · obtain ⟨c0,c1,c2,c3,c4,c5,c6,c7⟩:=(HT.out.below (KeptW.bel hy)).cells
          go_simp
        clear hK K
        refine RegK.can_frees (fun _=>trivial) ?_
        intro K K0 hK hK0
        rw [if_pos (by simp [Region.wanted])]
        refine RegK.op_wide rfl ?_
        refine wp_store_mp _ _ _ 63 26 rfl lawU Tryz.underlying63 rfl (HT.out.below (KeptW.bel hkd)).kep.mp HN.out _ (voV s (⟨bn,br⟩,vv)) (ku s) rfl (by rw [HXB.out];rfl) HKY.out ?_
        intro w4 hm4 ht4
        refine hK (fun _=>True) _ _ trivial ?_
        clear hK K hK0 K0
        have HM:=Lib.hid (And.intro (KeptW.bel hkd) (And.intro hm4 ht4))
        clear hm4 ht4
        refine RegK.can_nil ?_
        have HTd:=HT.out.below HM.out.1
        have hm4:=HM.out.2.1
        rw [mpV_put] at hm4
        have HTe:=HT
        have HT:=Lib.hid (show TkAt w4 k S l g (n+1) (V.put ⟨s,⟨bn,br⟩,vv⟩) BQ 2 s bn br pn prr xb from ⟨⟨(turned_block HM.out.2.2 HTd.kep.ne).trans HTd.kep.row,hm4⟩,HTd.pr,(turned_block HM.out.2.2 (fun e=>by
          obtain ⟨_,⟨es,cl,hg4,_⟩,_⟩:=HTd.kep.mp
          have hbx:=HTd.box
          rw [e,hg4] at hbx
          cases hbx)).trans HTd.box⟩)
        have HBd:=HB3
        have HB3:=Lib.hid ((HBd.out.trans (two_of HM.out.1)).trans (two_turned HM.out.2.2))
        clear HTd HTe HBd HM hm4 hkd
        go_upto_region 8 with fail
        refine (wpIn_wide (n:=1)).1 ?_
        refine RegJ.wpIn_region_plan (F:=Fence.wide) (KeptW w4) (.step 0 0 (.step 1 0 (.step 2 0 (.step 3 0 (.step 4 0 (.step 5 0 (.step 6 0 (.step 7 1 .nil)))))))) (by kernel_rfl) (by kernel_rfl) (by kernel_rfl) (fun _ _ d _ _ h=>by cases d <;> exact h) ⟨rfl,rfl,rfl,Nat.le_refl _,fun _ _=>rfl⟩ ?_
        dsimp only [RegJ.pickJ,List.getElem?_cons_zero,List.getElem?_cons_succ]
        change RegJ.Can _ _ _ _ _ _ _ _ w4.drew
        have hkd:KeptW w4 w4.drew:=⟨rfl,rfl,rfl,Nat.le_refl _,fun _ _=>rfl⟩
        generalize w4.drew=v1 at *
        iterate 3 (refine RegJ.reads ?_;intro K hK;go_simp;(first | refine ⟨_,fun _ _=>rfl,hK _ ?_⟩ | refine hK _ ?_);clear hK K)
        refine RegJ.reads ?_
        intro K hK
        go_simp
        refine ⟨.agg #[.int .u64 (pn:Int),.int .u8 (prr:Int)],fun y hy=>?_,hK _ ?_⟩
        · obtain ⟨c0,c1,c2,c3,c4,c5,c6,c7⟩:=(HT.out.below (KeptW.bel hy)).cells
          go_simp
        clear hK K
        iterate 2 (refine RegJ.reads ?_;intro K hK;go_simp;(first | refine ⟨_,fun _ _=>rfl,hK _ ?_⟩ | refine hK _ ?_);clear hK K)
        refine RegJ.reads ?_
        intro K hK
        go_simp
        refine ⟨.agg #[.int .u64 (bn:Int),.int .u8 (br:Int)],fun y hy=>?_,hK _ ?_⟩
        · obtain ⟨c0,c1,c2,c3,c4,c5,c6,c7⟩:=(HT.out.below (KeptW.bel hy)).cells
          go_simp
        clear hK K
        refine RegJ.turns (fun _=>trivial) ?_
        intro K K0 hK hK0
        go_simp
        refine ⟨trivial,?_⟩
        refine (callsIn_wide.2 (HR.out v1)).mono ?_
        rintro e v2 ⟨rfl,hb7⟩
        have v2k:KeptW w4 v2:=KeptW.mono hkd hb7
        refine hK _ _ _ (fun _ h=>h) v2k ?_
        clear hK K hK0 K0
        refine RegJ.nil ?_
        have HT2:=Lib.hid (HT.out.below (KeptW.bel v2k))
        have hk2:=HT2.out.kep.row
        have t2:=thawed_row 2 hk2
        have t3:=thawed_row 3 hk2
        obtain ⟨c0,c1,c2,c3,c4,c5,c6,c7⟩:=HT2.out.cells
        have HKR:=Lib.hid hk2
        clear hk2 c0 c1 c4 c7
        go_wp2_with fail
        refine bodyPost_end (results_none rfl _ _ _) rfl ?_
        refine ⟨rfl,?_,(HB3.out.trans (two_of (KeptW.bel v2k))).trans ((two_cell _).trans (two_cell _))⟩
        rw [HV.out]
        exact (HT2.out.kep.rise ⟨bn,br⟩)
      | true =>
        by_cases hol:balLt ⟨on,orr⟩ ⟨bn,br⟩
        · have HV:=Lib.hid (show V.take (bs,bt).1 (.vot ⟨s,⟨bn,br⟩,vv⟩)={ (V.put ⟨s,⟨bn,br⟩,vv⟩) with pr:=⟨bn,br⟩ } from (take_yes ⟨hsl,fun p hp=>by rw [show V.vs s=some r0 from HE5.out] at hp;cases hp;rw [HR0.out];exact hol⟩).trans (rise_yes (show  balLt V.pr ⟨bn,br⟩ by rw [HP.out];exact hr)))
          rw [decide_eq_true hr] at HR
          clear hr
          rw [decide_eq_true hol] at HO
          clear hsl hol
          obtain ⟨c0,c1,c2,c3,c4,c5,c6,c7⟩:=HT.out.cells
          obtain ⟨d1,d2⟩:w3.cell? ⟨gb,1,none⟩=some (.int .u64 (on:Int))∧w3.cell? ⟨gb,2,none⟩=some (.int .u8 (orr:Int)):=by
            have h2:=HX.out
            rw [HR0.out] at h2
            exact ⟨cell_of_row _ _ _ _ _ _ h2,cell_of_row _ _ _ _ _ _ h2⟩
          clear c0 c4 c5 c6 c7
          go_upto_region 7 with ((with_reducible refine (HO.out _).mono ?_);rintro e wc ⟨rfl,hbc⟩;have HBC:=Lib.hid hbc;clear hbc)
          clear c1 c2 c3 d1 d2
          have HTc:=HT
          have HT:=Lib.hid (HTc.out.below HBC.out)
          have HBd:=HB3
          have HB3:=Lib.hid (HBd.out.trans (two_of HBC.out))
          clear HTc HBd HBC
          refine (wpIn_wide (n:=1)).1 ?_
          refine RegK.wpIn_region_can (F:=Fence.wide) (KeptW wc) [(0,0),(1,0),(2,0),(3,0),(4,0),(5,0),(6,0),(7,0),(8,0),(9,3)] (by kernel_rfl) (by kernel_rfl) (by kernel_rfl) (fun _ _ d _ _ h=>by cases d <;> exact h) ⟨rfl,rfl,rfl,Nat.le_refl _,fun _ _=>rfl⟩ ?_
          dsimp only [RegK.pick,List.getElem?_cons_zero,List.getElem?_cons_succ]
          change RegK.Can _ _ _ _ _ _ _ _ wc.drew
          have hkd:KeptW wc wc.drew:=⟨rfl,rfl,rfl,Nat.le_refl _,fun _ _=>rfl⟩
          generalize wc.drew=v1 at *
          iterate 3 (refine RegK.can_reads ?_;intro K hK;go_simp;(first | refine ⟨_,fun _ _=>rfl,hK _ ?_⟩ | refine hK _ ?_);clear hK K)
          refine RegK.can_reads ?_
          intro K hK
          go_simp
          refine ⟨.map (some g),fun y hy=>?_,hK _ ?_⟩
          · obtain ⟨c0,c1,c2,c3,c4,c5,c6,c7⟩:=(HT.out.below (KeptW.bel hy)).cells
            go_simp
          clear hK K
          iterate 2 (refine RegK.can_reads ?_;intro K hK;go_simp;(first | refine ⟨_,fun _ _=>rfl,hK _ ?_⟩ | refine hK _ ?_);clear hK K)
          refine RegK.can_reads ?_
          intro K hK
          go_simp
          refine ⟨.int .u64 (s:Int),fun y hy=>?_,hK _ ?_⟩
          · obtain ⟨c0,c1,c2,c3,c4,c5,c6,c7⟩:=(HT.out.below (KeptW.bel hy)).cells
            go_simp
          clear hK K
          refine RegK.can_reads ?_;intro K hK;go_simp;(first | refine ⟨_,fun _ _=>rfl,hK _ ?_⟩ | refine hK _ ?_);clear hK K
          refine RegK.can_reads ?_
          intro K hK
          go_simp
          refine ⟨.agg #[.int .u64 (s:Int),.int .u64 (bn:Int),.int .u8 (br:Int),.string xb],fun y hy=>?_,hK _ ?_⟩
          · obtain ⟨c0,c1,c2,c3,c4,c5,c6,c7⟩:=(HT.out.below (KeptW.bel hy)).cells
            go_simp
          clear hK K
          refine RegK.can_frees (fun _=>trivial) ?_
          intro K K0 hK hK0
          rw [if_pos (by simp [Region.wanted])]
          refine RegK.op_wide rfl ?_
          refine wp_store_mp _ _ _ 63 26 rfl lawU Tryz.underlying63 rfl (HT.out.below (KeptW.bel hkd)).kep.mp HN.out _ (voV s (⟨bn,br⟩,vv)) (ku s) rfl (by rw [HXB.out];rfl) HKY.out ?_
          intro w4 hm4 ht4
          refine hK (fun _=>True) _ _ trivial ?_
          clear hK K hK0 K0
          have HM:=Lib.hid (And.intro (KeptW.bel hkd) (And.intro hm4 ht4))
          clear hm4 ht4
          refine RegK.can_nil ?_
          have HTd:=HT.out.below HM.out.1
          have hm4:=HM.out.2.1
          rw [mpV_put] at hm4
          have HTe:=HT
          have HT:=Lib.hid (show TkAt w4 k S l g (n+1) (V.put ⟨s,⟨bn,br⟩,vv⟩) BQ 2 s bn br pn prr xb from ⟨⟨(turned_block HM.out.2.2 HTd.kep.ne).trans HTd.kep.row,hm4⟩,HTd.pr,(turned_block HM.out.2.2 (fun e=>by
            obtain ⟨_,⟨es,cl,hg4,_⟩,_⟩:=HTd.kep.mp
            have hbx:=HTd.box
            rw [e,hg4] at hbx
            cases hbx)).trans HTd.box⟩)
          have HBd:=HB3
          have HB3:=Lib.hid ((HBd.out.trans (two_of HM.out.1)).trans (two_turned HM.out.2.2))
          clear HTd HTe HBd HM hm4 hkd
          go_upto_region 8 with fail
          refine (wpIn_wide (n:=1)).1 ?_
          refine RegJ.wpIn_region_plan (F:=Fence.wide) (KeptW w4) (.step 0 0 (.step 1 0 (.step 2 0 (.step 3 0 (.step 4 0 (.step 5 0 (.step 6 0 (.step 7 1 .nil)))))))) (by kernel_rfl) (by kernel_rfl) (by kernel_rfl) (fun _ _ d _ _ h=>by cases d <;> exact h) ⟨rfl,rfl,rfl,Nat.le_refl _,fun _ _=>rfl⟩ ?_
          dsimp only [RegJ.pickJ,List.getElem?_cons_zero,List.getElem?_cons_succ]
          change RegJ.Can _ _ _ _ _ _ _ _ w4.drew
          have hkd:KeptW w4 w4.drew:=⟨rfl,rfl,rfl,Nat.le_refl _,fun _ _=>rfl⟩
          generalize w4.drew=v1 at *
          iterate 3 (refine RegJ.reads ?_;intro K hK;go_simp;(first | refine ⟨_,fun _ _=>rfl,hK _ ?_⟩ | refine hK _ ?_);clear hK K)
          refine RegJ.reads ?_
          intro K hK
          go_simp
          refine ⟨.agg #[.int .u64 (pn:Int),.int .u8 (prr:Int)],fun y hy=>?_,hK _ ?_⟩
          · obtain ⟨c0,c1,c2,c3,c4,c5,c6,c7⟩:=(HT.out.below (KeptW.bel hy)).cells
            go_simp
          clear hK K
          iterate 2 (refine RegJ.reads ?_;intro K hK;go_simp;(first | refine ⟨_,fun _ _=>rfl,hK _ ?_⟩ | refine hK _ ?_);clear hK K)
          refine RegJ.reads ?_
          intro K hK
          go_simp
          refine ⟨.agg #[.int .u64 (bn:Int),.int .u8 (br:Int)],fun y hy=>?_,hK _ ?_⟩
          · obtain ⟨c0,c1,c2,c3,c4,c5,c6,c7⟩:=(HT.out.below (KeptW.bel hy)).cells
            go_simp
          clear hK K
          refine RegJ.turns (fun _=>trivial) ?_
          intro K K0 hK hK0
          go_simp
          refine ⟨trivial,?_⟩
          refine (callsIn_wide.2 (HR.out v1)).mono ?_
          rintro e v2 ⟨rfl,hb7⟩
          have v2k:KeptW w4 v2:=KeptW.mono hkd hb7
          refine hK _ _ _ (fun _ h=>h) v2k ?_
          clear hK K hK0 K0
          refine RegJ.nil ?_
          have HT2:=Lib.hid (HT.out.below (KeptW.bel v2k))
          have hk2:=HT2.out.kep.row
          have t2:=thawed_row 2 hk2
          have t3:=thawed_row 3 hk2
          obtain ⟨c0,c1,c2,c3,c4,c5,c6,c7⟩:=HT2.out.cells
          have HKR:=Lib.hid hk2
          clear hk2 c0 c1 c4 c7
          go_wp2_with fail
          refine bodyPost_end (results_none rfl _ _ _) rfl ?_
          refine ⟨rfl,?_,(HB3.out.trans (two_of (KeptW.bel v2k))).trans ((two_cell _).trans (two_cell _))⟩
          rw [HV.out]
          exact (HT2.out.kep.rise ⟨bn,br⟩)
        · have HV:=Lib.hid (show V.take (bs,bt).1 (.vot ⟨s,⟨bn,br⟩,vv⟩)={ V with pr:=⟨bn,br⟩ } from (take_no (fun m=>hol (by have:=m.2 r0 HE5.out;rw [HR0.out] at this;exact this))).trans (rise_yes (show  balLt V.pr ⟨bn,br⟩ by rw [HP.out];exact hr)))
          rw [decide_eq_true hr] at HR
          clear hr
          rw [decide_eq_false hol] at HO
          clear hsl hol
          obtain ⟨c0,c1,c2,c3,c4,c5,c6,c7⟩:=HT.out.cells
          obtain ⟨d1,d2⟩:w3.cell? ⟨gb,1,none⟩=some (.int .u64 (on:Int))∧w3.cell? ⟨gb,2,none⟩=some (.int .u8 (orr:Int)):=by
            have h2:=HX.out
            rw [HR0.out] at h2
            exact ⟨cell_of_row _ _ _ _ _ _ h2,cell_of_row _ _ _ _ _ _ h2⟩
          clear c0 c4 c5 c6 c7
          go_upto_region 8 with ((with_reducible refine (HO.out _).mono ?_);rintro e wc ⟨rfl,hbc⟩;have HBC:=Lib.hid hbc;clear hbc)
          clear c1 c2 c3 d1 d2
          have HTc:=HT
          have HT:=Lib.hid (HTc.out.below HBC.out)
          have HBd:=HB3
          have HB3:=Lib.hid (HBd.out.trans (two_of HBC.out))
          clear HTc HBd HBC
          refine (wpIn_wide (n:=1)).1 ?_
          refine RegJ.wpIn_region_plan (F:=Fence.wide) (KeptW wc) (.step 0 0 (.step 1 0 (.step 2 0 (.step 3 0 (.step 4 0 (.step 5 0 (.step 6 0 (.step 7 1 .nil)))))))) (by kernel_rfl) (by kernel_rfl) (by kernel_rfl) (fun _ _ d _ _ h=>by cases d <;> exact h) ⟨rfl,rfl,rfl,Nat.le_refl _,fun _ _=>rfl⟩ ?_
          dsimp only [RegJ.pickJ,List.getElem?_cons_zero,List.getElem?_cons_succ]
          change RegJ.Can _ _ _ _ _ _ _ _ wc.drew
          have hkd:KeptW wc wc.drew:=⟨rfl,rfl,rfl,Nat.le_refl _,fun _ _=>rfl⟩
          generalize wc.drew=v1 at *
          iterate 3 (refine RegJ.reads ?_;intro K hK;go_simp;(first | refine ⟨_,fun _ _=>rfl,hK _ ?_⟩ | refine hK _ ?_);clear hK K)
          refine RegJ.reads ?_
          intro K hK
          go_simp
          refine ⟨.agg #[.int .u64 (pn:Int),.int .u8 (prr:Int)],fun y hy=>?_,hK _ ?_⟩
          · obtain ⟨c0,c1,c2,c3,c4,c5,c6,c7⟩:=(HT.out.below (KeptW.bel hy)).cells
            go_simp
          clear hK K
          iterate 2 (refine RegJ.reads ?_;intro K hK;go_simp;(first | refine ⟨_,fun _ _=>rfl,hK _ ?_⟩ | refine hK _ ?_);clear hK K)
          refine RegJ.reads ?_
          intro K hK
          go_simp
          refine ⟨.agg #[.int .u64 (bn:Int),.int .u8 (br:Int)],fun y hy=>?_,hK _ ?_⟩
          · obtain ⟨c0,c1,c2,c3,c4,c5,c6,c7⟩:=(HT.out.below (KeptW.bel hy)).cells
            go_simp
          clear hK K
          refine RegJ.turns (fun _=>trivial) ?_
          intro K K0 hK hK0
          go_simp
          refine ⟨trivial,?_⟩
          refine (callsIn_wide.2 (HR.out v1)).mono ?_
          rintro e v2 ⟨rfl,hb7⟩
          have v2k:KeptW wc v2:=KeptW.mono hkd hb7
          refine hK _ _ _ (fun _ h=>h) v2k ?_
          clear hK K hK0 K0
          refine RegJ.nil ?_
          have HT2:=Lib.hid (HT.out.below (KeptW.bel v2k))
          have hk2:=HT2.out.kep.row
          have t2:=thawed_row 2 hk2
          have t3:=thawed_row 3 hk2
          obtain ⟨c0,c1,c2,c3,c4,c5,c6,c7⟩:=HT2.out.cells
          have HKR:=Lib.hid hk2
          clear hk2 c0 c1 c4 c7
          go_wp2_with fail
          refine bodyPost_end (results_none rfl _ _ _) rfl ?_
          refine ⟨rfl,?_,(HB3.out.trans (two_of (KeptW.bel v2k))).trans ((two_cell _).trans (two_cell _))⟩
          rw [HV.out]
          exact (HT2.out.kep.rise ⟨bn,br⟩).wide (by omega)
    · have hsl' : ¬ (bs:Int)<(s:Int):=by omega
      have HV:=Lib.hid (show V.take (bs,bt).1 (.vot ⟨s,⟨bn,br⟩,vv⟩)={ V with pr:=⟨bn,br⟩ } from (take_no (fun m=>hsl m.1)).trans (rise_yes (show  balLt V.pr ⟨bn,br⟩ by rw [HP.out];exact hr)))
      rw [decide_eq_true hr] at HR
      clear hr
      clear hsl
      obtain ⟨c0,c1,c2,c3,c4,c5,c6,c7⟩:=HT.out.cells
      obtain ⟨d1,d2⟩:w3.cell? ⟨gb,1,none⟩=some (.int .u64 (on:Int))∧w3.cell? ⟨gb,2,none⟩=some (.int .u8 (orr:Int)):=by
        have h2:=HX.out
        rw [HR0.out] at h2
        exact ⟨cell_of_row _ _ _ _ _ _ h2,cell_of_row _ _ _ _ _ _ h2⟩
      clear c0 c4 c5 c6 c7
      go_upto_region 8 with fail
      clear c1 c2 c3 d1 d2
      refine (wpIn_wide (n:=1)).1 ?_
      refine RegJ.wpIn_region_plan (F:=Fence.wide) (KeptW w3) (.step 0 0 (.step 1 0 (.step 2 0 (.step 3 0 (.step 4 0 (.step 5 0 (.step 6 0 (.step 7 1 .nil)))))))) (by kernel_rfl) (by kernel_rfl) (by kernel_rfl) (fun _ _ d _ _ h=>by cases d <;> exact h) ⟨rfl,rfl,rfl,Nat.le_refl _,fun _ _=>rfl⟩ ?_
      dsimp only [RegJ.pickJ,List.getElem?_cons_zero,List.getElem?_cons_succ]
      change RegJ.Can _ _ _ _ _ _ _ _ w3.drew
      have hkd:KeptW w3 w3.drew:=⟨rfl,rfl,rfl,Nat.le_refl _,fun _ _=>rfl⟩
      generalize w3.drew=v1 at *
      iterate 3 (refine RegJ.reads ?_;intro K hK;go_simp;(first | refine ⟨_,fun _ _=>rfl,hK _ ?_⟩ | refine hK _ ?_);clear hK K)
      refine RegJ.reads ?_
      intro K hK
      go_simp
      refine ⟨.agg #[.int .u64 (pn:Int),.int .u8 (prr:Int)],fun y hy=>?_,hK _ ?_⟩
      · obtain ⟨c0,c1,c2,c3,c4,c5,c6,c7⟩:=(HT.out.below (KeptW.bel hy)).cells
        go_simp
      clear hK K
      iterate 2 (refine RegJ.reads ?_;intro K hK;go_simp;(first | refine ⟨_,fun _ _=>rfl,hK _ ?_⟩ | refine hK _ ?_);clear hK K)
      refine RegJ.reads ?_
      intro K hK
      go_simp
      refine ⟨.agg #[.int .u64 (bn:Int),.int .u8 (br:Int)],fun y hy=>?_,hK _ ?_⟩
      · obtain ⟨c0,c1,c2,c3,c4,c5,c6,c7⟩:=(HT.out.below (KeptW.bel hy)).cells
        go_simp
      clear hK K
      refine RegJ.turns (fun _=>trivial) ?_
      intro K K0 hK hK0
      go_simp
      refine ⟨trivial,?_⟩
      refine (callsIn_wide.2 (HR.out v1)).mono ?_
      rintro e v2 ⟨rfl,hb7⟩
      have v2k:KeptW w3 v2:=KeptW.mono hkd hb7
      refine hK _ _ _ (fun _ h=>h) v2k ?_
      clear hK K hK0 K0
      refine RegJ.nil ?_
      have HT2:=Lib.hid (HT.out.below (KeptW.bel v2k))
      have hk2:=HT2.out.kep.row
      have t2:=thawed_row 2 hk2
      have t3:=thawed_row 3 hk2
      obtain ⟨c0,c1,c2,c3,c4,c5,c6,c7⟩:=HT2.out.cells
      have HKR:=Lib.hid hk2
      clear hk2 c0 c1 c4 c7
      go_wp2_with fail
      refine bodyPost_end (results_none rfl _ _ _) rfl ?_
      refine ⟨rfl,?_,(HB3.out.trans (two_of (KeptW.bel v2k))).trans ((two_cell _).trans (two_cell _))⟩
      rw [HV.out]
      exact (HT2.out.kep.rise ⟨bn,br⟩).wide (by omega)
  · by_cases hsl:bs<s
    · have hsl':(bs:Int)<(s:Int):=by omega
      cases bq with
      | false =>
        have HV:=Lib.hid (show V.take (bs,bt).1 (.vot ⟨s,⟨bn,br⟩,vv⟩)=(V.put ⟨s,⟨bn,br⟩,vv⟩) from (take_yes ⟨hsl,fun p hp=>by rw [show V.vs s=none from HE5.out] at hp;cases hp⟩).trans (rise_no (show ¬ balLt V.pr ⟨bn,br⟩ by rw [HP.out];exact hr)))
        rw [decide_eq_false hr] at HR
        clear hr
        clear hsl
        obtain ⟨c0,c1,c2,c3,c4,c5,c6,c7⟩:=HT.out.cells
        obtain ⟨d1,d2⟩:w3.cell? ⟨gb,1,none⟩=some (.int .u64 (on:Int))∧w3.cell? ⟨gb,2,none⟩=some (.int .u8 (orr:Int)):=by
          have h2:=HX.out
          rw [HR0.out] at h2
          exact ⟨cell_of_row _ _ _ _ _ _ h2,cell_of_row _ _ _ _ _ _ h2⟩
        clear c0 c4 c5 c6 c7
        go_upto_region 7 with fail
        clear c1 c2 c3 d1 d2
        refine (wpIn_wide (n:=1)).1 ?_
        refine RegK.wpIn_region_can (F:=Fence.wide) (KeptW w3) [(0,0),(1,0),(2,0),(3,0),(4,0),(5,0),(6,0),(7,0),(8,0),(9,3)] (by kernel_rfl) (by kernel_rfl) (by kernel_rfl) (fun _ _ d _ _ h=>by cases d <;> exact h) ⟨rfl,rfl,rfl,Nat.le_refl _,fun _ _=>rfl⟩ ?_
        dsimp only [RegK.pick,List.getElem?_cons_zero,List.getElem?_cons_succ]
        change RegK.Can _ _ _ _ _ _ _ _ w3.drew
        have hkd:KeptW w3 w3.drew:=⟨rfl,rfl,rfl,Nat.le_refl _,fun _ _=>rfl⟩
        generalize w3.drew=v1 at *
        iterate 3 (refine RegK.can_reads ?_;intro K hK;go_simp;(first | refine ⟨_,fun _ _=>rfl,hK _ ?_⟩ | refine hK _ ?_);clear hK K)
        refine RegK.can_reads ?_
        intro K hK
        go_simp
        refine ⟨.map (some g),fun y hy=>?_,hK _ ?_⟩
        · obtain ⟨c0,c1,c2,c3,c4,c5,c6,c7⟩:=(HT.out.below (KeptW.bel hy)).cells
          go_simp
        clear hK K
        iterate 2 (refine RegK.can_reads ?_;intro K hK;go_simp;(first | refine ⟨_,fun _ _=>rfl,hK _ ?_⟩ | refine hK _ ?_);clear hK K)
        refine RegK.can_reads ?_
        intro K hK
        go_simp
        refine ⟨.int .u64 (s:Int),fun y hy=>?_,hK _ ?_⟩
        · obtain ⟨c0,c1,c2,c3,c4,c5,c6,c7⟩:=(HT.out.below (KeptW.bel hy)).cells
          go_simp
        clear hK K
        refine RegK.can_reads ?_;intro K hK;go_simp;(first | refine ⟨_,fun _ _=>rfl,hK _ ?_⟩ | refine hK _ ?_);clear hK K
        refine RegK.can_reads ?_
        intro K hK
        go_simp
        refine ⟨.agg #[.int .u64 (s:Int),.int .u64 (bn:Int),.int .u8 (br:Int),.string xb],fun y hy=>?_,hK _ ?_⟩
        · obtain ⟨c0,c1,c2,c3,c4,c5,c6,c7⟩:=(HT.out.below (KeptW.bel hy)).cells
          go_simp
        clear hK K
        refine RegK.can_frees (fun _=>trivial) ?_
        intro K K0 hK hK0
        rw [if_pos (by simp [Region.wanted])]
        refine RegK.op_wide rfl ?_
        refine wp_store_mp _ _ _ 63 26 rfl lawU Tryz.underlying63 rfl (HT.out.below (KeptW.bel hkd)).kep.mp HN.out _ (voV s (⟨bn,br⟩,vv)) (ku s) rfl (by rw [HXB.out];rfl) HKY.out ?_
        intro w4 hm4 ht4
        refine hK (fun _=>True) _ _ trivial ?_
        clear hK K hK0 K0
        have HM:=Lib.hid (And.intro (KeptW.bel hkd) (And.intro hm4 ht4))
        clear hm4 ht4
        refine RegK.can_nil ?_
        have HTd:=HT.out.below HM.out.1
        have hm4:=HM.out.2.1
        rw [mpV_put] at hm4
        have HTe:=HT
        have HT:=Lib.hid (show TkAt w4 k S l g (n+1) (V.put ⟨s,⟨bn,br⟩,vv⟩) BQ 2 s bn br pn prr xb from ⟨⟨(turned_block HM.out.2.2 HTd.kep.ne).trans HTd.kep.row,hm4⟩,HTd.pr,(turned_block HM.out.2.2 (fun e=>by
          obtain ⟨_,⟨es,cl,hg4,_⟩,_⟩:=HTd.kep.mp
          have hbx:=HTd.box
          rw [e,hg4] at hbx
          cases hbx)).trans HTd.box⟩)
        have HBd:=HB3
        have HB3:=Lib.hid ((HBd.out.trans (two_of HM.out.1)).trans (two_turned HM.out.2.2))
        clear HTd HTe HBd HM hm4 hkd
        go_upto_region 8 with fail
        refine (wpIn_wide (n:=1)).1 ?_
        refine RegJ.wpIn_region_plan (F:=Fence.wide) (KeptW w4) (.step 0 0 (.step 1 0 (.step 2 0 (.step 3 0 (.step 4 0 (.step 5 0 (.step 6 0 (.step 7 1 .nil)))))))) (by kernel_rfl) (by kernel_rfl) (by kernel_rfl) (fun _ _ d _ _ h=>by cases d <;> exact h) ⟨rfl,rfl,rfl,Nat.le_refl _,fun _ _=>rfl⟩ ?_
        dsimp only [RegJ.pickJ,List.getElem?_cons_zero,List.getElem?_cons_succ]
        change RegJ.Can _ _ _ _ _ _ _ _ w4.drew
        have hkd:KeptW w4 w4.drew:=⟨rfl,rfl,rfl,Nat.le_refl _,fun _ _=>rfl⟩
        generalize w4.drew=v1 at *
        iterate 3 (refine RegJ.reads ?_;intro K hK;go_simp;(first | refine ⟨_,fun _ _=>rfl,hK _ ?_⟩ | refine hK _ ?_);clear hK K)
        refine RegJ.reads ?_
        intro K hK
        go_simp
        refine ⟨.agg #[.int .u64 (pn:Int),.int .u8 (prr:Int)],fun y hy=>?_,hK _ ?_⟩
        · obtain ⟨c0,c1,c2,c3,c4,c5,c6,c7⟩:=(HT.out.below (KeptW.bel hy)).cells
          go_simp
        clear hK K
        iterate 2 (refine RegJ.reads ?_;intro K hK;go_simp;(first | refine ⟨_,fun _ _=>rfl,hK _ ?_⟩ | refine hK _ ?_);clear hK K)
        refine RegJ.reads ?_
        intro K hK
        go_simp
        refine ⟨.agg #[.int .u64 (bn:Int),.int .u8 (br:Int)],fun y hy=>?_,hK _ ?_⟩
        · obtain ⟨c0,c1,c2,c3,c4,c5,c6,c7⟩:=(HT.out.below (KeptW.bel hy)).cells
          go_simp
        clear hK K
        refine RegJ.turns (fun _=>trivial) ?_
        intro K K0 hK hK0
        go_simp
        refine ⟨trivial,?_⟩
        refine (callsIn_wide.2 (HR.out v1)).mono ?_
        rintro e v2 ⟨rfl,hb7⟩
        have v2k:KeptW w4 v2:=KeptW.mono hkd hb7
        refine hK _ _ _ (fun _ h=>h) v2k ?_
        clear hK K hK0 K0
        refine RegJ.nil ?_
        have HT2:=Lib.hid (HT.out.below (KeptW.bel v2k))
        go_wp2_with fail
        refine bodyPost_end (results_none rfl _ _ _) rfl ?_
        refine ⟨rfl,?_,HB3.out.trans (two_of (KeptW.bel v2k))⟩
        rw [HV.out]
        exact HT2.out.kep
      | true =>
        by_cases hol:balLt ⟨on,orr⟩ ⟨bn,br⟩
        · have HV:=Lib.hid (show V.take (bs,bt).1 (.vot ⟨s,⟨bn,br⟩,vv⟩)=(V.put ⟨s,⟨bn,br⟩,vv⟩) from (take_yes ⟨hsl,fun p hp=>by rw [show V.vs s=some r0 from HE5.out] at hp;cases hp;rw [HR0.out];exact hol⟩).trans (rise_no (show ¬ balLt V.pr ⟨bn,br⟩ by rw [HP.out];exact hr)))
          rw [decide_eq_false hr] at HR
          clear hr
          rw [decide_eq_true hol] at HO
          clear hsl hol
          obtain ⟨c0,c1,c2,c3,c4,c5,c6,c7⟩:=HT.out.cells
          obtain ⟨d1,d2⟩:w3.cell? ⟨gb,1,none⟩=some (.int .u64 (on:Int))∧w3.cell? ⟨gb,2,none⟩=some (.int .u8 (orr:Int)):=by
            have h2:=HX.out
            rw [HR0.out] at h2
            exact ⟨cell_of_row _ _ _ _ _ _ h2,cell_of_row _ _ _ _ _ _ h2⟩
          clear c0 c4 c5 c6 c7
          go_upto_region 7 with ((with_reducible refine (HO.out _).mono ?_);rintro e wc ⟨rfl,hbc⟩;have HBC:=Lib.hid hbc;clear hbc)
          clear c1 c2 c3 d1 d2
          have HTc:=HT
          have HT:=Lib.hid (HTc.out.below HBC.out)
          have HBd:=HB3
          have HB3:=Lib.hid (HBd.out.trans (two_of HBC.out))
          clear HTc HBd HBC
          refine (wpIn_wide (n:=1)).1 ?_
          refine RegK.wpIn_region_can (F:=Fence.wide) (KeptW wc) [(0,0),(1,0),(2,0),(3,0),(4,0),(5,0),(6,0),(7,0),(8,0),(9,3)] (by kernel_rfl) (by kernel_rfl) (by kernel_rfl) (fun _ _ d _ _ h=>by cases d <;> exact h) ⟨rfl,rfl,rfl,Nat.le_refl _,fun _ _=>rfl⟩ ?_
          dsimp only [RegK.pick,List.getElem?_cons_zero,List.getElem?_cons_succ]
          change RegK.Can _ _ _ _ _ _ _ _ wc.drew
          have hkd:KeptW wc wc.drew:=⟨rfl,rfl,rfl,Nat.le_refl _,fun _ _=>rfl⟩
          generalize wc.drew=v1 at *
          iterate 3 (refine RegK.can_reads ?_;intro K hK;go_simp;(first | refine ⟨_,fun _ _=>rfl,hK _ ?_⟩ | refine hK _ ?_);clear hK K)
          refine RegK.can_reads ?_
          intro K hK
          go_simp
          refine ⟨.map (some g),fun y hy=>?_,hK _ ?_⟩
          · obtain ⟨c0,c1,c2,c3,c4,c5,c6,c7⟩:=(HT.out.below (KeptW.bel hy)).cells
            go_simp
          clear hK K
          iterate 2 (refine RegK.can_reads ?_;intro K hK;go_simp;(first | refine ⟨_,fun _ _=>rfl,hK _ ?_⟩ | refine hK _ ?_);clear hK K)
          refine RegK.can_reads ?_
          intro K hK
          go_simp
          refine ⟨.int .u64 (s:Int),fun y hy=>?_,hK _ ?_⟩
          · obtain ⟨c0,c1,c2,c3,c4,c5,c6,c7⟩:=(HT.out.below (KeptW.bel hy)).cells
            go_simp
          clear hK K
          refine RegK.can_reads ?_;intro K hK;go_simp;(first | refine ⟨_,fun _ _=>rfl,hK _ ?_⟩ | refine hK _ ?_);clear hK K
          refine RegK.can_reads ?_
          intro K hK
          go_simp
          refine ⟨.agg #[.int .u64 (s:Int),.int .u64 (bn:Int),.int .u8 (br:Int),.string xb],fun y hy=>?_,hK _ ?_⟩
          · obtain ⟨c0,c1,c2,c3,c4,c5,c6,c7⟩:=(HT.out.below (KeptW.bel hy)).cells
            go_simp
          clear hK K
          refine RegK.can_frees (fun _=>trivial) ?_
          intro K K0 hK hK0
          rw [if_pos (by simp [Region.wanted])]
          refine RegK.op_wide rfl ?_
          refine wp_store_mp _ _ _ 63 26 rfl lawU Tryz.underlying63 rfl (HT.out.below (KeptW.bel hkd)).kep.mp HN.out _ (voV s (⟨bn,br⟩,vv)) (ku s) rfl (by rw [HXB.out];rfl) HKY.out ?_
          intro w4 hm4 ht4
          refine hK (fun _=>True) _ _ trivial ?_
          clear hK K hK0 K0
          have HM:=Lib.hid (And.intro (KeptW.bel hkd) (And.intro hm4 ht4))
          clear hm4 ht4
          refine RegK.can_nil ?_
          have HTd:=HT.out.below HM.out.1
          have hm4:=HM.out.2.1
          rw [mpV_put] at hm4
          have HTe:=HT
          have HT:=Lib.hid (show TkAt w4 k S l g (n+1) (V.put ⟨s,⟨bn,br⟩,vv⟩) BQ 2 s bn br pn prr xb from ⟨⟨(turned_block HM.out.2.2 HTd.kep.ne).trans HTd.kep.row,hm4⟩,HTd.pr,(turned_block HM.out.2.2 (fun e=>by
            obtain ⟨_,⟨es,cl,hg4,_⟩,_⟩:=HTd.kep.mp
            have hbx:=HTd.box
            rw [e,hg4] at hbx
            cases hbx)).trans HTd.box⟩)
          have HBd:=HB3
          have HB3:=Lib.hid ((HBd.out.trans (two_of HM.out.1)).trans (two_turned HM.out.2.2))
          clear HTd HTe HBd HM hm4 hkd
          go_upto_region 8 with fail
          refine (wpIn_wide (n:=1)).1 ?_
          refine RegJ.wpIn_region_plan (F:=Fence.wide) (KeptW w4) (.step 0 0 (.step 1 0 (.step 2 0 (.step 3 0 (.step 4 0 (.step 5 0 (.step 6 0 (.step 7 1 .nil)))))))) (by kernel_rfl) (by kernel_rfl) (by kernel_rfl) (fun _ _ d _ _ h=>by cases d <;> exact h) ⟨rfl,rfl,rfl,Nat.le_refl _,fun _ _=>rfl⟩ ?_
          dsimp only [RegJ.pickJ,List.getElem?_cons_zero,List.getElem?_cons_succ]
          change RegJ.Can _ _ _ _ _ _ _ _ w4.drew
          have hkd:KeptW w4 w4.drew:=⟨rfl,rfl,rfl,Nat.le_refl _,fun _ _=>rfl⟩
          generalize w4.drew=v1 at *
          iterate 3 (refine RegJ.reads ?_;intro K hK;go_simp;(first | refine ⟨_,fun _ _=>rfl,hK _ ?_⟩ | refine hK _ ?_);clear hK K)
          refine RegJ.reads ?_
          intro K hK
          go_simp
          refine ⟨.agg #[.int .u64 (pn:Int),.int .u8 (prr:Int)],fun y hy=>?_,hK _ ?_⟩
          · obtain ⟨c0,c1,c2,c3,c4,c5,c6,c7⟩:=(HT.out.below (KeptW.bel hy)).cells
            go_simp
          clear hK K
          iterate 2 (refine RegJ.reads ?_;intro K hK;go_simp;(first | refine ⟨_,fun _ _=>rfl,hK _ ?_⟩ | refine hK _ ?_);clear hK K)
          refine RegJ.reads ?_
          intro K hK
          go_simp
          refine ⟨.agg #[.int .u64 (bn:Int),.int .u8 (br:Int)],fun y hy=>?_,hK _ ?_⟩
          · obtain ⟨c0,c1,c2,c3,c4,c5,c6,c7⟩:=(HT.out.below (KeptW.bel hy)).cells
            go_simp
          clear hK K
          refine RegJ.turns (fun _=>trivial) ?_
          intro K K0 hK hK0
          go_simp
          refine ⟨trivial,?_⟩
          refine (callsIn_wide.2 (HR.out v1)).mono ?_
          rintro e v2 ⟨rfl,hb7⟩
          have v2k:KeptW w4 v2:=KeptW.mono hkd hb7
          refine hK _ _ _ (fun _ h=>h) v2k ?_
          clear hK K hK0 K0
          refine RegJ.nil ?_
          have HT2:=Lib.hid (HT.out.below (KeptW.bel v2k))
          go_wp2_with fail
          refine bodyPost_end (results_none rfl _ _ _) rfl ?_
          refine ⟨rfl,?_,HB3.out.trans (two_of (KeptW.bel v2k))⟩
          rw [HV.out]
          exact HT2.out.kep
        · have HV:=Lib.hid (show V.take (bs,bt).1 (.vot ⟨s,⟨bn,br⟩,vv⟩)=V from (take_no (fun m=>hol (by have:=m.2 r0 HE5.out;rw [HR0.out] at this;exact this))).trans (rise_no (show ¬ balLt V.pr ⟨bn,br⟩ by rw [HP.out];exact hr)))
          rw [decide_eq_false hr] at HR
          clear hr
          rw [decide_eq_false hol] at HO
          clear hsl hol
          obtain ⟨c0,c1,c2,c3,c4,c5,c6,c7⟩:=HT.out.cells
          obtain ⟨d1,d2⟩:w3.cell? ⟨gb,1,none⟩=some (.int .u64 (on:Int))∧w3.cell? ⟨gb,2,none⟩=some (.int .u8 (orr:Int)):=by
            have h2:=HX.out
            rw [HR0.out] at h2
            exact ⟨cell_of_row _ _ _ _ _ _ h2,cell_of_row _ _ _ _ _ _ h2⟩
          clear c0 c4 c5 c6 c7
          go_upto_region 8 with ((with_reducible refine (HO.out _).mono ?_);rintro e wc ⟨rfl,hbc⟩;have HBC:=Lib.hid hbc;clear hbc)
          clear c1 c2 c3 d1 d2
          have HTc:=HT
          have HT:=Lib.hid (HTc.out.below HBC.out)
          have HBd:=HB3
          have HB3:=Lib.hid (HBd.out.trans (two_of HBC.out))
          clear HTc HBd HBC
          refine (wpIn_wide (n:=1)).1 ?_
          refine RegJ.wpIn_region_plan (F:=Fence.wide) (KeptW wc) (.step 0 0 (.step 1 0 (.step 2 0 (.step 3 0 (.step 4 0 (.step 5 0 (.step 6 0 (.step 7 1 .nil)))))))) (by kernel_rfl) (by kernel_rfl) (by kernel_rfl) (fun _ _ d _ _ h=>by cases d <;> exact h) ⟨rfl,rfl,rfl,Nat.le_refl _,fun _ _=>rfl⟩ ?_
          dsimp only [RegJ.pickJ,List.getElem?_cons_zero,List.getElem?_cons_succ]
          change RegJ.Can _ _ _ _ _ _ _ _ wc.drew
          have hkd:KeptW wc wc.drew:=⟨rfl,rfl,rfl,Nat.le_refl _,fun _ _=>rfl⟩
          generalize wc.drew=v1 at *
          iterate 3 (refine RegJ.reads ?_;intro K hK;go_simp;(first | refine ⟨_,fun _ _=>rfl,hK _ ?_⟩ | refine hK _ ?_);clear hK K)
          refine RegJ.reads ?_
          intro K hK
          go_simp
          refine ⟨.agg #[.int .u64 (pn:Int),.int .u8 (prr:Int)],fun y hy=>?_,hK _ ?_⟩
          · obtain ⟨c0,c1,c2,c3,c4,c5,c6,c7⟩:=(HT.out.below (KeptW.bel hy)).cells
            go_simp
          clear hK K
          iterate 2 (refine RegJ.reads ?_;intro K hK;go_simp;(first | refine ⟨_,fun _ _=>rfl,hK _ ?_⟩ | refine hK _ ?_);clear hK K)
          refine RegJ.reads ?_
          intro K hK
          go_simp
          refine ⟨.agg #[.int .u64 (bn:Int),.int .u8 (br:Int)],fun y hy=>?_,hK _ ?_⟩
          · obtain ⟨c0,c1,c2,c3,c4,c5,c6,c7⟩:=(HT.out.below (KeptW.bel hy)).cells
            go_simp
          clear hK K
          refine RegJ.turns (fun _=>trivial) ?_
          intro K K0 hK hK0
          go_simp
          refine ⟨trivial,?_⟩
          refine (callsIn_wide.2 (HR.out v1)).mono ?_
          rintro e v2 ⟨rfl,hb7⟩
          have v2k:KeptW wc v2:=KeptW.mono hkd hb7
          refine hK _ _ _ (fun _ h=>h) v2k ?_
          clear hK K hK0 K0
          refine RegJ.nil ?_
          have HT2:=Lib.hid (HT.out.below (KeptW.bel v2k))
          go_wp2_with fail
          refine bodyPost_end (results_none rfl _ _ _) rfl ?_
          refine ⟨rfl,?_,HB3.out.trans (two_of (KeptW.bel v2k))⟩
          rw [HV.out]
          exact HT2.out.kep.wide (by omega)
    · have hsl' : ¬ (bs:Int)<(s:Int):=by omega
      have HV:=Lib.hid (show V.take (bs,bt).1 (.vot ⟨s,⟨bn,br⟩,vv⟩)=V from (take_no (fun m=>hsl m.1)).trans (rise_no (show ¬ balLt V.pr ⟨bn,br⟩ by rw [HP.out];exact hr)))
      rw [decide_eq_false hr] at HR
      clear hr
      clear hsl
      obtain ⟨c0,c1,c2,c3,c4,c5,c6,c7⟩:=HT.out.cells
      obtain ⟨d1,d2⟩:w3.cell? ⟨gb,1,none⟩=some (.int .u64 (on:Int))∧w3.cell? ⟨gb,2,none⟩=some (.int .u8 (orr:Int)):=by
        have h2:=HX.out
        rw [HR0.out] at h2
        exact ⟨cell_of_row _ _ _ _ _ _ h2,cell_of_row _ _ _ _ _ _ h2⟩
      clear c0 c4 c5 c6 c7
      go_upto_region 8 with fail
      clear c1 c2 c3 d1 d2
      refine (wpIn_wide (n:=1)).1 ?_
      refine RegJ.wpIn_region_plan (F:=Fence.wide) (KeptW w3) (.step 0 0 (.step 1 0 (.step 2 0 (.step 3 0 (.step 4 0 (.step 5 0 (.step 6 0 (.step 7 1 .nil)))))))) (by kernel_rfl) (by kernel_rfl) (by kernel_rfl) (fun _ _ d _ _ h=>by cases d <;> exact h) ⟨rfl,rfl,rfl,Nat.le_refl _,fun _ _=>rfl⟩ ?_
      dsimp only [RegJ.pickJ,List.getElem?_cons_zero,List.getElem?_cons_succ]
      change RegJ.Can _ _ _ _ _ _ _ _ w3.drew
      have hkd:KeptW w3 w3.drew:=⟨rfl,rfl,rfl,Nat.le_refl _,fun _ _=>rfl⟩
      generalize w3.drew=v1 at *
      iterate 3 (refine RegJ.reads ?_;intro K hK;go_simp;(first | refine ⟨_,fun _ _=>rfl,hK _ ?_⟩ | refine hK _ ?_);clear hK K)
      refine RegJ.reads ?_
      intro K hK
      go_simp
      refine ⟨.agg #[.int .u64 (pn:Int),.int .u8 (prr:Int)],fun y hy=>?_,hK _ ?_⟩
      · obtain ⟨c0,c1,c2,c3,c4,c5,c6,c7⟩:=(HT.out.below (KeptW.bel hy)).cells
        go_simp
      clear hK K
      iterate 2 (refine RegJ.reads ?_;intro K hK;go_simp;(first | refine ⟨_,fun _ _=>rfl,hK _ ?_⟩ | refine hK _ ?_);clear hK K)
      refine RegJ.reads ?_
      intro K hK
      go_simp
      refine ⟨.agg #[.int .u64 (bn:Int),.int .u8 (br:Int)],fun y hy=>?_,hK _ ?_⟩
      · obtain ⟨c0,c1,c2,c3,c4,c5,c6,c7⟩:=(HT.out.below (KeptW.bel hy)).cells
        go_simp
      clear hK K
      refine RegJ.turns (fun _=>trivial) ?_
      intro K K0 hK hK0
      go_simp
      refine ⟨trivial,?_⟩
      refine (callsIn_wide.2 (HR.out v1)).mono ?_
      rintro e v2 ⟨rfl,hb7⟩
      have v2k:KeptW w3 v2:=KeptW.mono hkd hb7
      refine hK _ _ _ (fun _ h=>h) v2k ?_
      clear hK K hK0 K0
      refine RegJ.nil ?_
      have HT2:=Lib.hid (HT.out.below (KeptW.bel v2k))
      go_wp2_with fail
      refine bodyPost_end (results_none rfl _ _ _) rfl ?_
      refine ⟨rfl,?_,HB3.out.trans (two_of (KeptW.bel v2k))⟩
      rw [HV.out]
      exact HT2.out.kep.wide (by omega)
end Go.Proofs.YticjodhkmidljaaGreatDoor
