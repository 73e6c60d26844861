/- Chains: the document's bases: Lead. Condition: the chain lies there. -/
import Derived.Test.YtbckjgageofldaaGreatZLearnPlays25
import Derived.Test.YtbckjgageofldaaGreatZLearnPlays26
import Derived.Test.YtbckjgageofldaaGreatZLearnPlays28
import Derived.Test.YtbckjgageofldaaGreatZLearnPlays27
import Derived.Test.YtbckjgageofldaaGreatZLearnPlays22
import Derived.Test.YtbckjgageofldaaGreatZLearnPlays6
import Derived.Test.YtbckjgageofldaaGreatZLearnPlays8
set_option maxRecDepth 100000
set_option maxHeartbeats 16000000
namespace Go.Proofs.YtbckjgageofldaaGreat
open Go.RowKit
def RbV.bs (b:RbV):BsV:=⟨b.M,none,b.s,b.t⟩
structure RLok (w:World) (M0:MacV) (L:List RbV):Prop where
 ref:∀ b ∈ L,∃ z,RefAt w b.r b.M z
 all:∀ b ∈ L,MacAll b.M∧b.M.all=M0.all∧b.t.length≤3
theorem RLok.below {w w':World} {M0:MacV} {L:List RbV} (h:RLok w M0 L) (hb:Below w.heap.size w w'):RLok w' M0 L :=
 ⟨fun b hb2=>by obtain ⟨z,hz⟩:=h.ref b hb2;exact ⟨z,hz.below hb⟩,h.all⟩
theorem newR_bs (L:List RbV) (h:L≠[]):newB (L.map RbV.bs)=(newR L).bs:=by
 unfold newB newR;rw [List.getLast?_map];cases hl:L.getLast? with
 | none=>rw [List.getLast?_eq_none_iff] at hl;exact absurd hl h
 | some x=>rfl
theorem newR_mem {L:List RbV} (h:L≠[]):newR L ∈ L∧L[L.length - 1]?=some (newR L):=by
 unfold newR;rw [← List.getLast?_eq_getElem?];cases hl:L.getLast? with
 | none=>rw [List.getLast?_eq_none_iff] at hl;exact absurd hl h
 | some x=>exact ⟨List.mem_of_getLast? hl,rfl⟩
theorem leadR_cut {L:List RbV} {n:Nat} (h:L≠[]) (hn : ¬ (newR L).s≤n):leadV (L.map RbV.bs) n=(match L.find? (fun b=>b.s == n) with
  | some b=>(⟨13,n,(newR L).s,leadB (newR L).t b.M (newR L).M⟩,true)
  | none=>(⟨12,0,(newR L).s,textB (newR L).t (newR L).M⟩,true)):=by
 unfold leadV;rw [newR_bs L h,if_neg (show ¬ (newR L).bs.top≤n from hn),List.find?_map];show (match (L.find? (fun b=>b.s == n)).map RbV.bs with | some b=>_ | none=>_)=_;cases L.find? (fun b=>b.s == n) <;> rfl
theorem leadR_low {L:List RbV} {n:Nat} (hn:L=[]∨(newR L).s≤n):leadV (L.map RbV.bs) n=(lm0,false):=by
 rcases hn with rfl | h
 ·
  rfl
 ·
  by_cases h0:L=[]
  ·
   subst h0;rfl
  ·
   unfold leadV;rw [newR_bs L h0,if_pos (show (newR L).bs.top≤n from h)]
def RLead (L:List RbV) (n:Nat) (w:World) (e:Ending) (w':World):Prop:=e=.returned (.tuple #[lmV (leadV (L.map RbV.bs) n).1,.bool (leadV (L.map RbV.bs) n).2])∧Below w.heap.size w w'
theorem rlead_low (L:List RbV) (A:Option Addr) (l c n:Nat) (w:World) (hL:SliceAt 6 rbCells w A l L) (hl3:l≤3) (hlo:L=[]∨(newR L).s≤n) :
  Calls Tryz.prog 26 #[.slice A l c,.int .u64 (n:Int)] w (RLead L n w):=by
 have hln:=hL.hlen;have hlv:=leadR_low hlo;unfold RLead;rw [hlv];clear hlv;have hb1:=(Below.refl w.heap.size w).alloc (Nat.le_refl _) (.cells (lmCells lm0).toArray 58);have hm1:LmAt (w.alloc (.cells (lmCells lm0).toArray 58)) w.heap.size lm0:=heap_alloc_new _ _;obtain ⟨g,hg⟩:∃ g,w.heap.size=g:=⟨_,rfl⟩;rw [hg] at hm1;have Hg:=Lib.hid (Nat.le_of_eq hg);have HL:=Lib.hid hL;clear hL;have Hb1:=Lib.hid hb1;have Hm1:=Lib.hid hm1;clear hb1 hm1;go_enter Tryz.func26,Tryz.ntmps26
 go_upto_region 1 with fail;change Code.wp _ _ _ _ (w.alloc (.cells (lmCells lm0).toArray 58));generalize w.alloc (.cells (lmCells lm0).toArray 58)=w1 at *;clear hg;by_cases h0:L=[]
 ·
  subst h0;have h1:l=0:=hln.symm;subst h1;clear hlo hln hl3 HL;go_wp2_with ((with_reducible refine wpList_store_mid rfl 58 _ _ rfl g 0 _ rfl rfl ?_ ?_ ?_ ?_);exact there_row (cs:=lmCells lm0) Hm1.out;exact lm_size;exact all_oneCell_toArray (lm_one lm0));change bodyPost _ _ _ _ _ (w1.setCells g 0 (lmCells lm0));have HZ:=Lib.hid (lmSt_at Hm1.out lm0);have Hbz:=Lib.hid (rowSt_below Hg.out (lmCells lm0) 0 _ Hb1.out);rw [st_eq];generalize rowSt w1 g 0 (lmCells lm0)=w9 at *;refine bodyPost_ret (v:=.tuple #[lmV lm0,.bool false]) (by simp [results,Tryz.results26,show (asAddr (Value.pointer (some ⟨g,0,none⟩))).run Tryz.prog w9=.ok ⟨g,0,none⟩ w9 from rfl,lm_loadVar HZ.out]) rfl ?_;exact ⟨rfl,Hbz.out⟩
 ·
  have hle:=hlo.resolve_left h0;obtain ⟨_,hlast⟩:=newR_mem h0;rw [hln] at hlast;have hl0:0<l:=by have:=List.length_pos_iff.2 h0;omega
  obtain ⟨B,o,rfl,hrg⟩:=rbs_at HL.out hlast Hb1.out;have hw1:IntKind.i64.wrap ((l:Int) - 1)=((l - 1:Nat):Int):=by rw [IntKind.wrap_i64];omega
  have hk1 : ¬ ((l - 1:Nat):Int)<0:=by omega
  have hk2:((l - 1:Nat):Int)<(l:Int):=by omega
  have f0:w1.cell? ⟨B,o+(l - 1)*6,none⟩=some (.int .u64 ((newR L).s:Int)):=hrg 0 _ rfl;obtain ⟨ns,hns⟩:∃ q,(newR L).s=q:=⟨_,rfl⟩;rw [hns] at f0 hle;have hle2:(ns:Int)≤(n:Int):=by omega
  have hlz:((l:Int) == 0)=false:=by rw [beq_eq_false_iff_ne];omega
  clear hlo hln hl3 HL hrg hlast hns h0 hle hl0;go_wp2_with ((with_reducible refine wpList_store_mid rfl 58 _ _ rfl g 0 _ rfl rfl ?_ ?_ ?_ ?_);exact there_row (cs:=lmCells lm0) Hm1.out;exact lm_size;exact all_oneCell_toArray (lm_one lm0));change bodyPost _ _ _ _ _ (w1.setCells g 0 (lmCells lm0));have HZ:=Lib.hid (lmSt_at Hm1.out lm0);have Hbz:=Lib.hid (rowSt_below Hg.out (lmCells lm0) 0 _ Hb1.out);rw [st_eq];generalize rowSt w1 g 0 (lmCells lm0)=w9 at *;refine bodyPost_ret (v:=.tuple #[lmV lm0,.bool false]) (by simp [results,Tryz.results26,show (asAddr (Value.pointer (some ⟨g,0,none⟩))).run Tryz.prog w9=.ok ⟨g,0,none⟩ w9 from rfl,lm_loadVar HZ.out]) rfl ?_;exact ⟨rfl,Hbz.out⟩
theorem rb_ref {y:World} {B off:Nat} {x:RbV} (h:y.rangeAt B off (rbCells x)):(Instr.loadAt 43 (.pointer (some ⟨B,off+2,none⟩))).run Tryz.prog y=.ok (.agg (refCells x.r).toArray) y :=
 run_loadAt_mid y B (off+2) 43 (refCells x.r) _ (fun j v hv=>by
  have q:=h (2+j) v (by rw [show rbCells x=[.int .u64 (x.s:Int),.string ⟨x.t.toArray⟩]++refCells x.r by simp [rbCells],List.getElem?_append_right (by simp)];simpa using hv);rw [← Nat.add_assoc] at q;exact q) Tryz.underlying43 rfl rfm_size
theorem findRb {n:Nat}:∀ {L:List RbV} {i:Nat} {x:RbV},L[i]?=some x→x.s=n→(∀ j y,j<i→L[j]?=some y→y.s≠n)→L.find? (fun b=>b.s == n)=some x
 | [],_,_,h,_,_=>by simp at h
 | b::L,0,x,h,hx,_=>by
  simp at h;subst h;simp [hx]
 | b::L,i+1,x,h,hx,hl=>by
  have hb:(b.s == n)=false:=by rw [beq_eq_false_iff_ne];exact hl 0 b (by omega) rfl
  rw [List.find?_cons_of_neg (by simp [hb])];exact findRb (by simpa using h) hx (fun j y hj hy=>hl (j+1) y (by omega) (by simpa using hy))
theorem findRb_no {n:Nat} {L:List RbV} (h:∀ (j:Nat) (y:RbV),j<L.length→L[j]?=some y→y.s≠n):L.find? (fun b=>b.s == n)=none:=by
 rw [List.find?_eq_none];intro x hx;obtain ⟨j,hj,e⟩:=List.getElem_of_mem hx;simpa using h j x hj (by rw [List.getElem?_eq_getElem hj,e])
theorem rlead_high (M0:MacV) (L:List RbV) (A:Option Addr) (l c n:Nat) (w:World) (hL:SliceAt 6 rbCells w A l L) (hl3:l≤3) (h0:L≠[]) (hhi : ¬ (newR L).s≤n) (hok:RLok w M0 L) :
  Calls Tryz.prog 26 #[.slice A l c,.int .u64 (n:Int)] w (RLead L n w):=by
 have hln:=hL.hlen;have hlv:=leadR_cut h0 hhi;obtain ⟨m,hm⟩:∃ m,leadV (L.map RbV.bs) n=m:=⟨_,rfl⟩;unfold RLead;rw [hm] at hlv ⊢;have Hlv:=Lib.hid hlv;have hb1:=(Below.refl w.heap.size w).alloc (Nat.le_refl _) (.cells (lmCells lm0).toArray 58);have hm1:LmAt (w.alloc (.cells (lmCells lm0).toArray 58)) w.heap.size lm0:=heap_alloc_new _ _;obtain ⟨g,hg⟩:∃ g,w.heap.size=g:=⟨_,rfl⟩;rw [hg] at hm1;have Hg:=Lib.hid (Nat.le_of_eq hg);have HL:=Lib.hid (And.intro hL hok);have Hb1:=Lib.hid hb1;have Hm1:=Lib.hid hm1;obtain ⟨hmem,hlast⟩:=newR_mem h0;rw [hln] at hlast;have hl0:0<l:=by have:=List.length_pos_iff.2 h0;omega
 obtain ⟨B,o,rfl,hrg⟩:=rbs_at hL hlast hb1;have hw1:IntKind.i64.wrap ((l:Int) - 1)=((l - 1:Nat):Int):=by rw [IntKind.wrap_i64];omega
 have hk1 : ¬ ((l - 1:Nat):Int)<0:=by omega
 have hk2:((l - 1:Nat):Int)<(l:Int):=by omega
 obtain ⟨Kb,hK⟩:∃ b,newR L=b:=⟨_,rfl⟩;rw [hK] at hrg hhi hmem;have HK:=Lib.hid (And.intro hK hmem);have f0:(w.alloc (.cells (lmCells lm0).toArray 58)).cell? ⟨B,o+(l - 1)*6,none⟩=some (.int .u64 (Kb.s:Int)):=hrg 0 _ rfl;have hle2 : ¬ (Kb.s:Int)≤(n:Int):=by omega
 have hlz:((l:Int) == 0)=false:=by rw [beq_eq_false_iff_ne];omega
 have Hrg:=Lib.hid hrg;have Hln:=Lib.hid (And.intro hln hl3);clear hlv hm hL hok hb1 hm1 hrg hlast h0 hhi hln hl3 hmem hK;go_enter Tryz.func26,Tryz.ntmps26
 go_upto_region 1 with fail;change Code.wp _ _ _ _ (w.alloc (.cells (lmCells lm0).toArray 58));generalize w.alloc (.cells (lmCells lm0).toArray 58)=w1 at *;clear hg;go_upto_region 4 with (first
  | (with_reducible refine wpList_load_mid rfl 86 _ rfl B (o+(l - 1)*6) rfl (rbCells Kb) _ Hrg.out Tryz.underlying86 rfl (rb_size Kb) ?_)
  | ((with_reducible refine wpList_store_mid rfl 86 _ _ rfl w1.heap.size 0 _ rfl rfl ?_ ?_ ?_ ?_);exact th_new w1 (rbCells rb0) 86;exact rb_size rb0;exact all_oneCell_toArray (rb_one Kb)))
 change Code.wp _ _ _ _ ((w1.alloc (.cells (rbCells rb0).toArray 86)).setCells w1.heap.size 0 (rbCells Kb));have hbx:=box_below w1 (rbCells rb0) (rbCells Kb) 86;have HX:=Lib.hid (show RbAt _ _ Kb from box_row w1 (rbCells rb0) (rbCells Kb) 86 rfl);have Hm3:=Lib.hid (Hm1.out.below hbx);have Hb3:=Lib.hid (Hb1.out.trans (hbx.mono Hb1.out.size));clear hbx f0 Hrg Hm1 Hb1 hw1 hk1 hk2 hlz hle2;generalize (w1.alloc (.cells (rbCells rb0).toArray 86)).setCells w1.heap.size 0 (rbCells Kb)=w3 at *;generalize w1.heap.size=gb at *;go_upto_region 5 with fail;go_loopw [7] (fun s7 wr=>∃ i:Nat,i≤l∧s7=.int .i64 (i:Int)∧Below w3.heap.size w3 wr∧∀ (j:Nat) (y:RbV),j<i→L[j]?=some y→y.s≠n) (fun s7 _=>l - (intOf s7).toNat)
 case atStart=>exact ⟨0,by omega,rfl,Below.refl _ _,fun j y h=>by omega⟩
 case round =>
  obtain ⟨i,hi,rfl,hb,hno⟩:=hrel;have Hb:=Lib.hid hb;have Hno:=Lib.hid hno;clear hb hno;by_cases hlt:i<l
  ·
   have hlt':(i:Int)<(l:Int):=by omega
   have hlt0 : ¬ (i:Int)<0:=by omega
   have hsucc:=tsucc (n:=i) (by have:=Hln.out.2;omega);obtain ⟨x,hx⟩:∃ x,L[i]?=some x:=⟨_,List.getElem?_eq_getElem (by rw [Hln.out.1];exact hlt)⟩;have hrg:∀ y:World,Below wr.heap.size wr y→y.rangeAt B (o+i*6) (rbCells x):=fun y hy=>by
    obtain ⟨B2,o2,e,h⟩:=rbs_at HL.out.1 hx (Hb3.out.trans ((Hb.out.trans (hy.mono Hb.out.size)).mono Hb3.out.size));cases e
    exact h
   have Hx:=Lib.hid (And.intro hx hrg);have f0:wr.cell? ⟨B,o+i*6,none⟩=some (.int .u64 (x.s:Int)):=hrg wr (Below.refl _ _) 0 _ rfl;clear hx hrg;by_cases hxn:x.s=n
   ·
    have heq:((x.s:Int) == (n:Int))=true:=by rw [beq_iff_eq];omega
    have hxm:x ∈ L:=List.mem_of_getElem? Hx.out.1;obtain ⟨zx,hzx⟩:=HL.out.2.ref x hxm;obtain ⟨zk,hzk⟩:=HL.out.2.ref Kb HK.out.2;obtain ⟨a1,a2,a3⟩:=HL.out.2.all x hxm;obtain ⟨b1,b2,b3⟩:=HL.out.2.all Kb HK.out.2;have hd:∀ y:World,Below wr.heap.size wr y→Calls Tryz.prog 63 #[.agg (refCells x.r).toArray,.agg (refCells Kb.r).toArray] y fun e w'=>e=.returned (.tuple #[.string ⟨(diffM x.M Kb.M).toArray⟩,.int .i64 0])∧Below y.heap.size y w':=fun y hy=>by
     have hby:=Hb3.out.trans ((Hb.out.trans (hy.mono Hb.out.size)).mono Hb3.out.size);have q:=rdiff_any x.r Kb.r x.M Kb.M zx zk a1.fit b1.fit y (hzx.below hby) (hzk.below hby);rw [if_pos (by rw [a2,b2]),if_pos (by rw [a2,b2])] at q;exact q
    have hlen:=leadB_len a1 b1 b3;have hfd:L.find? (fun b=>b.s == n)=some x:=findRb Hx.out.1 hxn Hno.out;have hmv:m=(⟨13,n,Kb.s,leadB Kb.t x.M Kb.M⟩,true):=by have h:=Hlv.out;rw [hfd,HK.out.1] at h;exact h
    subst hmv;have hst:∀ y:World,Calls Tryz.prog 61 #[.string ⟨Kb.t.toArray⟩] y fun e w'=>e=.returned (.string ⟨(numL Kb.t.length++Kb.t).toArray⟩)∧Below y.heap.size y w':=fun y=>by
     have q:=rstr_any ⟨Kb.t.toArray⟩ (by show Kb.t.toArray.size≤_;rw [List.size_toArray];omega) y;have e:strL ⟨Kb.t.toArray⟩=numL Kb.t.length++Kb.t:=by
      unfold strL;show numL Kb.t.toArray.size++Kb.t.toArray.toList=_;rw [List.size_toArray]
     rw [e] at q;exact q
    have HS:=Lib.hid hst;have HD:=Lib.hid hd;have Hlen:=Lib.hid hlen;have HXr:=Lib.hid (HX.out.below Hb.out);have Hmr:=Lib.hid (Hm3.out.below Hb.out);have Hbr:=Lib.hid (Hb3.out.trans (Hb.out.mono Hb3.out.size));clear hd hlen hfd hst hzx hzk a1 a2 a3 b1 b2 b3 hxm Hno Hlv Hm3 HX HL Hb3;go_upto_region 8 with fail;refine (wpIn_wide (n:=1)).1 ?_;refine RegJ.wpIn_region_plan (F:=Fence.wide) (KeptW wr) (.step 0 0 (.step 1 0 (.step 2 0 (.step 3 0 (.step 4 0 (.step 5 0 (.step 6 0 (.step 7 1 (.step 8 0 (.step 9 0 (.step 10 0 (.step 11 0 (.step 12 0 .nil))))))))))))) (by kernel_rfl) (by kernel_rfl) (by kernel_rfl) (fun _ _ d _ _ h=>by cases d <;> exact h) ⟨rfl,rfl,rfl,Nat.le_refl _,fun _ _=>rfl⟩ ?_;dsimp only [RegJ.pickJ,List.getElem?_cons_zero,List.getElem?_cons_succ];change RegJ.Can _ _ _ _ _ _ _ _ wr.drew;have hkd:KeptW wr wr.drew:=⟨rfl,rfl,rfl,Nat.le_refl _,fun _ _=>rfl⟩;generalize wr.drew=v1 at *;iterate 4 (refine RegJ.reads ?_;intro K hK;go_simp;(first | refine ⟨_,fun _ _=>rfl,hK _ ?_⟩ | refine hK _ ?_);clear hK K)
    refine RegJ.reads ?_;intro K hK;rw [if_pos (by first | (simp [Region.wanted];done) | (go_simp;done))];refine ⟨.agg (refCells x.r).toArray,fun y hy=>exec_load rfl rfl (rb_ref (Hx.out.2 y (KeptW.bel hy))),hK _ ?_⟩;clear hK K;go_simp;refine RegJ.reads ?_;intro K hK;go_simp;(first | refine ⟨_,fun _ _=>rfl,hK _ ?_⟩ | refine hK _ ?_);clear hK K
    refine RegJ.reads ?_;intro K hK;rw [if_pos (by first | (simp [Region.wanted];done) | (go_simp;done))];refine ⟨.agg (refCells Kb.r).toArray,fun y hy=>exec_load rfl rfl ((HXr.out.below (KeptW.bel hy)).ref),hK _ ?_⟩;clear hK K;go_simp;refine RegJ.turns (fun _=>trivial) ?_;intro K K0 hK hK0;go_simp;refine ⟨trivial,?_⟩;refine (callsIn_wide.2 (HD.out v1 (KeptW.bel hkd))).mono ?_;rintro e v2 ⟨rfl,hb7⟩;have v2k:KeptW wr v2:=KeptW.mono hkd hb7;refine hK _ _ _ (fun _ h=>h) v2k ?_;clear hK K hK0 K0;iterate 5 (refine RegJ.reads ?_;intro K hK;go_simp;(first | refine ⟨_,fun _ _=>rfl,hK _ ?_⟩ | refine hK _ ?_);clear hK K)
    refine RegJ.nil ?_;have Hb9:=Lib.hid (KeptW.bel v2k);have HX9:=Lib.hid (HXr.out.below Hb9.out);have Hm9:=Lib.hid (Hmr.out.below Hb9.out);have Hbl9:=Lib.hid (Hbr.out.trans (Hb9.out.mono Hbr.out.size));clear HXr Hmr Hbr Hb9 HD f0 v2k;generalize v2=w9 at *;have f1:=HX9.out.text;have hln8:(numL Kb.t.length).length+Kb.t.length+(diffM x.M Kb.M).length≤43100:=by
     have q:=Hlen.out;unfold leadB at q;rw [List.length_append,List.length_append] at q;exact q
    have hcap : ¬ 9223372036854775807<(numL Kb.t.length).length+Kb.t.length+(diffM x.M Kb.M).length:=by omega
    obtain ⟨Y,hY⟩:∃ Y:ByteArray,(⟨(leadB Kb.t x.M Kb.M).toArray⟩:ByteArray)=Y:=⟨_,rfl⟩;have HY:=Lib.hid hY;have hcat:(⟨(numL Kb.t.length++Kb.t).toArray⟩:ByteArray)++(⟨(diffM x.M Kb.M).toArray⟩:ByteArray)=Y:=by
     rw [← hY,str_app];rfl
    have hle9:(Y.size:Int)≤65536:=by
     have q:=Hlen.out;have e:Y.size=(leadB Kb.t x.M Kb.M).length:=by rw [← hY];exact List.size_toArray
     omega
    clear hY hln8;go_upto_region 10 with ((with_reducible refine (HS.out _).mono ?_);rintro e w10 ⟨rfl,h10⟩;have H10:=Lib.hid h10;clear h10)
    have f2:w10.cell? ⟨gb,0,none⟩=some (.int .u64 (Kb.s:Int)):=(HX9.out.below H10.out).slot;have Hm10:=Lib.hid (Hm9.out.below H10.out);have Hb10:=Lib.hid (Hbl9.out.trans (H10.out.mono Hbl9.out.size));clear hcat hcap f1 HX9 Hm9 Hbl9 H10 HS Hx hsucc;go_upto_region 11 with fail;have hY2:=HY.out;subst hY2;clear HY hle9;go_wp2_with ((with_reducible refine wpList_store_mid rfl 58 _ _ rfl g 0 _ rfl rfl ?_ ?_ ?_ ?_);exact there_row (cs:=lmCells lm0) Hm10.out;exact lm_size;exact all_oneCell_toArray (lm_one ⟨13,n,Kb.s,leadB Kb.t x.M Kb.M⟩));change bodyPost _ _ _ _ _ (w10.setCells g 0 (lmCells ⟨13,n,Kb.s,leadB Kb.t x.M Kb.M⟩));have HZ:=Lib.hid (lmSt_at (Hm10.out) ⟨13,n,Kb.s,leadB Kb.t x.M Kb.M⟩);have Hbz:=Lib.hid (rowSt_below Hg.out (lmCells ⟨13,n,Kb.s,leadB Kb.t x.M Kb.M⟩) 0 _ (Hb10.out));rw [st_eq];generalize rowSt w10 g 0 (lmCells ⟨13,n,Kb.s,leadB Kb.t x.M Kb.M⟩)=w12 at *;refine bodyPost_ret (v:=.tuple #[lmV ⟨13,n,Kb.s,leadB Kb.t x.M Kb.M⟩,.bool true]) (by simp [results,Tryz.results26,show (asAddr (Value.pointer (some ⟨g,0,none⟩))).run Tryz.prog w12=.ok ⟨g,0,none⟩ w12 from rfl,lm_loadVar HZ.out]) rfl ?_;exact ⟨rfl,Hbz.out⟩
   ·
    have hne:((x.s:Int) == (n:Int))=false:=by rw [beq_eq_false_iff_ne];omega
    go_wp2_with fail;go_roundw
    case rel =>
     refine ⟨i+1,hlt,rfl,Hb.out,fun j y hj hy=>?_⟩;rcases Nat.lt_or_ge j i with h | h
     ·
      exact Hno.out j y h hy
     ·
      have:j=i:=by omega
      subst this;rw [Hx.out.1] at hy;cases hy
      exact hxn
    case measure =>
     simp only [intOf];omega
  ·
   have hlt' : ¬ (i:Int)<(l:Int):=by omega
   have hil:i=l:=by omega
   subst hil;have hfd:L.find? (fun b=>b.s == n)=none:=findRb_no (fun j y hj=>Hno.out j y (by rw [← Hln.out.1];exact hj));have hmv:m=(⟨12,0,Kb.s,textB Kb.t Kb.M⟩,true):=by have h:=Hlv.out;rw [hfd,HK.out.1] at h;exact h
   subst hmv;obtain ⟨zk,hzk⟩:=HL.out.2.ref Kb HK.out.2;obtain ⟨b1,_,b3⟩:=HL.out.2.all Kb HK.out.2;have HT:=Lib.hid (fun (y:World) (hy:Below w.heap.size w y)=>rtext24_any Kb zk b1.fit b3 y (hzk.below hy));have HXr:=Lib.hid (HX.out.below Hb.out);have Hmr:=Lib.hid (Hm3.out.below Hb.out);have Hbr:=Lib.hid (Hb3.out.trans (Hb.out.mono Hb3.out.size));clear hfd hzk b1 b3 Hno Hlv Hm3 HX HL Hb3 hi hlt Hb;go_upto_region 12 with fail;refine (wpIn_wide (n:=1)).1 ?_;refine RegK.wpIn_region_can (F:=Fence.wide) (KeptW wr) [(0,0),(1,0),(2,0),(3,1),(4,0),(5,3),(6,0)] (by kernel_rfl) (by kernel_rfl) (by kernel_rfl) (fun _ _ d _ _ h=>by cases d <;> exact h) ⟨rfl,rfl,rfl,Nat.le_refl _,fun _ _=>rfl⟩ ?_;dsimp only [RegK.pick,List.getElem?_cons_zero,List.getElem?_cons_succ];change RegK.Can _ _ _ _ _ _ _ _ wr.drew;have hkd:KeptW wr wr.drew:=⟨rfl,rfl,rfl,Nat.le_refl _,fun _ _=>rfl⟩;generalize wr.drew=v1 at *;refine RegK.can_reads ?_;intro K hK;go_simp;(first | refine ⟨_,fun _ _=>rfl,hK _ ?_⟩ | refine hK _ ?_);clear hK K
   refine RegK.can_reads ?_;intro K hK;go_simp;refine ⟨.int .u64 (Kb.s:Int),fun y hy=>?_,hK _ ?_⟩
   ·
    have f0:y.cell? ⟨gb,0,none⟩=some (.int .u64 (Kb.s:Int)):=(HXr.out.below (KeptW.bel hy)).slot;go_simp
   clear hK K;refine RegK.can_reads ?_;intro K hK;rw [if_pos (by first | (simp [Region.wanted];done) | (go_simp;done))];refine ⟨.agg (rbCells Kb).toArray,fun y hy=>exec_load rfl rfl (row_loadAt (P:=Tryz.prog) (cs:=rbCells Kb) (HXr.out.below (KeptW.bel hy)) Tryz.underlying86 rfl (rb_size Kb)),hK _ ?_⟩;clear hK K;go_simp;refine RegK.can_turns (fun _=>trivial) ?_;intro K K0 hK hK0;go_simp;refine ⟨trivial,?_⟩;refine (callsIn_wide.2 (HT.out v1 (Hbr.out.trans ((KeptW.bel hkd).mono Hbr.out.size)))).mono ?_;rintro e v2 ⟨rfl,hb7⟩;have v2k:KeptW wr v2:=KeptW.mono hkd hb7;refine hK _ _ v2k ?_;clear hK K hK0 K0;refine RegK.can_reads ?_;intro K hK;go_simp;(first | refine ⟨_,fun _ _=>rfl,hK _ ?_⟩ | refine hK _ ?_);clear hK K
   have Hm7:=Lib.hid (Hmr.out.below (KeptW.bel v2k));have HZ:=Lib.hid (lmSt_at Hm7.out ⟨12,0,Kb.s,textB Kb.t Kb.M⟩);have Hbz:=Lib.hid (rowSt_below Hg.out (lmCells ⟨12,0,Kb.s,textB Kb.t Kb.M⟩) 0 _ (Hbr.out.trans ((KeptW.bel v2k).mono Hbr.out.size)));refine RegK.can_frees (fun _=>trivial) ?_;intro K K0 hK hK0;rw [if_pos (by simp [Region.wanted])];refine RegK.op_wide rfl ?_;refine wp_store_mid 58 _ _ rfl g 0 (lmCells ⟨12,0,Kb.s,textB Kb.t Kb.M⟩).toArray rfl rfl (there_row (cs:=lmCells lm0) Hm7.out) lm_size (all_oneCell_toArray (lm_one _)) ?_;rw [show (v2).setCells g 0 (lmCells ⟨12,0,Kb.s,textB Kb.t Kb.M⟩).toArray.toList=rowSt v2 g 0 (lmCells ⟨12,0,Kb.s,textB Kb.t Kb.M⟩) from st_eq _ _ _];refine hK (fun _=>True) _ _ trivial ?_;clear hK K hK0 K0;generalize rowSt v2 g 0 (lmCells ⟨12,0,Kb.s,textB Kb.t Kb.M⟩)=w9 at *;refine RegK.can_reads ?_;intro K hK;go_simp;(first | refine ⟨_,fun _ _=>rfl,hK _ ?_⟩ | refine hK _ ?_);clear hK K
   refine RegK.can_nil ?_;go_wp2_with fail;refine bodyPost_ret (v:=.tuple #[lmV ⟨12,0,Kb.s,textB Kb.t Kb.M⟩,.bool true]) (by simp [results,Tryz.results26,show (asAddr (Value.pointer (some ⟨g,0,none⟩))).run Tryz.prog w9=.ok ⟨g,0,none⟩ w9 from rfl,lm_loadVar HZ.out]) rfl ?_;exact ⟨rfl,Hbz.out⟩
theorem rlead_any (M0:MacV) (L:List RbV) (A:Option Addr) (l c n:Nat) (w:World) (hL:SliceAt 6 rbCells w A l L) (hl3:l≤3) (hok:RLok w M0 L) :
  Calls Tryz.prog 26 #[.slice A l c,.int .u64 (n:Int)] w (RLead L n w):=by
 by_cases h0:L=[]
 ·
  exact rlead_low L A l c n w hL hl3 (.inl h0)
 ·
  by_cases h1:(newR L).s≤n
  ·
   exact rlead_low L A l c n w hL hl3 (.inr h1)
  ·
   exact rlead_high M0 L A l c n w hL hl3 h0 h1 hok
structure RunS (w:World) (base g:Nat) (M0:MacV) (l:List CmdV) (R:RnV) (T:Tr) (p:Nat) (cv:Value) (z:List KeptV):Prop where
 at_:RnAt w g R
 ri:RunI w base R T p cv (runC M0 l).D z
 m:R.M=macsDo M0 l
 k:R.r.k≤l.length
theorem RunS.below {w w':World} {base g:Nat} {M0:MacV} {l:List CmdV} {R:RnV} {T:Tr} {p:Nat} {cv:Value} {z:List KeptV} (h:RunS w base g M0 l R T p cv z) (hb:Below w.heap.size w w'):RunS w' base g M0 l R T p cv z:=⟨h.at_.below hb,h.ri.below hb,h.m,h.k⟩
theorem RunS.sorts {w w':World} {ts:List TypeId} {base g:Nat} {M0:MacV} {l:List CmdV} {R:RnV} {T:Tr} {p:Nat} {cv:Value} {z:List KeptV} (h:RunS w base g M0 l R T p cv z) (hs:Sorts ts w.heap.size w w') (h1:48 ∉ ts) (ht:∀ t ∈ runTs,t ∉ ts):RunS w' base g M0 l R T p cv z:=⟨hs.row h.at_ h1,h.ri.sorts hs ht,h.m,h.k⟩
def DoneRun (w:World) (base g:Nat) (M0:MacV) (l:List CmdV) (p:Nat) (e:Ending) (w':World):Prop:=∃ R T cv z,e=.returned (.tuple #[])∧RunS w' base g M0 l R T p cv z∧Sorts doTs w.heap.size w w'∧∀ n,n≤w.heap.size→n≤g→n≤p→n≤base→Below n w w'
theorem macsDo_snoc (M:MacV) (l:List CmdV) (c:CmdV):macsDo M (l++[c])=(macDo (macsDo M l) c).m:=by
 unfold macsDo;rw [List.foldl_append];rfl
theorem does_run {w:World} {base g:Nat} {M0:MacV} {l:List CmdV} {R:RnV} {T:Tr} {p:Nat} {cv:Value} {z:List KeptV} (h0:MacAll M0) (hb:base≤w.heap.size) (hl:l.length≤1000) (h:RunS w base g M0 l R T p cv z) (c:CmdV) :
  Calls Tryz.prog 17 #[.pointer (some ⟨g,0,none⟩),.agg (cmdCells c).toArray] w (DoneRun w base g M0 (l++[c]) p):=by
 have hDl:=runC_len M0 l;have q:=does_any c w base g hb R T p cv (runC M0 l).D z (by rw [h.m];exact macsDo_all _ h0) (by have:=h.k;omega) (by omega) (by omega) h.at_ h.ri;refine q.mono ?_;rintro e w' ⟨R',T',cv',z',rfl,h1,h2,h3,h4,h5⟩;have hm:R'.M=macsDo M0 (l++[c]):=by rw [h2,h.m,macsDo_snoc]
 have hD:(runC M0 (l++[c])).D=(runC M0 l).D++[UInt8.ofNat R'.M.mem]:=by rw [runC_push,hm];rfl
 exact ⟨R',T',cv',z',rfl,⟨h1,by rw [hD];exact h3,hm,by rw [List.length_append];have:=h.k;simp;omega⟩,h5⟩
theorem begun_run {w:World} {base:Nat} {M0:MacV} {R:RnV} {p g:Nat} {cv:Value} (hM:R.M=M0) (hI:RunI w base R .nil p cv [UInt8.ofNat M0.mem] []) (hr:R.r=ref0 M0) (hg:RnAt w g R):RunS w base g M0 [] R .nil p cv [] :=
 ⟨hg,hI,hM,by rw [hr];exact Nat.le_refl _⟩
def tailC (M0:MacV) (l:List CmdV):ChV:=⟨l.length+1 - (runC M0 l).tail.length,(runC M0 l).tail⟩
theorem tailC_of {M0:MacV} (h0:MacAll M0) (l:List CmdV) (hl:l.length≤1000):chOf l.length (runC M0 l).tail=some (tailC M0 l):=by
 have h:=chOf_tail (runC_low M0 l) (by rw [runC_len];omega) (runC_ok h0 l) (by rw [runC_top];omega);rw [runC_top] at h;exact h
theorem tailC_top (M0:MacV) (l:List CmdV):(tailC M0 l).top=l.length:=by
 have h:=tail_len (runC M0 l);rw [runC_len] at h;show l.length+1 - (runC M0 l).tail.length+(runC M0 l).tail.length - 1=l.length;omega
theorem tailC_tail (M0:MacV) (l:List CmdV):(tailC M0 l).tail=(runC M0 l).tail:=by
 have h:=runC_tail M0 l;show (runC M0 l).tail.drop ((runC M0 l).tail.length - 3)=_;rw [show (runC M0 l).tail.length - 3=0 by omega,List.drop_zero]
theorem tailC_len (M0:MacV) (l:List CmdV):0<(tailC M0 l).D.length∧(tailC M0 l).D.length≤3∧(tailC M0 l).low+(tailC M0 l).D.length=l.length+1:=by
 have h:=tail_len (runC M0 l);rw [runC_len] at h;refine ⟨?_,runC_tail M0 l,?_⟩
 ·
  show 0<(runC M0 l).tail.length;omega
 ·
  show l.length+1 - (runC M0 l).tail.length+(runC M0 l).tail.length=_;omega
theorem run_ends {M0:MacV} (h0:MacAll M0) (l:List CmdV):endsB (runC M0 l).tail (macsDo M0 l).mem=true:=by
 unfold endsB;rw [runC_tailLast];have:=mem_nat (macsDo_all l h0).fit;simp [this]
theorem readE_ok {M0:MacV} (h0:MacAll M0) (l:List CmdV):readE (runC M0 l).tail (macsDo M0 l) 0=0:=by
 unfold readE;rw [if_pos rfl,if_pos (run_ends h0 l)]
def lw1:CmdV:=⟨0#8,1#32,2,⟨#[107]⟩,ByteArray.empty,⟨#[118]⟩,0#8⟩
def lw2:CmdV:=⟨0#8,2#32,5,ByteArray.empty,ByteArray.empty,ByteArray.empty,6#8⟩
theorem lw_sets:mayS 3 7=true:=by decide +kernel
theorem lw_lit1:Value.agg (cmdCells lw1).toArray=.agg #[.int .u8 0,.int .u32 1,.int .u8 2,.string ⟨#[107]⟩,.string ⟨#[]⟩,.string ⟨#[118]⟩,.int .u8 0]:=rfl
theorem lw_lit2:Value.agg (cmdCells lw2).toArray=.agg #[.int .u8 0,.int .u32 2,.int .u8 5,.string ⟨#[]⟩,.string ⟨#[]⟩,.string ⟨#[]⟩,.int .u8 6]:=rfl
theorem rn_there15 {y:World} {g:Nat} {R:RnV} (h:RnAt y g R):y.rangeAt g 0 (macCells R.M R.P):=fun j v hv=>range_row (cs:=rnCells R) h j v (by
 unfold rnCells;rw [List.getElem?_append_left (List.getElem?_eq_some_iff.1 hv).1];exact hv)
theorem lwakes_any (w:World):Calls Tryz.prog 15 #[] w fun e w'=>e=.returned (.bool true)∧Below w.heap.size w w':=by
 obtain ⟨M0,hM0⟩:∃ M,newM 7 3=M:=⟨_,rfl⟩;have h0:MacAll M0:=by rw [← hM0];exact newAll (by omega) lw_sets
 have hbe:=fun y:World=>lbegun_is 7 3 (by omega) (by omega) lw_sets y
 rw [hM0] at hbe;have Hbe:=Lib.hid (show ∀ y:World,Calls Tryz.prog 8 #[.int .u8 7,.int .u8 3] y (BegPost M0 y) from hbe);have Hnew:=Lib.hid lnew_any;have H0:=Lib.hid h0;clear hbe h0 hM0;go_enter Tryz.func15,Tryz.ntmps15
 go_upto_region 3 with (first
  | ((with_reducible refine (Hnew.out _).mono ?_);rintro e w1 ⟨rfl,hs1,hb1⟩;have HS1:=Lib.hid hs1;have HB1:=Lib.hid hb1;clear hs1 hb1)
  | ((with_reducible refine (Hbe.out _).mono ?_);rintro e w2 ⟨R0,p,cv0,rfl,hM,hI,hr,hp,hb⟩;have H2:=Lib.hid (And.intro hM (And.intro hI (And.intro hr (And.intro hp hb))));clear hM hI hr hp hb;unfold rnV)
  | ((with_reducible refine wpList_store_mid rfl 48 _ _ rfl w2.heap.size 0 _ rfl rfl ?_ ?_ ?_ ?_);exact th_new w2 (rnCells rn0) 48;exact rn_size rn0;exact all_oneCell_toArray (rn_one R0 (slice_one _ H2.out.2.1.rv))))
 change Code.wp _ _ _ _ ((w2.alloc (.cells (rnCells rn0).toArray 48)).setCells w2.heap.size 0 (rnCells R0));have hb3:=box_below w2 (rnCells rn0) (rnCells R0) 48;have hr3:RnAt _ _ R0:=box_row w2 (rnCells rn0) (rnCells R0) 48 rfl;have hbB:=H2.out.2.2.2.2.trans (hb3.mono H2.out.2.2.2.2.size);have HR3:=Lib.hid (begun_run H2.out.1 (H2.out.2.1.below hb3) H2.out.2.2.1 hr3);have HSh3:=Lib.hid (show ShI _ w.heap.size w.heap.size (.slice none 0 0) M0 [] [] from ⟨HS1.out.below hbB,by simp,List.Pairwise.nil,fun b hb=>by cases hb⟩);have HB3:=Lib.hid (HB1.out.trans (hbB.mono HB1.out.size));have Hcb:=Lib.hid (Nat.le_trans H2.out.2.2.2.2.size hb3.size);have Hcw:=Lib.hid HB1.out.size;have Hgp:=Lib.hid (Nat.le_trans HB1.out.size H2.out.2.2.2.2.size);have Hpp:=Lib.hid (Nat.le_trans HB1.out.size H2.out.2.2.2.1);clear hb3 hr3 hbB H2 HS1 HB1 Hnew Hbe;generalize (w2.alloc (.cells (rnCells rn0).toArray 48)).setCells w2.heap.size 0 (rnCells R0)=w3 at *;generalize hgr:w2.heap.size=g at *
 clear hgr;generalize w1.heap.size=cb at *;have hd:=does_run H0.out Hcb.out (by simp) HR3.out lw1;rw [lw_lit1] at hd;have Hd:=Lib.hid hd;clear hd;go_upto_region 6 with ((with_reducible refine Hd.out.mono ?_);rintro e w4 ⟨R1,T1,cv1,z1,rfl,hr4,hs4,hn4⟩;have H4:=Lib.hid (And.intro hr4 (And.intro hs4 hn4));clear hr4 hs4 hn4)
 have Hsz4:=Lib.hid H4.out.2.1.size;have HR4:=Lib.hid (show RunS w4 cb g M0 [lw1] R1 T1 p cv1 z1 from H4.out.1);have HSh4:=Lib.hid (show ShI w4 w.heap.size w.heap.size (.slice none 0 0) M0 [lw1] [] from (HSh3.out.sorts H4.out.2.1 (by decide) (by decide) (by decide)).more lw1);have HB4:=Lib.hid (HB3.out.trans (H4.out.2.2 _ HB3.out.size Hgp.out Hpp.out Hcw.out));have hp4:=put_new H0.out HR4.out.ri HR4.out.m HSh4.out (by show 0<1;omega) HB4.out.size (by simp);have Hp4:=Lib.hid hp4;have f15:w4.cell? ⟨g,15,none⟩=some (.pointer R1.c):=cell_of_row _ _ _ _ _ _ (show w4.heap[g]?=some (.cells (rnCells R1).toArray _ (0,0)) from HR4.out.at_);have Hrl4:=Lib.hid (rn_there15 HR4.out.at_);clear hp4 H4 Hd HR3 HSh3 HB3;go_upto_region 7 with (first
  | (with_reducible refine wpList_load_mid rfl 38 _ rfl g 0 rfl (macCells R1.M R1.P) _ Hrl4.out Tryz.underlying38 rfl (mac_size2 _ _) ?_)
  | ((with_reducible refine Hp4.out.mono ?_);rintro e w5 ⟨sv5,rfl,hsh5,hst5,hn5⟩;have H5:=Lib.hid (And.intro hsh5 (And.intro hst5 hn5));clear hsh5 hst5 hn5))
 have HR5:=Lib.hid (HR4.out.sorts H5.out.2.1 (by decide) (by decide));obtain ⟨b1,hb1⟩:∃ b:BsV,b=⟨R1.M,R1.P,1,(runC M0 [lw1]).tail⟩:=⟨_,rfl⟩;have HSh5:=Lib.hid (show ShI w5 w.heap.size w.heap.size sv5 M0 [lw1] [b1] by rw [hb1];exact H5.out.1);have Hb1:=Lib.hid hb1;clear hb1;have HB5:=Lib.hid (HB4.out.trans (H5.out.2.2 _ HB4.out.size (Nat.le_refl _) (Nat.le_refl _)));have Hrl5:=Lib.hid (rn_there15 HR5.out.at_);have Hsz5:=Lib.hid (Nat.le_trans Hsz4.out H5.out.2.1.size);clear H5 Hp4 f15 Hrl4 HR4 HSh4 HB4;go_upto_region 8 with (first
  | (with_reducible refine wpList_load_mid rfl 38 _ rfl g 0 rfl (macCells R1.M R1.P) _ Hrl5.out Tryz.underlying38 rfl (mac_size2 _ _) ?_)
  | ((with_reducible refine wpList_store_mid rfl 38 _ _ rfl w5.heap.size 0 _ rfl rfl ?_ ?_ ?_ ?_);exact th_new w5 (macCells macNone none) 38;exact mac_size;exact all_oneCell_toArray (mac_one _ _)))
 change Code.wp _ _ _ _ ((w5.alloc (.cells (macCells macNone none).toArray 38)).setCells w5.heap.size 0 (macCells R1.M R1.P));have hb6:=box_below w5 (macCells macNone none) (macCells R1.M R1.P) 38;have HO6:=Lib.hid (show MacAt _ _ R1.M R1.P from box_row w5 (macCells macNone none) (macCells R1.M R1.P) 38 rfl);have HR6:=Lib.hid (HR5.out.below hb6);have HSh6:=Lib.hid (HSh5.out.below hb6);have HB6:=Lib.hid (HB5.out.trans (hb6.mono HB5.out.size));have Hcb6:=Lib.hid (Nat.le_trans Hsz5.out hb6.size);have HT1:=Lib.hid (And.intro HR6.out.ri.t (And.intro HR6.out.ri.tp (And.intro HR6.out.ri.ts HR6.out.m)));clear hb6 HR5 HSh5 HB5 Hrl5;generalize (w5.alloc (.cells (macCells macNone none).toArray 38)).setCells w5.heap.size 0 (macCells R1.M R1.P)=w6 at *;generalize w5.heap.size=go at *;have hd:=does_run H0.out (Nat.le_trans Hcb.out Hcb6.out) (by simp) HR6.out lw2;rw [lw_lit2] at hd;have Hd:=Lib.hid hd;clear hd;go_upto_region 9 with ((with_reducible refine Hd.out.mono ?_);rintro e w7 ⟨R2,T2,cv2,z2,rfl,hr7,hs7,hn7⟩;have H7:=Lib.hid (And.intro hr7 (And.intro hs7 hn7));clear hr7 hs7 hn7)
 have HR7:=Lib.hid (show RunS w7 cb g M0 [lw1,lw2] R2 T2 p cv2 z2 from H7.out.1);have HSh7:=Lib.hid (show ShI w7 w.heap.size w.heap.size sv5 M0 [lw1,lw2] [b1] from (HSh6.out.sorts H7.out.2.1 (by decide) (by decide) (by decide)).more lw2);have HB7:=Lib.hid (HB6.out.trans (H7.out.2.2 _ HB6.out.size Hgp.out Hpp.out Hcw.out));have HO7:=Lib.hid (show MacAt w7 go R1.M R1.P from H7.out.2.1.row HO6.out (by decide));have HT7:=Lib.hid (And.intro (TreeAt.sorts H7.out.2.1 (by decide) HT1.out.1) HT1.out.2);have hp7:=put_new H0.out HR7.out.ri HR7.out.m HSh7.out (by rw [show newB [b1]=b1 from rfl,Hb1.out];show 1<2;omega) HB7.out.size (by simp);have Hp7:=Lib.hid hp7;have f15:w7.cell? ⟨g,15,none⟩=some (.pointer R2.c):=cell_of_row _ _ _ _ _ _ (show w7.heap[g]?=some (.cells (rnCells R2).toArray _ (0,0)) from HR7.out.at_);have Hrl7:=Lib.hid (rn_there15 HR7.out.at_);clear hp7 H7 Hd HR6 HSh6 HB6 HO6 HT1;go_upto_region 10 with (first
  | (with_reducible refine wpList_load_mid rfl 38 _ rfl g 0 rfl (macCells R2.M R2.P) _ Hrl7.out Tryz.underlying38 rfl (mac_size2 _ _) ?_)
  | ((with_reducible refine Hp7.out.mono ?_);rintro e w8 ⟨sv8,rfl,hsh8,hst8,hn8⟩;have H8:=Lib.hid (And.intro hsh8 (And.intro hst8 hn8));clear hsh8 hst8 hn8))
 have HR8:=Lib.hid (HR7.out.sorts H8.out.2.1 (by decide) (by decide));obtain ⟨b2,hb2⟩:∃ b:BsV,b=⟨R2.M,R2.P,2,(runC M0 [lw1,lw2]).tail⟩:=⟨_,rfl⟩;have HSh8:=Lib.hid (show ShI w8 w.heap.size w.heap.size sv8 M0 [lw1,lw2] [b1,b2] by rw [hb2];exact H8.out.1);have HB8:=Lib.hid (HB7.out.trans (H8.out.2.2 _ HB7.out.size (Nat.le_refl _) (Nat.le_refl _)));have HO8:=Lib.hid (show MacAt w8 go R1.M R1.P from H8.out.2.1.row HO7.out (by decide));have HT8:=Lib.hid (And.intro (TreeAt.sorts H8.out.2.1 (by decide) HT7.out.1) HT7.out.2);have Hb2:=Lib.hid hb2;clear hb2 H8 Hp7 f15 Hrl7 HR7 HSh7 HB7 HO7 HT7;have hn2:(newB [b1,b2]).top=2:=by rw [show newB [b1,b2]=b2 from rfl,Hb2.out]
 have ht1:b1.top=1:=by rw [Hb1.out]
 have ht2:b2.top=2:=by rw [Hb2.out]
 have hl0:leadV [b1,b2] 0=(⟨12,0,2,textB b2.t b2.M⟩,true):=by
  unfold leadV;rw [hn2,if_neg (by omega)];simp only [List.find?,ht1,ht2,show newB [b1,b2]=b2 from rfl];rfl
 have hl1:leadV [b1,b2] 1=(⟨13,1,2,leadB b2.t b1.M b2.M⟩,true):=by
  unfold leadV;rw [hn2,if_neg (by omega)];simp only [List.find?,ht1,show newB [b1,b2]=b2 from rfl];rfl
 have hl2:leadV [b1,b2] 2=(lm0,false):=by
  unfold leadV;rw [hn2,if_pos (by omega)]
 have HLd:=Lib.hid (fun (y:World) (hy:Below w8.heap.size w8 y) (n:Nat)=>lead_any H0.out (HSh8.out.below hy) (by simp) n);have hA:=HLd.out w8 (Below.refl _ _) 0;rw [hl0] at hA;have HA:=Lib.hid (show Calls Tryz.prog 9 #[.pointer (some ⟨w.heap.size,0,none⟩),.int .u64 0] w8 fun e w'=>e=.returned (.tuple #[.agg (lmCells ⟨12,0,2,textB b2.t b2.M⟩).toArray,.bool true])∧Below w8.heap.size w8 w' from hA);have HBl:=Lib.hid (fun (y:World) (hy:Below w8.heap.size w8 y)=>by
  have q:=HLd.out y hy 1;rw [hl1] at q;exact (show Calls Tryz.prog 9 #[.pointer (some ⟨w.heap.size,0,none⟩),.int .u64 1] y fun e w'=>e=.returned (.tuple #[.agg (lmCells ⟨13,1,2,leadB b2.t b1.M b2.M⟩).toArray,.bool true])∧Below y.heap.size y w' from q))
 have HCl:=Lib.hid (fun (y:World) (hy:Below w8.heap.size w8 y)=>by
  have q:=HLd.out y hy 2;rw [hl2] at q;exact (show Calls Tryz.prog 9 #[.pointer (some ⟨w.heap.size,0,none⟩),.int .u64 2] y fun e w'=>e=.returned (.tuple #[.agg (lmCells lm0).toArray,.bool false])∧Below y.heap.size y w' from q))
 clear hA hl0 hl1 hl2 hn2 ht1 ht2 HLd;go_upto_region 11 with (first
  | ((with_reducible refine HA.out.mono ?_);rintro e w9 ⟨rfl,h9⟩;have H9:=Lib.hid h9;clear h9)
  | ((with_reducible refine wpList_store_mid rfl 58 _ _ rfl w9.heap.size 0 _ rfl rfl ?_ ?_ ?_ ?_);exact th_new w9 (lmCells lm0) 58;exact lm_size;exact all_oneCell_toArray (lm_one ⟨12,0,2,textB b2.t b2.M⟩)))
 change Code.wp _ _ _ _ ((w9.alloc (.cells (lmCells lm0).toArray 58)).setCells w9.heap.size 0 (lmCells ⟨12,0,2,textB b2.t b2.M⟩));have hbx:=box_below w9 (lmCells lm0) (lmCells ⟨12,0,2,textB b2.t b2.M⟩) 58;have HX:=Lib.hid (show LmAt _ _ ⟨12,0,2,textB b2.t b2.M⟩ from box_row w9 (lmCells lm0) (lmCells ⟨12,0,2,textB b2.t b2.M⟩) 58 rfl);have HB10:=Lib.hid (H9.out.trans (hbx.mono H9.out.size));clear hbx H9 HA;generalize (w9.alloc (.cells (lmCells lm0).toArray 58)).setCells w9.heap.size 0 (lmCells ⟨12,0,2,textB b2.t b2.M⟩)=w10 at *;generalize w9.heap.size=gx at *;have HA:=Lib.hid (HBl.out w10 HB10.out);clear HBl;go_upto_region 12 with (first
  | ((with_reducible refine HA.out.mono ?_);rintro e w9 ⟨rfl,h9⟩;have H9:=Lib.hid h9;clear h9)
  | ((with_reducible refine wpList_store_mid rfl 58 _ _ rfl w9.heap.size 0 _ rfl rfl ?_ ?_ ?_ ?_);exact th_new w9 (lmCells lm0) 58;exact lm_size;exact all_oneCell_toArray (lm_one ⟨13,1,2,leadB b2.t b1.M b2.M⟩)))
 change Code.wp _ _ _ _ ((w9.alloc (.cells (lmCells lm0).toArray 58)).setCells w9.heap.size 0 (lmCells ⟨13,1,2,leadB b2.t b1.M b2.M⟩));have hbx:=box_below w9 (lmCells lm0) (lmCells ⟨13,1,2,leadB b2.t b1.M b2.M⟩) 58;have hb9:=H9.out.trans (hbx.mono H9.out.size);have HY:=Lib.hid (show LmAt _ _ ⟨13,1,2,leadB b2.t b1.M b2.M⟩ from box_row w9 (lmCells lm0) (lmCells ⟨13,1,2,leadB b2.t b1.M b2.M⟩) 58 rfl);have HX12:=Lib.hid (HX.out.below hb9);have HB12:=Lib.hid (HB10.out.trans (hb9.mono HB10.out.size));clear hbx hb9 H9 HA HX HB10;generalize (w9.alloc (.cells (lmCells lm0).toArray 58)).setCells w9.heap.size 0 (lmCells ⟨13,1,2,leadB b2.t b1.M b2.M⟩)=w12 at *;generalize w9.heap.size=gy at *;have HA:=Lib.hid (HCl.out w12 HB12.out);clear HCl;go_upto_region 13 with (first
  | ((with_reducible refine HA.out.mono ?_);rintro e w9 ⟨rfl,h9⟩;have H9:=Lib.hid h9;clear h9)
  | ((with_reducible refine wpList_store_mid rfl 58 _ _ rfl w9.heap.size 0 _ rfl rfl ?_ ?_ ?_ ?_);exact th_new w9 (lmCells lm0) 58;exact lm_size;exact all_oneCell_toArray (lm_one lm0)))
 change Code.wp _ _ _ _ ((w9.alloc (.cells (lmCells lm0).toArray 58)).setCells w9.heap.size 0 (lmCells lm0));have hbx:=box_below w9 (lmCells lm0) (lmCells lm0) 58;have hb9:=H9.out.trans (hbx.mono H9.out.size);have HX13:=Lib.hid (HX12.out.below hb9);have HY13:=Lib.hid (HY.out.below hb9);have HB13:=Lib.hid (HB12.out.trans (hb9.mono HB12.out.size));clear hbx hb9 H9 HA HX12 HY HB12;generalize (w9.alloc (.cells (lmCells lm0).toArray 58)).setCells w9.heap.size 0 (lmCells lm0)=w13 at *;generalize w9.heap.size=gt at *;have hA1:MacAll R1.M:=by rw [HT8.out.2.2.2];exact macsDo_all _ H0.out
 have hA2:MacAll R2.M:=by rw [HR8.out.m];exact macsDo_all _ H0.out
 have hb1M:b1.M=R1.M:=by rw [Hb1.out]
 have hb2M:b2.M=R2.M:=by rw [Hb2.out]
 have hb2t:b2.t=(runC M0 [lw1,lw2]).tail:=by rw [Hb2.out]
 have htl:b2.t.length≤3:=by rw [hb2t];exact runC_tail _ _
 have hall:R1.M.all=R2.M.all:=by rw [HT8.out.2.2.2,HR8.out.m,nodes_dos,nodes_dos]
 have hC:chOf 2 b2.t=some (tailC M0 [lw1,lw2]):=by rw [hb2t];exact tailC_of H0.out [lw1,lw2] (by simp)
 have hrE:readE b2.t R2.M 0=0:=by rw [hb2t,HR8.out.m];exact readE_ok H0.out [lw1,lw2]
 have HFo:=Lib.hid (show Calls Tryz.prog 18 #[.int .u64 1,.agg (macCells R1.M R1.P).toArray,.agg (lmCells ⟨13,1,2,leadB b2.t b1.M b2.M⟩).toArray] w13 fun e w'=>Below w13.heap.size w13 w'∧∃ p3 v3 X3,e=.returned (.tuple #[.pointer (some ⟨p3,0,none⟩),.agg (macCells R2.M X3.ptr).toArray,.int .i64 0])∧ChAt w' w13.heap.size p3 v3 (tailC M0 [lw1,lw2])∧TreeAt w' X3∧X3.sh=R2.M.sh from by
  have q:=follow_delta 1 R1.M T1 ⟨13,1,2,leadB b2.t b1.M b2.M⟩ hA1 HT8.out.2.2.1 rfl (by show 1<2;omega) rfl (by show 2<_;omega) b2.t (diffM b1.M b2.M) htl (by rw [hb1M,hb2M];have:=lead_len hA1 hA2;omega) (tailC M0 [lw1,lw2]) hC rfl w13 (HT8.out.1.below HB13.out);rw [← HT8.out.2.1,hb1M,hb2M,patch_diff hA1 hA2 hall] at q;rw [hb1M,hb2M];refine q.mono ?_;rintro e w' ⟨hb,Pc,M2,P2,rfl,_,hz⟩;obtain ⟨rfl,⟨p3,v3,rfl,hch,_⟩,X3,rfl,hX3,hs3⟩:=hz hrE;refine ⟨hb,p3,v3,X3,?_,hch,hX3,hs3⟩;dsimp only;rw [hrE];rfl)
 have Hrl:=Lib.hid (show w13.rangeAt go 0 (macCells R1.M R1.P) from range_row (HO8.out.below HB13.out));have Hrm:=Lib.hid (show w13.rangeAt gy 0 (lmCells ⟨13,1,2,leadB b2.t b1.M b2.M⟩) from range_row HY13.out);clear hA1 hA2 hb1M hb2M hb2t htl hall hC hrE;go_upto_region 14 with (first
  | (with_reducible refine wpList_load_mid rfl 38 _ rfl go 0 rfl (macCells R1.M R1.P) _ Hrl.out Tryz.underlying38 rfl (mac_size2 _ _) ?_)
  | (with_reducible refine wpList_load_mid rfl 58 _ rfl gy 0 rfl (lmCells ⟨13,1,2,leadB b2.t b1.M b2.M⟩) _ Hrm.out Tryz.underlying58 rfl (lm_size2 _) ?_)
  | ((with_reducible refine HFo.out.mono ?_);rintro e w9 ⟨h9,p3,v3,X3,rfl,hch3,hX3,hs3⟩;have H9:=Lib.hid (And.intro h9 (And.intro hch3 (And.intro hX3 hs3)));clear h9 hch3 hX3 hs3)
  | ((with_reducible refine wpList_store_mid rfl 38 _ _ rfl w9.heap.size 0 _ rfl rfl ?_ ?_ ?_ ?_);exact th_new w9 (macCells macNone none) 38;exact mac_size;exact all_oneCell_toArray (mac_one R2.M X3.ptr)))
 change Code.wp _ _ _ _ ((w9.alloc (.cells (macCells macNone none).toArray 38)).setCells w9.heap.size 0 (macCells R2.M X3.ptr));have hbx:=box_below w9 (macCells macNone none) (macCells R2.M X3.ptr) 38;have hb9:=H9.out.1.trans (hbx.mono H9.out.1.size);have HN14:=Lib.hid (show MacAt _ _ R2.M X3.ptr from box_row w9 (macCells macNone none) (macCells R2.M X3.ptr) 38 rfl);have HX14:=Lib.hid (HX13.out.below hb9);have HY14:=Lib.hid (HY13.out.below hb9);have HC14:=Lib.hid (And.intro (H9.out.2.1.below hbx) (And.intro (H9.out.2.2.1.below hbx) H9.out.2.2.2));have HB14:=Lib.hid (HB13.out.trans (hb9.mono HB13.out.size));clear hbx hb9 H9 HFo Hrl Hrm HX13 HY13 HB13;generalize (w9.alloc (.cells (macCells macNone none).toArray 38)).setCells w9.heap.size 0 (macCells R2.M X3.ptr)=w14 at *;generalize w9.heap.size=gn at *;have hnw:=newest_tells H0.out (HSh8.out.below HB14.out);have hnv:newV [b1,b2]=.tuple #[.int .u64 2,.string ⟨(textB b2.t b2.M).toArray⟩]:=by
  unfold newV;rw [show newB [b1,b2]=b2 from rfl,show b2.top=2 by rw [Hb2.out],if_neg (by omega)];rfl
 rw [hnv] at hnw;have Hnw:=Lib.hid hnw;clear hnw hnv;go_upto_region 15 with ((with_reducible refine Hnw.out.mono ?_);rintro e w15 ⟨rfl,h15⟩;have H15:=Lib.hid h15;clear h15)
 have HN15:=Lib.hid (HN14.out.below H15.out);have HX15:=Lib.hid (HX14.out.below H15.out);have HY15:=Lib.hid (HY14.out.below H15.out);have HC15:=Lib.hid (And.intro (HC14.out.1.below H15.out) (And.intro (HC14.out.2.1.below H15.out) HC14.out.2.2));have HB15:=Lib.hid (HB14.out.trans (H15.out.mono HB14.out.size));have HR15:=Lib.hid (HR8.out.below HB15.out);have HBw:=Lib.hid (HB8.out.trans (HB15.out.mono HB8.out.size));clear H15 HN14 HX14 HY14 HC14 HB14 HB15 HR8 HB8 Hnw HSh8;have x0:w15.cell? ⟨gx,0,none⟩=some (.int .u8 12):=cell_of_row _ _ _ _ _ _ HX15.out;have x4:w15.cell? ⟨gx,4,none⟩=some (.int .u64 2):=cell_of_row _ _ _ _ _ _ HX15.out;have y0:w15.cell? ⟨gy,0,none⟩=some (.int .u8 13):=cell_of_row _ _ _ _ _ _ HY15.out;have y3:w15.cell? ⟨gy,3,none⟩=some (.int .u64 1):=cell_of_row _ _ _ _ _ _ HY15.out;go_upto_region 17 with fail;clear x0 x4 y0 y3;obtain ⟨TX,hTX⟩:∃ S:ByteArray,(⟨(textB b2.t b2.M).toArray⟩:ByteArray)=S:=⟨_,rfl⟩;obtain ⟨TB,hTB⟩:∃ S:ByteArray,(⟨(macB R2.M).toArray⟩:ByteArray)=S:=⟨_,rfl⟩;obtain ⟨TT,hTT⟩:∃ S:ByteArray,(⟨(runC M0 [lw1,lw2]).tail.toArray⟩:ByteArray)=S:=⟨_,rfl⟩;have hA2:MacAll R2.M:=by rw [HR15.out.m];exact macsDo_all _ H0.out
 have HBy1:=Lib.hid (fun (y:World) (hy:Below w15.heap.size w15 y)=>(show Calls Tryz.prog 19 #[.agg (macCells R2.M X3.ptr).toArray] y fun e w'=>e=.returned (.string TB)∧Below y.heap.size y w' from by
  rw [← hTB];exact mbytes_any R2.M X3 (macFit_by hA2.fit) y (HC15.out.2.1.below hy) HC15.out.2.2))
 have HBy2:=Lib.hid (fun (y:World) (hy:Below w15.heap.size w15 y)=>(show Calls Tryz.prog 19 #[.agg (macCells R2.M R2.P).toArray] y fun e w'=>e=.returned (.string TB)∧Below y.heap.size y w' from by
  rw [← hTB,HR15.out.ri.tp];exact mbytes_any R2.M T2 (macFit_by hA2.fit) y (HR15.out.ri.t.below hy) HR15.out.ri.ts))
 have htc:=tailC_len M0 [lw1,lw2];have HTp:=Lib.hid (fun (y:World) (hy:Below w15.heap.size w15 y)=>(show Calls Tryz.prog 22 #[.pointer (some ⟨p3,0,none⟩)] y fun e w'=>e=.returned (.int .u64 2)∧Below y.heap.size y w' from by
  have q:=top_any w13.heap.size p3 v3 (tailC M0 [lw1,lw2]) htc.1 (by rw [htc.2.2];simp) y (HC15.out.1.below hy);rw [tailC_top] at q;exact q))
 have HT1c:=Lib.hid (fun (y:World) (hy:Below w15.heap.size w15 y)=>(show Calls Tryz.prog 42 #[.pointer (some ⟨p3,0,none⟩)] y fun e w'=>e=.returned (.string TT)∧Below y.heap.size y w' from by
  have q:=chtail_any w13.heap.size p3 v3 (tailC M0 [lw1,lw2]) htc.1 (by have:=htc.2.1;omega) y (HC15.out.1.below hy);rw [tailC_tail,hTT] at q;exact q))
 have HT2c:=Lib.hid (fun (y:World) (hy:Below w15.heap.size w15 y)=>(show Calls Tryz.prog 42 #[.pointer R2.c] y fun e w'=>e=.returned (.string TT)∧Below y.heap.size y w' from by
  have q:=chtail_any cb p cv2 ⟨0,(runC M0 [lw1,lw2]).D⟩ (by rw [runC_len];simp) (by rw [runC_len];simp) y (HR15.out.ri.ch.below hy);rw [show (⟨0,(runC M0 [lw1,lw2]).D⟩:ChV)=runC M0 [lw1,lw2] from rfl,hTT] at q;rw [HR15.out.ri.cp];exact q))
 have HTx:=Lib.hid (fun (y:World) (hy:Below w15.heap.size w15 y)=>(show Calls Tryz.prog 25 #[.pointer R2.c,.agg (macCells R2.M R2.P).toArray] y fun e w'=>e=.returned (.string TX)∧Below y.heap.size y w' from by
  have q:=ltext_any R2.M R2.P T2 hA2.fit HR15.out.ri.tp cb p cv2 ⟨0,(runC M0 [lw1,lw2]).D⟩ (by rw [runC_len];simp) (by rw [runC_len];simp) y (HR15.out.ri.ch.below hy) (HR15.out.ri.t.below hy) HR15.out.ri.ts;rw [show (⟨0,(runC M0 [lw1,lw2]).D⟩:ChV)=runC M0 [lw1,lw2] from rfl,show textB (runC M0 [lw1,lw2]).tail R2.M=textB b2.t b2.M by rw [Hb2.out],hTX] at q;rw [HR15.out.ri.cp];exact q))
 clear hA2 htc hTB hTT;rw [hTX];have HTX:=Lib.hid hTX;clear hTX;refine (wpIn_wide (n:=1)).1 ?_;refine RegJ.wpIn_region_plan (F:=Fence.wide) (KeptW w15) (.step 0 0 (.step 2 0 (.step 3 0 (.step 1 1 (.step 4 1 (.step 5 0 (.step 6 0 (.step 7 0 (.step 8 1 (.step 9 0 (.step 10 0 (.step 11 0 (.step 12 0 (.step 14 0 (.step 15 0 (.step 13 1 (.step 16 1 (.step 17 0 (.step 18 0 (.step 19 0 (.step 20 0 (.step 21 0 (.step 22 0 (.step 23 0 (.step 24 0 (.step 25 0 (.step 26 0 (.step 27 0 (.step 28 0 (.step 29 0 (.step 30 0 (.step 31 0 (.step 32 0 (.step 33 0 (.step 34 0 (.step 35 1 (.step 36 0 (.step 37 0 (.step 38 0 .nil))))))))))))))))))))))))))))))))))))))) (by kernel_rfl) (by kernel_rfl) (by kernel_rfl) (fun _ _ d _ _ h=>by cases d <;> exact h) ⟨rfl,rfl,rfl,Nat.le_refl _,fun _ _=>rfl⟩ ?_;dsimp only [RegJ.pickJ,List.getElem?_cons_zero,List.getElem?_cons_succ];change RegJ.Can _ _ _ _ _ _ _ _ w15.drew;have hkd:KeptW w15 w15.drew:=⟨rfl,rfl,rfl,Nat.le_refl _,fun _ _=>rfl⟩;generalize w15.drew=v1 at *;refine RegJ.reads ?_;intro K hK;rw [if_pos (by first | (simp [Region.wanted];done) | (go_simp;done))];refine ⟨.agg (macCells R2.M X3.ptr).toArray,fun y hy=>exec_load rfl rfl (row_loadAt (P:=Tryz.prog) (cs:=macCells R2.M X3.ptr) (HN15.out.below (KeptW.bel hy)) Tryz.underlying38 rfl (mac_size2 _ _)),hK _ ?_⟩;clear hK K;go_simp;refine RegJ.reads ?_;intro K hK;go_simp;(first | refine ⟨_,fun _ _=>rfl,hK _ ?_⟩ | refine hK _ ?_);clear hK K
 refine RegJ.reads ?_;intro K hK;rw [if_pos (by first | (simp [Region.wanted];done) | (go_simp;done))];refine ⟨.agg (macCells R2.M R2.P).toArray,fun y hy=>exec_load rfl rfl (rn_mac (HR15.out.at_.below (KeptW.bel hy))),hK _ ?_⟩;clear hK K;go_simp;refine RegJ.turns (fun _=>trivial) ?_;intro K K0 hK hK0;go_simp;refine ⟨trivial,?_⟩;refine (callsIn_wide.2 (HBy1.out v1 (KeptW.bel hkd))).mono ?_;rintro e v2 ⟨rfl,hb7⟩;have v2k:KeptW w15 v2:=KeptW.mono hkd hb7;refine hK _ _ _ (fun _ h=>h) v2k ?_;clear hK K hK0 K0;refine RegJ.turns (fun _=>trivial) ?_;intro K K0 hK hK0;go_simp;refine ⟨trivial,?_⟩;refine (callsIn_wide.2 (HBy2.out v2 (KeptW.bel v2k))).mono ?_;rintro e v3 ⟨rfl,hb7⟩;have v3k:KeptW w15 v3:=KeptW.mono v2k hb7;refine hK _ _ _ (fun _ h=>h) v3k ?_;clear hK K hK0 K0;iterate 3 (refine RegJ.reads ?_;intro K hK;go_simp;(first | refine ⟨_,fun _ _=>rfl,hK _ ?_⟩ | refine hK _ ?_);clear hK K)
 refine RegJ.turns (fun _=>trivial) ?_;intro K K0 hK hK0;go_simp;refine ⟨trivial,?_⟩;refine (callsIn_wide.2 (HTp.out v3 (KeptW.bel v3k))).mono ?_;rintro e v4 ⟨rfl,hb7⟩;have v4k:KeptW w15 v4:=KeptW.mono v3k hb7;refine hK _ _ _ (fun _ h=>h) v4k ?_;clear hK K hK0 K0;iterate 5 (refine RegJ.reads ?_;intro K hK;go_simp;(first | refine ⟨_,fun _ _=>rfl,hK _ ?_⟩ | refine hK _ ?_);clear hK K)
 refine RegJ.reads ?_;intro K hK;go_simp;refine ⟨.pointer R2.c,fun y hy=>?_,hK _ ?_⟩
 ·
  have f0:y.cell? ⟨g,15,none⟩=some (.pointer R2.c):=cell_of_row _ _ _ _ _ _ (show y.heap[g]?=some (.cells (rnCells R2).toArray _ (0,0)) from HR15.out.at_.below (KeptW.bel hy));go_simp
 clear hK K;refine RegJ.turns (fun _=>trivial) ?_;intro K K0 hK hK0;go_simp;refine ⟨trivial,?_⟩;refine (callsIn_wide.2 (HT1c.out v4 (KeptW.bel v4k))).mono ?_;rintro e v5 ⟨rfl,hb7⟩;have v5k:KeptW w15 v5:=KeptW.mono v4k hb7;refine hK _ _ _ (fun _ h=>h) v5k ?_;clear hK K hK0 K0;refine RegJ.turns (fun _=>trivial) ?_;intro K K0 hK hK0;go_simp;refine ⟨trivial,?_⟩;refine (callsIn_wide.2 (HT2c.out v5 (KeptW.bel v5k))).mono ?_;rintro e v6 ⟨rfl,hb7⟩;have v6k:KeptW w15 v6:=KeptW.mono v5k hb7;refine hK _ _ _ (fun _ h=>h) v6k ?_;clear hK K hK0 K0;iterate 9 (refine RegJ.reads ?_;intro K hK;go_simp;(first | refine ⟨_,fun _ _=>rfl,hK _ ?_⟩ | refine hK _ ?_);clear hK K)
 refine RegJ.reads ?_;intro K hK;go_simp;refine ⟨.string TX,fun y hy=>?_,hK _ ?_⟩
 ·
  have f0:y.cell? ⟨gx,6,none⟩=some (.string TX):=by rw [← HTX.out];exact cell_of_row _ _ _ _ _ _ (HX15.out.below (KeptW.bel hy))
  go_simp
 clear hK K;iterate 5 (refine RegJ.reads ?_;intro K hK;go_simp;(first | refine ⟨_,fun _ _=>rfl,hK _ ?_⟩ | refine hK _ ?_);clear hK K)
 refine RegJ.reads ?_;intro K hK;go_simp;refine ⟨.pointer R2.c,fun y hy=>?_,hK _ ?_⟩
 ·
  have f0:y.cell? ⟨g,15,none⟩=some (.pointer R2.c):=cell_of_row _ _ _ _ _ _ (show y.heap[g]?=some (.cells (rnCells R2).toArray _ (0,0)) from HR15.out.at_.below (KeptW.bel hy));go_simp
 clear hK K;refine RegJ.reads ?_;intro K hK;go_simp;(first | refine ⟨_,fun _ _=>rfl,hK _ ?_⟩ | refine hK _ ?_);clear hK K
 refine RegJ.reads ?_;intro K hK;rw [if_pos (by first | (simp [Region.wanted];done) | (go_simp;done))];refine ⟨.agg (macCells R2.M R2.P).toArray,fun y hy=>exec_load rfl rfl (rn_mac (HR15.out.at_.below (KeptW.bel hy))),hK _ ?_⟩;clear hK K;go_simp;refine RegJ.turns (fun _=>trivial) ?_;intro K K0 hK hK0;go_simp;refine ⟨trivial,?_⟩;refine (callsIn_wide.2 (HTx.out v6 (KeptW.bel v6k))).mono ?_;rintro e v7 ⟨rfl,hb7⟩;have v7k:KeptW w15 v7:=KeptW.mono v6k hb7;refine hK _ _ _ (fun _ h=>h) v7k ?_;clear hK K hK0 K0;iterate 3 (refine RegJ.reads ?_;intro K hK;go_simp;(first | refine ⟨_,fun _ _=>rfl,hK _ ?_⟩ | refine hK _ ?_);clear hK K)
 refine RegJ.nil ?_;go_wp2_with fail;go_ret;exact ⟨rfl,HBw.out.trans ((KeptW.bel v7k).mono HBw.out.size)⟩
theorem LmAt.cells18 {w:World} {g:Nat} {m:LmV} (h:LmAt w g m):w.cell? ⟨g,0,none⟩=some (.int .u8 (m.k:Int))∧w.cell? ⟨g,1,none⟩=some (.int .u64 0)∧w.cell? ⟨g,2,none⟩=some (.int .u8 0)∧w.cell? ⟨g,3,none⟩=some (.int .u64 (m.f:Int))∧w.cell? ⟨g,4,none⟩=some (.int .u64 (m.s:Int))∧w.cell? ⟨g,5,none⟩=some (.int .u8 0)∧w.cell? ⟨g,6,none⟩=some (.string ⟨m.x.toArray⟩)∧w.cell? ⟨g,7,none⟩=some (.slice none 0 0)∧w.cell? ⟨g,8,none⟩=some (.slice none 0 0)∧w.cell? ⟨g,9,none⟩=some (.int .u8 0)∧w.cell? ⟨g,10,none⟩=some (.int .u32 0)∧w.cell? ⟨g,11,none⟩=some (.int .u8 0)∧w.cell? ⟨g,12,none⟩=some (.string ByteArray.empty)∧w.cell? ⟨g,13,none⟩=some (.string ByteArray.empty)∧w.cell? ⟨g,14,none⟩=some (.string ByteArray.empty)∧w.cell? ⟨g,15,none⟩=some (.int .u8 0)∧w.cell? ⟨g,16,none⟩=some (.int .u8 0)∧w.cell? ⟨g,17,none⟩=some (.string ByteArray.empty) :=
 ⟨cell_of_row _ _ _ _ _ _ h,cell_of_row _ _ _ _ _ _ h,cell_of_row _ _ _ _ _ _ h,cell_of_row _ _ _ _ _ _ h,cell_of_row _ _ _ _ _ _ h,cell_of_row _ _ _ _ _ _ h,cell_of_row _ _ _ _ _ _ h,cell_of_row _ _ _ _ _ _ h,cell_of_row _ _ _ _ _ _ h,cell_of_row _ _ _ _ _ _ h,cell_of_row _ _ _ _ _ _ h,cell_of_row _ _ _ _ _ _ h,cell_of_row _ _ _ _ _ _ h,cell_of_row _ _ _ _ _ _ h,cell_of_row _ _ _ _ _ _ h,cell_of_row _ _ _ _ _ _ h,cell_of_row _ _ _ _ _ _ h,cell_of_row _ _ _ _ _ _ h⟩
theorem same_self (m:LmV) (w:World):Calls Tryz.prog 12 #[lmV m,lmV m] w fun e w'=>e=.returned (.bool true)∧Below w.heap.size w w':=by
 have hb1:=(Below.refl w.heap.size w).alloc (Nat.le_refl _) (.cells (lmCells m).toArray 58);have h1:LmAt (w.alloc (.cells (lmCells m).toArray 58)) w.heap.size m:=heap_alloc_new _ _;have hs1:(w.alloc (.cells (lmCells m).toArray 58)).heap.size=w.heap.size+1:=World.size_alloc _ _;have hb2:=(Below.refl _ (w.alloc (.cells (lmCells m).toArray 58))).alloc (Nat.le_refl _) (.cells (lmCells m).toArray 58);have h2:LmAt ((w.alloc (.cells (lmCells m).toArray 58)).alloc (.cells (lmCells m).toArray 58)) (w.alloc (.cells (lmCells m).toArray 58)).heap.size m:=heap_alloc_new _ _;rw [hs1] at h2;have Hx:=Lib.hid (And.intro (h1.below hb2) (And.intro h2 (hb1.trans (hb2.mono hb1.size))));clear hb1 h1 hs1 hb2 h2;obtain ⟨g,hg⟩:∃ g,w.heap.size=g:=⟨_,rfl⟩;rw [hg] at Hx;unfold lmV;rw [lm_eta];go_enter Tryz.func12,Tryz.ntmps12
 go_upto_region 1 with fail;simp only [← lm_eta];change Code.wp _ _ _ _ ((w.alloc (.cells (lmCells m).toArray 58)).alloc (.cells (lmCells m).toArray 58));generalize (w.alloc (.cells (lmCells m).toArray 58)).alloc (.cells (lmCells m).toArray 58)=w2 at *;obtain ⟨c0,c1,c2,c3,c4,c5,c6,c7,c8,c9,c10,c11,c12,c13,c14,c15,c16,c17⟩:=Hx.out.1.cells18;obtain ⟨d0,d1,d2,d3,d4,d5,d6,d7,d8,d9,d10,d11,d12,d13,d14,d15,d16,d17⟩:=Hx.out.2.1.cells18;have Hg:=Lib.hid hg;clear hg;obtain ⟨S,hS⟩:∃ S:ByteArray,(⟨m.x.toArray⟩:ByteArray)=S:=⟨_,rfl⟩;rw [hS] at c6 d6;clear hS;go_upto_region 4 with fail;go_loopw [5] (fun s5 wr=>s5=.int .i64 0∧w2=wr) (fun _ _=>0)
 case atStart=>exact ⟨rfl,rfl⟩
 case round =>
  obtain ⟨rfl,rfl⟩:=hrel;go_upto_region 9 with fail;go_loopw [6] (fun s6 wr=>s6=.int .i64 0∧w2=wr) (fun _ _=>0)
  case atStart=>exact ⟨rfl,rfl⟩
  case round =>
   obtain ⟨rfl,rfl⟩:=hrel;go_wp2_with fail;go_ret;refine ⟨rfl,?_⟩;rw [Hg.out];exact Hx.out.2.2
theorem cmd_range {w y:World} {a:Option Addr} {l:Nat} {z:List CmdV} (h:CmdsAt w a l z) {i:Nat} (hi:i<l) (hy:Below w.heap.size w y):∃ b o c,a=some ⟨b,o,none⟩∧z[i]?=some c∧z.take (i+1)=z.take i++[c]∧y.rangeAt b (o+i*7) (cmdCells c):=by
 have hl:=h.hlen;have hi2:i<z.length:=by omega
 obtain ⟨b,o,e,_,hc⟩:=(h.below hy).cells i z[i] (List.getElem?_eq_getElem hi2);refine ⟨b,o,z[i],e,List.getElem?_eq_getElem hi2,List.take_succ_eq_append_getElem hi2,fun j v hv=>?_⟩;have q:=hc j v hv;rw [← Nat.add_assoc] at q;exact q
theorem cmd_size2 (c:CmdV):(Tryz.prog.info? 56).map (·.size)=some (cmdCells c).length:=cmd_size
end Go.Proofs.YtbckjgageofldaaGreat
