/- Chains: LearnLeads. Condition: the chain lies there. -/
import Derived.Deep.DeepCutAuto
import Derived.Test.YtbckjgageofldaaGreatZLearnRefuses30
import Derived.Test.YtbckjgageofldaaGreatZLearnRefuses29
namespace Go.Proofs.YtbckjgageofldaaGreat
open Go.RowKit
theorem ShI.top8 {w:World} {base ps:Nat} {sv:Value} {M0:MacV} {l:List CmdV} {L:List BsV} (_:ShI w base ps sv M0 l L) {e k:Nat} (h:TopsI e k L):(newB L).top=k*e:=tops_new h
theorem next_mult {e k i:Nat} (he:1≤e∧e≤5) (h:k*e≤i∧i<k*e+e) (hz:(i+1) % e=0):i+1=(k+1)*e:=by
 have he5:e=1∨e=2∨e=3∨e=4∨e=5:=by omega
 rcases he5 with rfl | rfl | rfl | rfl | rfl <;> omega
theorem mult_le {e k i:Nat} (he:1≤e∧e≤5) (h:k*e≤i):k≤i:=by
 have he5:e=1∨e=2∨e=3∨e=4∨e=5:=by omega
 rcases he5 with rfl | rfl | rfl | rfl | rfl <;> omega
theorem infoMac:(Tryz.prog.info? 38).map (fun i=>(i.zero,i.size,i.bytes))=some (some (macV macNone none),15,144):=by kernel_rfl
theorem mac_new (w:World) (x:MacV × Option Addr):SliceAt 15 encM (w.alloc (.cells (macCells x.1 x.2).toArray 38)) (some ⟨w.heap.size,0,none⟩) 1 [x]:=by
 refine ⟨rfl,by unfold maxLen;omega,fun i y hi=>⟨w.heap.size,0,rfl,by rw [World.size_alloc];omega,fun j v hj=>?_⟩⟩;have h0:i=0:=by
  cases i with
  | zero=>rfl
  | succ i=>simp at hi
 subst h0;simp only [List.getElem?_cons_zero,Option.some.injEq] at hi;subst hi;simp only [World.cell?,heap_alloc_new];rw [Nat.zero_add,Nat.zero_mul,Nat.zero_add];simpa [encM] using hj
theorem mac_own (w:World) (x:MacV × Option Addr):(w.alloc (.cells (macCells x.1 x.2).toArray 38)).ownsRow w.heap.size 38 15 (.slice (some ⟨w.heap.size,0,none⟩) 1 1) 1 (flat encM [x]) :=
 ⟨rfl,.inr ⟨w.heap.size,1,(macCells x.1 x.2).toArray,rfl,Nat.le_refl _,heap_alloc_new _ _,Nat.le_refl _,by unfold maxLen;omega,rfl,rfl⟩⟩
structure LdI (w0 w:World) (g ps:Nat) (M0:MacV) (p:Nat) (z:List CmdV) (i e k:Nat) (R:RnV) (T:Tr) (cv:Value) (zk:List KeptV) (sv:Value) (L:List BsV) (av:Value) (A:List (MacV × Option Addr)):Prop where
 run:RunS w w0.heap.size g M0 (z.take i) R T p cv zk
 sh:ShI w ps ps sv M0 (z.take i) L
 tops:TopsI e k L
 ke:k*e≤i∧i<k*e+e
 ats:AtsI w M0 z A
 row:w.ownsRow w0.heap.size 38 15 av (i+1) (flat encM A)
 al:A.length=i+1
 bel:Below w0.heap.size w0 w
 ps:ps≤w.heap.size
theorem LdI.below {w0 w w':World} {g ps:Nat} {M0:MacV} {p:Nat} {z:List CmdV} {i e k:Nat} {R:RnV} {T:Tr} {cv:Value} {zk:List KeptV} {sv:Value} {L:List BsV} {av:Value} {A:List (MacV × Option Addr)} (h:LdI w0 w g ps M0 p z i e k R T cv zk sv L av A) (hb:Below w.heap.size w w'):LdI w0 w' g ps M0 p z i e k R T cv zk sv L av A :=
 have hs:Sorts [] w.heap.size w w':=sorts_of hb _;⟨h.run.below hb,h.sh.below hb,h.tops,h.ke,h.ats.sorts hs (by simp),ownsRow_sorts hs h.row (by simp),h.al,h.bel.trans (hb.mono h.bel.size),Nat.le_trans h.ps hb.size⟩
def FOk (M0:MacV) (l:List CmdV) (w:World) (e:Ending) (w':World):Prop:=∃ p3 v3 X3,e=.returned (.tuple #[.pointer (some ⟨p3,0,none⟩),.agg (macCells (macsDo M0 l) X3.ptr).toArray,.int .i64 0])∧ChAt w' w.heap.size p3 v3 (tailC M0 l)∧TreeAt w' X3∧X3.sh=(macsDo M0 l).sh∧Below w.heap.size w w'
theorem lead_two2 {L:List BsV} {fr:Nat} (h:fr<(newB L).top):(∃ b,b ∈ L∧b.top=fr∧leadV L fr=(⟨13,fr,(newB L).top,leadB (newB L).t b.M (newB L).M⟩,true))∨leadV L fr=(⟨12,0,(newB L).top,textB (newB L).t (newB L).M⟩,true):=by
 unfold leadV;rw [if_neg (by omega)];cases hf:L.find? (fun b=>b.top == fr) with
 | none=>exact .inr rfl
 | some b=>exact .inl ⟨b,List.mem_of_find?_eq_some hf,by simpa using List.find?_some hf,rfl⟩
theorem lead_follow {y:World} {ps:Nat} {M0:MacV} {l:List CmdV} {sv:Value} {L:List BsV} (h0:MacAll M0) (hl:l.length≤100) (hS:ShI y ps ps sv M0 l L) (htop:(newB L).top=l.length) {s:Nat} (hs:s<l.length) {m:LmV} (hm:(leadV L s).1=m) {x:World} (_:Below y.heap.size y x) {Ms:MacV} {X:Tr} (hMs:Ms=macsDo M0 (l.take s)) (hX:TreeAt x X) (hXs:X.sh=Ms.sh) :
  Calls Tryz.prog 18 #[.int .u64 (s:Int),.agg (macCells Ms X.ptr).toArray,.agg (lmCells m).toArray] x (FOk M0 l x):=by
 have hL:L≠[]:=by
  rintro rfl;have:(newB []).top=0:=rfl;omega
 obtain ⟨hmem,_⟩:=newB_mem hL;have hB:=hS.bs _ hmem;obtain ⟨c1,c2,c3⟩:=bs_all h0 hB;have hMl:(newB L).M=macsDo M0 l:=by rw [hB.m,htop,List.take_length]
 have htl:(newB L).t=(runC M0 l).tail:=by rw [hB.t,htop,List.take_length]
 have hC:chOf l.length (newB L).t=some (tailC M0 l):=by rw [htl];exact tailC_of h0 l (by omega)
 have hrE:readE (newB L).t (newB L).M 0=0:=by rw [htl,hMl];exact readE_ok h0 l
 have hA:MacAll Ms:=by rw [hMs];exact macsDo_all _ h0
 rcases lead_two2 (L:=L) (fr:=s) (by omega) with ⟨b,hb,hbs,e⟩ | e
 ·
  rw [e] at hm;dsimp only at hm;subst hm;have hbM:b.M=Ms:=by rw [(hS.bs _ hb).m,hbs,hMs]
  have q:=follow_delta s Ms X ⟨13,s,(newB L).top,leadB (newB L).t b.M (newB L).M⟩ hA hXs rfl (by show s<(newB L).top;omega) rfl (by show (newB L).top<_;omega) (newB L).t (diffM b.M (newB L).M) c3 (by rw [hbM];have:=lead_len hA c1;omega) (tailC M0 l) (by show chOf (newB L).top _=_;rw [htop];exact hC) rfl x hX;rw [hbM,patch_diff hA c1 (by rw [hMs,hMl,nodes_dos,nodes_dos])] at q;rw [hbM];refine q.mono ?_;rintro e w' ⟨hb,Pc,M2,P2,rfl,_,hz⟩;obtain ⟨rfl,⟨p3,v3,rfl,hch,_⟩,X3,rfl,hX3,hs3⟩:=hz hrE;refine ⟨p3,v3,X3,?_,hch,hX3,by rw [hs3,hMl],hb⟩;dsimp only;rw [hrE, ← hMl];rfl
 ·
  rw [e] at hm;dsimp only at hm;subst hm;have q:=follow_snap s Ms X ⟨12,0,(newB L).top,textB (newB L).t (newB L).M⟩ rfl (by show s<(newB L).top;omega) (by show (newB L).top<_;omega) (newB L).t c3 (tailC M0 l) (by show chOf (newB L).top _=_;rw [htop];exact hC) (newB L).M c1 rfl x hX;refine q.mono ?_;rintro e w' ⟨hb,Pc,M2,P2,rfl,_,hz⟩;obtain ⟨rfl,⟨p3,v3,rfl,hch,_⟩,X3,rfl,hX3,hs3⟩:=hz hrE;refine ⟨p3,v3,X3,?_,hch,hX3,by rw [hs3,hMl],hb⟩;rw [hrE, ← hMl];rfl
theorem flat_range {y:World} {B:Nat} {A:List (MacV × Option Addr)} {s:Nat} {x:MacV × Option Addr} (hx:A[s]?=some x) (h:∀ j u,(flat encM A)[j]?=some u→y.cell? ⟨B,j,none⟩=some u):y.rangeAt B (s*15) (macCells x.1 x.2):=fun j v hv=>h _ _ (flat_at encM_len A s j x v hx hv)
set_option maxRecDepth 100000 in
set_option maxHeartbeats 16000000 in
theorem leads_any (al fi ea:Nat) (hal:al<256) (hfi:fi<256) (_hea:ea<256) (a:Option Addr) (l cap:Nat) (z:List CmdV) (w:World) (hz:CmdsAt w a l z) :
  Calls Tryz.prog 5 #[.int .u8 (al:Int),.int .u8 (fi:Int),.slice a l cap,.int .u8 (ea:Int)] w fun e w'=>e=.returned (.bool true)∧Below w.heap.size w w':=by
 have Hwk:=Lib.hid lwakes_any;have Hz:=Lib.hid hz;have hlz:=hz.hlen;obtain ⟨gb,hgb⟩:∃ b,kgreatS z=b:=⟨_,rfl⟩;have hgr:=kgreat_any a l cap z w hz;rw [hgb] at hgr;have Hgr2:=Lib.hid hgr;clear hgr hz;cases gb with
 | true =>
  clear hgb hlz;go_enter Tryz.func5,Tryz.ntmps5
  go_wp2_with (first
   | ((with_reducible refine Hgr2.out.mono ?_);rintro e w1 ⟨rfl,rfl⟩)
   | ((with_reducible refine (Hwk.out _).mono ?_);rintro e w2 ⟨rfl,h2⟩;have H2:=Lib.hid h2;clear h2))
  go_ret;exact ⟨rfl,H2.out⟩
 | false =>
  have hgo:=kgreat_ok hgb;clear hgb;by_cases hbig:60<l
  ·
   have hbig2:(60:Int)<(l:Int):=by omega
   clear hbig hgo;go_enter Tryz.func5,Tryz.ntmps5
   go_wp2_with (first
    | ((with_reducible refine Hgr2.out.mono ?_);rintro e w1 ⟨rfl,rfl⟩)
    | ((with_reducible refine (Hwk.out _).mono ?_);rintro e w2 ⟨rfl,h2⟩;have H2:=Lib.hid h2;clear h2))
   go_ret;exact ⟨rfl,H2.out⟩
  ·
   have hbig2 : ¬ (60:Int)<(l:Int):=by omega
   have Hl:=Lib.hid (show l≤60∧z.length=l by omega);clear hbig hgo hlz;obtain ⟨mm,hmm⟩:∃ b,mayS fi al=b:=⟨_,rfl⟩;cases mm with
   | false =>
    have Hbn:=Lib.hid (fun y:World=>(show Calls Tryz.prog 8 #[.int .u8 (al:Int),.int .u8 (fi:Int)] y fun e w'=>e=.returned (.tuple #[.agg (rnCells rn0).toArray,.bool false])∧Below y.heap.size y w' from lbegun_not al fi hal hfi hmm y));clear hmm hal hfi _hea;go_enter Tryz.func5,Tryz.ntmps5
    go_wp2_with (first
     | ((with_reducible refine Hgr2.out.mono ?_);rintro e w1 ⟨rfl,rfl⟩)
     | ((with_reducible refine (Hbn.out _).mono ?_);rintro e w2 ⟨rfl,h2⟩;have H2:=Lib.hid h2;clear h2)
     | ((with_reducible refine wpList_store_mid rfl 48 _ _ rfl w2.heap.size 0 _ rfl rfl ?_ ?_ ?_ ?_);exact th_new w2 (rnCells rn0) 48;exact rn_size rn0;exact all_oneCell_toArray (rn_one rn0 rfl))
     | ((with_reducible refine (Hwk.out _).mono ?_);rintro e w3 ⟨rfl,h3⟩;have H3:=Lib.hid h3;clear h3))
    go_ret;have hbx:=H2.out.trans ((box_below w2 (rnCells rn0) (rnCells rn0) 48).mono H2.out.size);exact ⟨rfl,hbx.trans (H3.out.mono hbx.size)⟩
   | true =>
    obtain ⟨M0,hM0⟩:∃ M,newM al fi=M:=⟨_,rfl⟩;have h0:MacAll M0:=by rw [← hM0];exact newAll hal hmm
    have hbe:=fun y:World=>lbegun_is al fi hal hfi hmm y
    rw [hM0] at hbe;have Hbe:=Lib.hid (show ∀ y:World,Calls Tryz.prog 8 #[.int .u8 (al:Int),.int .u8 (fi:Int)] y (BegPost M0 y) from hbe);have Hnew:=Lib.hid lnew_any;have H0:=Lib.hid h0;obtain ⟨e1,he1⟩:∃ r,ea % 5=r:=⟨_,rfl⟩;have hem:(ea:Int) % 5=(e1:Int):=by omega
    have hew:IntKind.i64.wrap (1+(e1:Int))=((e1+1:Nat):Int):=by rw [IntKind.wrap_i64];omega
    have hew2:IntKind.i64.wrap (e1:Int)=(e1:Int):=by rw [IntKind.wrap_i64];omega
    have He:=Lib.hid (show e1+1≤5 by omega);clear hbe h0 hM0 hmm hal hfi he1 _hea;generalize hev:e1+1=ev at *
    go_enter Tryz.func5,Tryz.ntmps5
    go_upto_region 6 with (first
     | ((with_reducible refine Hgr2.out.mono ?_);rintro e w1 ⟨rfl,rfl⟩)
     | ((with_reducible refine (Hbe.out _).mono ?_);rintro e w2 ⟨R0,p,cv0,rfl,hM,hI,hr,hp,hb⟩;have H2:=Lib.hid (And.intro hM (And.intro hI (And.intro hr (And.intro hp hb))));clear hM hI hr hp hb;unfold rnV)
     | ((with_reducible refine wpList_store_mid rfl 48 _ _ rfl w2.heap.size 0 _ rfl rfl ?_ ?_ ?_ ?_);exact th_new w2 (rnCells rn0) 48;exact rn_size rn0;exact all_oneCell_toArray (rn_one R0 (slice_one _ H2.out.2.1.rv))))
    change Code.wp _ _ _ _ ((w2.alloc (.cells (rnCells rn0).toArray 48)).setCells w2.heap.size 0 (rnCells R0));have hb3:=box_below w2 (rnCells rn0) (rnCells R0) 48;have hr3:RnAt _ _ R0:=box_row w2 (rnCells rn0) (rnCells R0) 48 rfl;have hbB:=H2.out.2.2.2.2.trans (hb3.mono H2.out.2.2.2.2.size);have HR3:=Lib.hid (begun_run H2.out.1 (H2.out.2.1.below hb3) H2.out.2.2.1 hr3);have HB3:=Lib.hid hbB;have Hg3:=Lib.hid (And.intro H2.out.2.2.2.2.size H2.out.2.2.2.1);clear hb3 hr3 hbB H2 Hbe Hgr2;generalize (w2.alloc (.cells (rnCells rn0).toArray 48)).setCells w2.heap.size 0 (rnCells R0)=w3 at *;generalize hgr:w2.heap.size=g at *
    clear hgr;go_upto_region 8 with ((with_reducible refine (Hnew.out _).mono ?_);rintro e w4 ⟨rfl,hs4,hb4⟩;have H4:=Lib.hid (And.intro hs4 hb4);clear hs4 hb4)
    have HR4:=Lib.hid (HR3.out.below H4.out.2);have HS4:=Lib.hid (show ShI w4 w3.heap.size w3.heap.size (.slice none 0 0) M0 [] [] from ⟨H4.out.1,by simp,List.Pairwise.nil,fun b hb=>by cases hb⟩);have HB4:=Lib.hid (HB3.out.trans (H4.out.2.mono HB3.out.size));have Hps:=Lib.hid HB3.out.size;have Hps4:=Lib.hid H4.out.2.size;clear HR3 HB3 H4 Hnew;generalize w3.heap.size=ps at *;have Hrl4:=Lib.hid (show w4.rangeAt g 0 [.int .u8 (R0.M.all:Int),.int .u8 (R0.M.mem:Int),.int .u32 (R0.M.tab.a.seq.toNat:Int),.int .u8 (R0.M.tab.a.code:Int),.string R0.M.tab.a.text,.int .u32 (R0.M.tab.b.seq.toNat:Int),.int .u8 (R0.M.tab.b.code:Int),.string R0.M.tab.b.text,.int .u32 (R0.M.tab.c.seq.toNat:Int),.int .u8 (R0.M.tab.c.code:Int),.string R0.M.tab.c.text,.int .u32 (R0.M.tab.d.seq.toNat:Int),.int .u8 (R0.M.tab.d.code:Int),.string R0.M.tab.d.text,.pointer R0.P] from rn_there15 HR4.out.at_);go_upto_region 11 with ((with_reducible refine wpList_load_mid rfl 38 _ rfl g 0 rfl [.int .u8 (R0.M.all:Int),.int .u8 (R0.M.mem:Int),.int .u32 (R0.M.tab.a.seq.toNat:Int),.int .u8 (R0.M.tab.a.code:Int),.string R0.M.tab.a.text,.int .u32 (R0.M.tab.b.seq.toNat:Int),.int .u8 (R0.M.tab.b.code:Int),.string R0.M.tab.b.text,.int .u32 (R0.M.tab.c.seq.toNat:Int),.int .u8 (R0.M.tab.c.code:Int),.string R0.M.tab.c.text,.int .u32 (R0.M.tab.d.seq.toNat:Int),.int .u8 (R0.M.tab.d.code:Int),.string R0.M.tab.d.text,.pointer R0.P] _ Hrl4.out Tryz.underlying38 rfl ?_ ?_);exact mac_size)
    change Code.wp _ _ _ _ (w4.alloc (.cells (macCells R0.M R0.P).toArray 38));have hbm:=(Below.refl w4.heap.size w4).alloc (Nat.le_refl _) (.cells (macCells R0.M R0.P).toArray 38);have hro:=mac_own w4 (R0.M,R0.P);have HI:=Lib.hid (show LdI w (w4.alloc (.cells (macCells R0.M R0.P).toArray 38)) g ps M0 p z 0 ev 0 R0 .nil cv0 [] (.slice none 0 0) [] (.slice (some ⟨w4.heap.size,0,none⟩) 1 1) [(R0.M,R0.P)] from
     ⟨HR4.out.below hbm,HS4.out.below hbm,tops_nil ev,by rw [Nat.zero_mul];have:=He.out;omega,⟨fun j x hj=>by
      cases j with
      | zero=>simp at hj;subst hj;exact HR4.out.m
      | succ j=>simp at hj,fun x hx=>by rw [List.mem_singleton] at hx;subst hx;exact ⟨.nil,trivial,HR4.out.ri.tp,HR4.out.ri.ts⟩⟩,
      ⟨hro.1,by
       rcases hro.2 with h | ⟨g1,cap1,cur1,e1,_,h2⟩
       ·
        exact .inl h
       ·
        exact .inr ⟨g1,cap1,cur1,e1,by cases e1;exact HB4.out.size,h2⟩⟩,rfl,HB4.out.trans (hbm.mono HB4.out.size),Nat.le_trans Hps4.out hbm.size⟩)
    clear hbm hro HR4 HS4 HB4 Hps4 Hrl4;generalize w4.alloc (.cells (macCells R0.M R0.P).toArray 38)=w11 at *;generalize w4.heap.size=ga at *;go_loopw [13,14,15] (fun s13 s14 s15 wr=>∃ (i k:Nat) (R:RnV) (T:Tr) (cv:Value) (zk:List KeptV) (sv:Value) (L:List BsV) (A:List (MacV × Option Addr)),i≤l∧s14=.int .i64 (k:Int)∧s15=.int .i64 (i:Int)∧LdI w wr g ps M0 p z i ev k R T cv zk sv L s13 A) (fun _ _ s15 _=>l - (intOf s15).toNat)
    case atStart=>exact ⟨0,0,R0,.nil,cv0,[],.slice none 0 0,[],[(R0.M,R0.P)],Nat.zero_le _,rfl,rfl,HI.out⟩
    case round =>
     obtain ⟨i,k,R,T,cv,zk,sv,L,A,hi,rfl,rfl,hI⟩:=hrel;clear HI;have HI:=Lib.hid hI;clear hI;have hlen:(z.take i).length=i:=by rw [List.length_take,Hl.out.2];omega
     by_cases hlt:i<l
     ·
      have hlt':(i:Int)<(l:Int):=by omega
      have hlt0 : ¬ (i:Int)<0:=by omega
      have hsucc:=tsucc (n:=i) (by have:=Hl.out.1;omega);obtain ⟨b,o,c,rfl,hc,htk,hrg⟩:=cmd_range Hz.out hlt HI.out.bel;have Hrg:=Lib.hid hrg;have hd:=does_run H0.out HI.out.bel.size (by rw [hlen];have:=Hl.out.1;omega) HI.out.run c;rw [← htk] at hd;have Hd:=Lib.hid hd;have Hlen:=Lib.hid (And.intro hlen (And.intro htk hlt));clear hd hrg hc htk hlen;go_upto_region 14 with (first
       | (with_reducible refine wpList_load_mid rfl 56 _ rfl b (o+i*7) rfl (cmdCells c) _ Hrg.out Tryz.underlying56 rfl (cmd_size2 c) ?_)
       | ((with_reducible refine Hd.out.mono ?_);rintro e w5 ⟨R1,T1,cv1,z1,rfl,hr5,hs5,hn5⟩;have H5:=Lib.hid (And.intro hr5 (And.intro hs5 hn5));clear hr5 hs5 hn5))
      obtain ⟨ad,c13,rfl⟩:=own_slice_of HI.out.row;have hb5:Below w.heap.size w w5:=HI.out.bel.trans (H5.out.2.2 _ HI.out.bel.size Hg3.out.1 Hg3.out.2 (Nat.le_refl _));have hsh5:=(HI.out.sh.sorts H5.out.2.1 (by decide) (by decide) (by decide)).more c;rw [← Hlen.out.2.1] at hsh5;have hl5:(z.take (i+1)).length=i+1:=by rw [List.length_take,Hl.out.2];have:=Hlen.out.2.2;omega
      have HR5:=Lib.hid H5.out.1;have HS5:=Lib.hid hsh5;have HA5:=Lib.hid (And.intro (HI.out.ats.sorts H5.out.2.1 (by decide)) (ownsRow_sorts H5.out.2.1 HI.out.row (by decide)));have HB5:=Lib.hid (And.intro hb5 (And.intro hl5 (Nat.le_trans HI.out.ps H5.out.2.1.size)));have HP5:=Lib.hid (And.intro HI.out.tops (And.intro HI.out.ke HI.out.al));have Hrl5:=Lib.hid (show w5.rangeAt g 0 [.int .u8 (R1.M.all:Int),.int .u8 (R1.M.mem:Int),.int .u32 (R1.M.tab.a.seq.toNat:Int),.int .u8 (R1.M.tab.a.code:Int),.string R1.M.tab.a.text,.int .u32 (R1.M.tab.b.seq.toNat:Int),.int .u8 (R1.M.tab.b.code:Int),.string R1.M.tab.b.text,.int .u32 (R1.M.tab.c.seq.toNat:Int),.int .u8 (R1.M.tab.c.code:Int),.string R1.M.tab.c.text,.int .u32 (R1.M.tab.d.seq.toNat:Int),.int .u8 (R1.M.tab.d.code:Int),.string R1.M.tab.d.text,.pointer R1.P] from rn_there15 HR5.out.at_);clear hb5 hsh5 hl5 H5 Hd Hrg HI;obtain ⟨i0,hi0,hz0,hs0,hb0⟩:=info_parts infoMac;have Hi0:=Lib.hid (And.intro hi0 (And.intro hz0 (And.intro hs0 hb0)));clear hi0 hz0 hs0 hb0;go_upto_region 15 with (first
       | ((with_reducible refine wpList_load_mid rfl 38 _ rfl g 0 rfl [.int .u8 (R1.M.all:Int),.int .u8 (R1.M.mem:Int),.int .u32 (R1.M.tab.a.seq.toNat:Int),.int .u8 (R1.M.tab.a.code:Int),.string R1.M.tab.a.text,.int .u32 (R1.M.tab.b.seq.toNat:Int),.int .u8 (R1.M.tab.b.code:Int),.string R1.M.tab.b.text,.int .u32 (R1.M.tab.c.seq.toNat:Int),.int .u8 (R1.M.tab.c.code:Int),.string R1.M.tab.c.text,.int .u32 (R1.M.tab.d.seq.toNat:Int),.int .u8 (R1.M.tab.d.code:Int),.string R1.M.tab.d.text,.pointer R1.P] _ Hrl5.out Tryz.underlying38 rfl ?_ ?_);exact mac_size)
       | (at_builtin;refine wpList_plain rfl (fun K hK=>?_);refine wp_append_slice (k:=15) (enc:=encM) _ _ 76 rfl w.heap.size 38 i0 _ 144 Tryz.underlying76 Hi0.out.1 Hi0.out.2.1 Hi0.out.2.2.1 Hi0.out.2.2.2 rfl (by omega) encM_len encM_one (.slice ad (i+1) c13) (i+1) (flat encM A) rfl (HA5.out.2.alloc _) (some ⟨w5.heap.size,0,none⟩) 1 1 [(R1.M,R1.P)] rfl (mac_new w5 (R1.M,R1.P)) (fun e=>by cases e) (by unfold maxLen;have:=Hl.out.1;have:=Hlen.out.2.2;omega) (by have:=Hl.out.1;have:=Hlen.out.2.2;omega) (Nat.le_trans HB5.out.1.size (by simp)) ?_;intro v7 w7 ho7 hg7;have H7:=Lib.hid (And.intro ho7 hg7);clear ho7 hg7;refine hK _ _ ?_))
      have hb56:=(Below.refl w5.heap.size w5).alloc (Nat.le_refl _) (.cells (macCells R1.M R1.P).toArray 38);have hs67:=sorts_grown (ts:=[38]) H7.out.2 (fun q hq=>by
       obtain ⟨cs,hc⟩:=own_row (HA5.out.2.alloc (.cells (macCells R1.M R1.P).toArray 38)) q hq;exact ⟨_,_,_,hc,by simp⟩)
      have hs57:Sorts [38] w5.heap.size w5 w7:=(sorts_of hb56 _).trans (hs67.mono hb56.size (fun t h=>h));have hb7:Below w.heap.size w w7:=(HB5.out.1.trans (hb56.mono HB5.out.1.size)).trans ⟨hs67.os,hs67.tape,hs67.output,hs67.size,fun q hq=>H7.out.2.block q (Nat.lt_of_lt_of_le hq (Nat.le_trans HB5.out.1.size hb56.size)) (fun e=>by
       rcases HA5.out.2.2 with ⟨e2,_⟩ | ⟨q2,_,_,e2,h5,_⟩
       ·
        rw [e2] at e;cases e
       ·
        rw [e2] at e;have e3:q=q2:=Option.some.inj e;omega)⟩
      have HR7:=Lib.hid (HR5.out.sorts hs57 (by decide) (by decide));have HS7:=Lib.hid (HS5.out.sorts hs57 (by decide) (by decide) (by decide));have hats7:AtsI w7 M0 z (A++[(R1.M,R1.P)]):=by
       have q:=HA5.out.1.sorts hs57 (by decide);refine ⟨fun j x hj=>?_,fun x hx=>?_⟩
       ·
        rcases Nat.lt_or_ge j A.length with hjl | hjl
        ·
         rw [List.getElem?_append_left hjl] at hj;exact q.m j x hj
        ·
         rw [List.getElem?_append_right hjl] at hj;have hj0:j=A.length:=by
          have:=(List.getElem?_eq_some_iff.1 hj).1;simp at this;omega
         subst hj0;simp at hj;subst hj;rw [HP5.out.2.2];exact HR5.out.m
       ·
        rcases List.mem_append.1 hx with hx | hx
        ·
         exact q.t x hx
        ·
         rw [List.mem_singleton] at hx;subst hx;exact ⟨T1,HR7.out.ri.t,HR7.out.ri.tp,HR7.out.ri.ts⟩
      have HA7:=Lib.hid (And.intro hats7 (show w7.ownsRow w.heap.size 38 15 v7 (i+1+1) (flat encM (A++[(R1.M,R1.P)])) by rw [flat_app];exact H7.out.1));have HB7:=Lib.hid (And.intro hb7 (And.intro HB5.out.2.1 (Nat.le_trans HB5.out.2.2 hs57.size)));have hal7:(A++[(R1.M,R1.P)]).length=i+1+1:=by rw [List.length_append,HP5.out.2.2];rfl
      have HP7:=Lib.hid (And.intro HP5.out.1 (And.intro HP5.out.2.1 hal7));generalize A++[(R1.M,R1.P)]=A7 at *;clear hb56 hs67 hs57 hb7 hats7 hal7 H7 HR5 HS5 HA5 HB5 HP5 Hrl5 Hi0;have hevp:((ev:Int) == 0)=false:=by rw [beq_eq_false_iff_ne];have:ev=e1+1:=hev.symm;omega
      have hevn : ¬ (ev:Int)=0:=by have:ev=e1+1:=hev.symm;omega
      obtain ⟨rm,hrm⟩:∃ m,(i+1) % ev=m:=⟨_,rfl⟩;have hr1:((i:Int)+1) % (ev:Int)=(rm:Int):=by rw [← hrm];rfl
      have Hrm:=Lib.hid (And.intro hrm hev);by_cases hz0:rm=0
      ·
       subst hz0;clear hrm;have hki:i+1=(k+1)*ev:=next_mult (by have:=He.out;have:=Hrm.out.2;omega) HP7.out.2.1 Hrm.out.1;have hne2:((0:Int) != 0)=false:=rfl;have hp7:=put_new H0.out HR7.out.ri HR7.out.m HS7.out (by rw [tops_new HP7.out.1,HB7.out.2.1];have:=HP7.out.2.1;omega) HB7.out.2.2 (by rw [HB7.out.2.1];have:=Hl.out.1;have:=Hlen.out.2.2;omega);have Hp7:=Lib.hid hp7;have f15:w7.cell? ⟨g,15,none⟩=some (.pointer R1.c):=cell_of_row _ _ _ _ _ _ (show w7.heap[g]?=some (.cells (rnCells R1).toArray _ (0,0)) from HR7.out.at_);have Hrl7:=Lib.hid (rn_there15 HR7.out.at_);have hkb:k≤i:=mult_le (by have:=He.out;have:=Hrm.out.2;omega) HP7.out.2.1.1;have hsk:=tsucc (n:=k) (by have:=Hl.out.1;have:=Hlen.out.2.2;omega);have Hki:=Lib.hid hki;clear hp7 hki hkb;go_upto_region 20 with (first
        | (with_reducible refine wpList_load_mid rfl 38 _ rfl g 0 rfl (macCells R1.M R1.P) _ Hrl7.out Tryz.underlying38 rfl (mac_size2 _ _) ?_)
        | ((with_reducible refine Hp7.out.mono ?_);rintro e w8 ⟨sv8,rfl,hsh8,hst8,hn8⟩;have H8:=Lib.hid (And.intro hsh8 (And.intro hst8 hn8));clear hsh8 hst8 hn8))
       have HI8:=Lib.hid (show LdI w w8 g ps M0 p z (i+1) ev (k+1) R1 T1 cv1 z1 sv8 (keep3 (L++[⟨R1.M,R1.P,(z.take (i+1)).length,(runC M0 (z.take (i+1))).tail⟩])) v7 A7 from
        ⟨HR7.out.sorts H8.out.2.1 (by decide) (by decide),H8.out.1,tops_put HP7.out.1 (by rw [HB7.out.2.1];exact Hki.out),by have:=Hki.out;have:=Hrm.out.2;omega,HA7.out.1.sorts H8.out.2.1 (by decide),ownsRow_sorts H8.out.2.1 HA7.out.2 (by decide),HP7.out.2.2,HB7.out.1.trans (H8.out.2.2 _ HB7.out.1.size Hps.out Hps.out),Nat.le_trans HB7.out.2.2 H8.out.2.1.size⟩)
       have Hl7:=Lib.hid HB7.out.2.1;clear HR7 HS7 HA7 HB7 HP7 H8 Hp7 f15 Hrl7 hr1 hne2;generalize hL8:keep3 (L++[⟨R1.M,R1.P,(z.take (i+1)).length,(runC M0 (z.take (i+1))).tail⟩])=L8 at *
       clear hL8;go_loopw [16] (fun s16 wr=>∃ s:Nat,s≤i+1∧s16=.int .i64 (s:Int)∧Below w8.heap.size w8 wr) (fun s16 _=>i+1 - (intOf s16).toNat)
       case atStart=>exact ⟨0,by omega,rfl,Below.refl _ _⟩
       case round =>
        obtain ⟨s,hs,rfl,hbw⟩:=hrel;have Hbw:=Lib.hid hbw;clear hbw;by_cases hsi:s≤i
        ·
         have hle:(s:Int)≤(i:Int):=by omega
         have hss:=tsucc (n:=s) (by have:=Hl.out.1;have:=Hlen.out.2.2;omega);have hcv:IntKind.u64.wrap (s:Int)=(s:Int):=by rw [IntKind.wrap_u64];have:=Hl.out.1;have:=Hlen.out.2.2;omega
         have hcv2:IntKind.u64.wrap ((i:Int)+1)=((i+1:Nat):Int):=by rw [IntKind.wrap_u64];have:=Hl.out.1;have:=Hlen.out.2.2;omega
         have hst:s<(newB L8).top:=by rw [HI8.out.sh.top8 HI8.out.tops, ← Hki.out];omega
         obtain ⟨hk1,hk2,hk3,hk4⟩:=lead_kind hst;have hld:=lead_any H0.out (HI8.out.sh.below Hbw.out) (by rw [Hl7.out];have:=Hl.out.1;have:=Hlen.out.2.2;omega) s;rw [hk3] at hld;obtain ⟨m,hm⟩:∃ m,(leadV L8 s).1=m:=⟨_,rfl⟩;rw [hm] at hld hk1 hk2 hk4;have Hld:=Lib.hid (show Calls Tryz.prog 9 #[.pointer (some ⟨ps,0,none⟩),.int .u64 (s:Int)] wr fun e w'=>e=.returned (.tuple #[.agg (lmCells m).toArray,.bool true])∧Below wr.heap.size wr w' from hld);have Hm:=Lib.hid (show (leadV L8 s).1=m∧(m.k=13 ↔ ∃ b,b ∈ L8∧b.top=s)∧(m.k=13∨m.k=12)∧m.s=i+1 from ⟨hm,hk1,hk2,by rw [hk4,HI8.out.sh.top8 HI8.out.tops, ← Hki.out]⟩);have Hsi:=Lib.hid (And.intro hsi hst);clear hk1 hk2 hk3 hk4 hld hm hst;go_upto_region 23 with (first
          | ((with_reducible refine Hld.out.mono ?_);rintro e w9 ⟨rfl,h9⟩;have H9:=Lib.hid h9;clear h9)
          | ((with_reducible refine wpList_store_mid rfl 58 _ _ rfl w9.heap.size 0 _ rfl rfl ?_ ?_ ?_ ?_);exact th_new w9 (lmCells lm0) 58;exact lm_size;exact all_oneCell_toArray (lm_one m)))
         change Code.wp _ _ _ _ ((w9.alloc (.cells (lmCells lm0).toArray 58)).setCells w9.heap.size 0 (lmCells m));have hbx:=box_below w9 (lmCells lm0) (lmCells m) 58;have HX:=Lib.hid (show LmAt _ _ m from box_row w9 (lmCells lm0) (lmCells m) 58 rfl);have HB10:=Lib.hid (Hbw.out.trans ((H9.out.trans (hbx.mono H9.out.size)).mono Hbw.out.size));clear hbx H9 Hld Hbw;generalize (w9.alloc (.cells (lmCells lm0).toArray 58)).setCells w9.heap.size 0 (lmCells m)=w10 at *;generalize w9.heap.size=gx at *;have f4:w10.cell? ⟨gx,4,none⟩=some (.int .u64 ((i+1:Nat):Int)):=by rw [← Hm.out.2.2.2];exact cell_of_row _ _ _ _ _ _ HX.out
         go_upto_region 25 with fail;clear f4 hcv2;obtain ⟨nb,hnb⟩:∃ b,decide (0<s∧s % ev=0∧(i+1) - s<ev*3)=b:=⟨_,rfl⟩;have Hnb:=Lib.hid hnb;clear hnb;have hw1:IntKind.i64.wrap ((i:Int)+1 - (s:Int))=(((i+1) - s:Nat):Int):=by rw [IntKind.wrap_i64];have:=Hl.out.1;have:=Hlen.out.2.2;have:=Hsi.out.1;omega
         have hw2:IntKind.i64.wrap ((ev:Int)*3)=((ev*3:Nat):Int):=by rw [IntKind.wrap_i64];have:=He.out;omega
         obtain ⟨dd,hdd⟩:∃ d,(i+1) - s=d:=⟨_,rfl⟩;obtain ⟨e3,he3⟩:∃ d,ev*3=d:=⟨_,rfl⟩;rw [hdd] at hw1;rw [he3] at hw2;have hnd:=Hnb.out;rw [hdd,he3] at hnd;have Hnd:=Lib.hid hnd;clear hnd hdd he3;go_cut [19] from 107 to 123 (fun s19 wx=>w10=wx∧s19=.bool nb)
         case first =>
          by_cases hs0:0<s
          ·
           have hs0':(0:Int)<(s:Int):=by omega
           obtain ⟨rs,hrs⟩:∃ m,s % ev=m:=⟨_,rfl⟩;have hr1:(s:Int) % (ev:Int)=(rs:Int):=by rw [← hrs];rfl
           by_cases hrz:rs=0
           ·
            subst hrz;by_cases hdl:dd<e3
            ·
             have hdl':(dd:Int)<(e3:Int):=by omega
             have hb:nb=true:=by rw [← Hnd.out];simp [hs0,hrs,hdl]
             go_wp2_with fail;go_meet
             exact ⟨rfl,by rw [hb]⟩
            ·
             have hdl' : ¬ (dd:Int)<(e3:Int):=by omega
             have hb:nb=false:=by rw [← Hnd.out];simp [hdl]
             go_wp2_with fail;go_meet
             exact ⟨rfl,by rw [hb]⟩
           ·
            have hr3:((rs:Int) == 0)=false:=by rw [beq_eq_false_iff_ne];omega
            have hb:nb=false:=by rw [← Hnd.out];simp [hrs,hrz]
            go_wp2_with fail;go_meet
            exact ⟨rfl,by rw [hb]⟩
          ·
           have hs0' : ¬ (0:Int)<(s:Int):=by omega
           have hb:nb=false:=by rw [← Hnd.out];simp [hs0]
           go_wp2_with fail;go_meet
           exact ⟨rfl,by rw [hb]⟩
         case rest =>
         obtain ⟨rfl,rfl⟩:=hcut;clear hw1 hw2;have hkn:m.k=if nb=true then 13 else 12:=by
          have hsl:s<(k+1)*ev:=by rw [← Hki.out];have:=Hsi.out.1;omega
          have h1:=Hm.out.2.1.trans ((tops_mem HI8.out.tops s).trans (near_iff (by have:=He.out;have:=Hrm.out.2;omega) hsl));rw [← Hki.out, ← decide_eq_true_iff (p:=0<s∧_),Hnb.out] at h1;cases nb with
          | true=>rw [if_pos rfl];exact h1.2 rfl
          | false =>
           rw [if_neg (by simp)];rcases Hm.out.2.2.1 with h2 | h2
           ·
            have:=h1.1 h2;cases this
           ·
            exact h2
         have Hkn:=Lib.hid hkn;clear hkn;go_upto_region 26 with fail;go_cut [138] from 124 to 138 (fun s138 wx=>w10=wx∧s138=.bool false)
         case first =>
          cases nb with
          | true =>
           have f0:w10.cell? ⟨gx,0,none⟩=some (.int .u8 13):=by
            have e:(.int .u8 13:Value)=.int .u8 (m.k:Int):=by rw [Hkn.out];rfl
            rw [e];exact cell_of_row _ _ _ _ _ _ HX.out
           go_wp2_with fail;go_meet
           exact ⟨rfl,rfl⟩
          | false =>
           have f0:w10.cell? ⟨gx,0,none⟩=some (.int .u8 12):=by
            have e:(.int .u8 12:Value)=.int .u8 (m.k:Int):=by rw [Hkn.out];rfl
            rw [e];exact cell_of_row _ _ _ _ _ _ HX.out
           go_wp2_with fail;go_meet
           exact ⟨rfl,rfl⟩
         case rest =>
         obtain ⟨rfl,rfl⟩:=hcut;go_upto_region 28 with fail;obtain ⟨xs,hxs⟩:∃ x,A7[s]?=some x:=⟨_,List.getElem?_eq_getElem (by rw [HI8.out.al];have:=Hsi.out.1;omega)⟩;obtain ⟨XT,hXT,hXp,hXs⟩:=HI8.out.ats.t xs (List.mem_of_getElem? hxs);have hxm:=HI8.out.ats.m s xs hxs;obtain ⟨B7,c7,hv7,_,_,hget⟩:=own_cell HI8.out.row (by omega);subst hv7;have Hat:=Lib.hid (fun (y:World) (hy:Below w8.heap.size w8 y)=>flat_range hxs (hget y hy));have hfol:=fun (x:World) (hx:Below w8.heap.size w8 x)=>lead_follow H0.out (by rw [Hl7.out];have:=Hl.out.1;have:=Hlen.out.2.2;omega) HI8.out.sh (by rw [tops_new HI8.out.tops,Hl7.out,Hki.out]) (by rw [Hl7.out];have:=Hsi.out.1;omega) Hm.out.1 hx (by rw [hxm,List.take_take];congr 2;have:=Hsi.out.1;omega) (hXT.below hx) hXs
         rw [← hXp] at hfol;have Hfol:=Lib.hid hfol;have hsb:(s:Int)<(i:Int)+1+1:=by have:=Hsi.out.1;omega
         have hs00 : ¬ (s:Int)<0:=by omega
         clear hxs hXT hXp hXs hxm hget hfol;refine (wpIn_wide (n:=1)).1 ?_;refine RegL.wpIn_region_lays (F:=Fence.wide) (KeptW w10) [⟨12,21,.cells (macCells macNone none).toArray 38 (0,0)⟩] [(0,0),(1,0),(2,0),(3,0),(4,0),(5,0),(6,0),(7,1),(8,2),(9,2),(10,2),(11,2),(13,2),(14,3),(15,0)] (by kernel_rfl) (by kernel_rfl) (by kernel_rfl) (fun p hp=>by rw [List.mem_singleton] at hp;subst hp;exact lays_any layMac rfl) (fun _ _ d _ _ h=>by cases d <;> exact h) (fun _ _ d _ _ h=>by cases d <;> exact h) ⟨rfl,rfl,rfl,Nat.le_refl _,fun _ _=>rfl⟩ (keptW_mono w10) ?_;dsimp only [RegK.pick,List.getElem?_cons_zero,List.getElem?_cons_succ];refine RegL.reads ?_;intro K hK;go_simp;(first | refine ⟨_,fun _ _=>rfl,hK _ ?_⟩ | refine hK _ ?_);clear hK K;refine RegL.reads ?_;intro K hK;go_simp;(first | refine ⟨_,fun _ _=>rfl,hK _ ?_⟩ | refine hK _ ?_);clear hK K;refine RegL.reads ?_;intro K hK;go_simp;(first | refine ⟨_,fun _ _=>rfl,hK _ ?_⟩ | refine hK _ ?_);clear hK K;refine RegL.reads ?_;intro K hK;go_simp;(first | refine ⟨_,fun _ _=>rfl,hK _ ?_⟩ | refine hK _ ?_);clear hK K;refine RegL.reads ?_;intro K hK;go_simp;(first | refine ⟨_,fun _ _=>rfl,hK _ ?_⟩ | refine hK _ ?_);clear hK K;refine RegL.reads ?_;intro K hK;rw [if_pos (by simp [Region.wanted])];refine ⟨.agg (macCells xs.1 xs.2).toArray,fun y hy=>exec_load rfl rfl (run_loadAt_mid y B7 (s*15) 38 (macCells xs.1 xs.2) _ (Hat.out y (HB10.out.trans ((KeptW.bel hy).mono HB10.out.size))) Tryz.underlying38 rfl (mac_size2 _ _)),hK _ ?_⟩;clear hK K;go_simp;refine RegL.reads ?_;intro K hK;rw [if_pos (by simp [Region.wanted])];refine ⟨.agg (lmCells m).toArray,fun y hy=>exec_load rfl rfl (row_loadAt (P:=Tryz.prog) (cs:=lmCells m) (HX.out.below (KeptW.bel hy)) Tryz.underlying58 rfl (lm_size2 _)),hK _ ?_⟩;clear hK K;go_simp;refine RegL.adds (fun _=>trivial) ?_;go_simp;intro xa1 hx K hK;refine ⟨trivial,?_⟩;refine (callsIn_wide.2 (Hfol.out xa1 (HB10.out.trans ((KeptW.bel hx).mono HB10.out.size)))).mono ?_;rintro e xc1 ⟨p3,v3,X3,rfl,hch3,hX3,hs3,hb2⟩;have hxxc1:KeptW w10 xc1:=KeptW.mono hx hb2;refine hK (KeptW xc1) _ _ hb2 (fun y h=>KeptW.mono (KeptW.mono hx hb2) (KeptW.bel h)) (keptW_mono xc1) (Below.refl _ _) ?_;have H3:=Lib.hid (And.intro hch3 (And.intro hX3 hs3));clear hch3 hX3 hs3;clear hK K hb2 hx;refine RegL.pures ?_;intro K hK;go_simp;(first | (refine ⟨_,fun _=>rfl,hK _ ?_⟩) | (refine hK _ ?_));clear hK K;refine RegL.pures ?_;intro K hK;go_simp;(first | (refine ⟨_,fun _=>rfl,hK _ ?_⟩) | (refine hK _ ?_));clear hK K;refine RegL.pures ?_;intro K hK;go_simp;(first | (refine ⟨_,fun _=>rfl,hK _ ?_⟩) | (refine hK _ ?_));clear hK K;refine RegL.pures ?_;intro K hK;go_simp;(first | (refine ⟨_,fun _=>rfl,hK _ ?_⟩) | (refine hK _ ?_));clear hK K;refine RegL.pures ?_;intro K hK;go_simp;(first | (refine ⟨_,fun _=>rfl,hK _ ?_⟩) | (refine hK _ ?_));clear hK K;refine RegL.last ?_;intro g' y hF hy;have hyk:KeptW w10 y:=KeptW.mono hxxc1 (KeptW.bel hy);obtain ⟨hlg21,hng21⟩:=hF.1 ⟨12,21,.cells (macCells macNone none).toArray 38 (0,0)⟩ (by simp) rfl;simp only [RegL.putS,RegL.ptr,if_true];clear hF;generalize g' 12=g21 at *;have hx21:MacAt y g21 macNone none:=hlg21;refine RegK.can_frees (fun _=>trivial) ?_;intro K K0 hK hK0;rw [if_pos (by simp [Region.wanted])];refine RegK.op_wide rfl ?_;refine wp_store_mid 38 _ _ rfl g21 0 (macCells (macsDo M0 (z.take (i+1))) X3.ptr).toArray rfl rfl (there_row (cs:=macCells macNone none) hx21) mac_size (all_oneCell_toArray (mac_one _ _)) ?_;rw [show (y).setCells g21 0 (macCells (macsDo M0 (z.take (i+1))) X3.ptr).toArray.toList=rowSt y g21 0 (macCells (macsDo M0 (z.take (i+1))) X3.ptr) from st_eq _ _ _];refine hK (fun _=>True) _ _ trivial ?_;clear hK K hK0 K0;have hm21:=macSt_at hx21 (macsDo M0 (z.take (i+1))) X3.ptr;have hb21:=rowSt_below (w0:=w10) (n:=w10.heap.size) hng21 (macCells (macsDo M0 (z.take (i+1))) X3.ptr) 0 _ (KeptW.bel hyk);have hc21:=(H3.out.1.below (KeptW.bel hy)).sorts (sorts_row (ts:=[38]) hx21 (by simp) (macCells (macsDo M0 (z.take (i+1))) X3.ptr) 0) (by decide) (by decide);have ht21:TreeAt (rowSt y g21 0 (macCells (macsDo M0 (z.take (i+1))) X3.ptr)) X3:=TreeAt.row hx21 (by decide) _ _ (H3.out.2.1.below (KeptW.bel hy));generalize rowSt y g21 0 (macCells (macsDo M0 (z.take (i+1))) X3.ptr)=w12 at *;iterate 1 (refine RegK.can_reads ?_;intro K hK;go_simp;(first | refine ⟨_,fun _ _=>rfl,hK _ ?_⟩ | refine hK _ ?_);clear hK K)
         refine RegK.can_nil ?_;have HM12:=Lib.hid hm21;have HC12:=Lib.hid (And.intro hc21 (And.intro ht21 H3.out.2.2));have HB12:=Lib.hid (HB10.out.trans (hb21.mono HB10.out.size));clear hm21 hb21 hc21 ht21 hx21 hlg21 hng21 hyk hy H3 HX HB10 Hat Hfol;go_upto_region 29 with fail;obtain ⟨TB,hTB⟩:∃ S:ByteArray,(⟨(macB R1.M).toArray⟩:ByteArray)=S:=⟨_,rfl⟩;have HR12:=Lib.hid (HI8.out.run.below HB12.out);have hA2:MacAll R1.M:=by rw [HI8.out.run.m];exact macsDo_all _ H0.out
         have hMe:R1.M=macsDo M0 (z.take (i+1)):=HI8.out.run.m;have HM12b:=Lib.hid (show MacAt w12 g21 R1.M X3.ptr by rw [hMe];exact HM12.out);have hs3:X3.sh=R1.M.sh:=by rw [hMe];exact HC12.out.2.2
         have HBy1:=Lib.hid (fun (y:World) (hy:Below w12.heap.size w12 y)=>(show Calls Tryz.prog 19 #[.agg (macCells R1.M X3.ptr).toArray] y fun e w'=>e=.returned (.string TB)∧Below y.heap.size y w' from by
          rw [← hTB];exact mbytes_any R1.M X3 (macFit_by hA2.fit) y (HC12.out.2.1.below hy) hs3))
         have HBy2:=Lib.hid (fun (y:World) (hy:Below w12.heap.size w12 y)=>(show Calls Tryz.prog 19 #[.agg (macCells R1.M R1.P).toArray] y fun e w'=>e=.returned (.string TB)∧Below y.heap.size y w' from by
          rw [← hTB,HR12.out.ri.tp];exact mbytes_any R1.M T1 (macFit_by hA2.fit) y (HR12.out.ri.t.below hy) HR12.out.ri.ts))
         have htc:=tailC_len M0 (z.take (i+1));have HSm:=Lib.hid (fun (y:World) (hy:Below w12.heap.size w12 y)=>(show Calls Tryz.prog 20 #[.pointer (some ⟨p3,0,none⟩),.pointer R1.c,.int .u64 ((i+1:Nat):Int)] y fun e w'=>e=.returned (.bool true)∧Below y.heap.size y w' from by
          rw [HR12.out.ri.cp];have hl1:=Hl7.out;have h60:=Hl.out.1;have hil:=Hlen.out.2.2;refine csame_any _ p3 _ p v3 cv1 (tailC M0 (z.take (i+1))) (runC M0 (z.take (i+1))) (i+1) (by omega) htc.1 (by rw [runC_len];omega) (by rw [htc.2.2];omega) (by rw [runC_len,runC_low];omega) (fun s hs=>?_) ((tailC_top _ _).trans (runC_top _ _).symm) y (HC12.out.1.below hy) (HR12.out.ri.ch.below hy);have q:=tail_at (runC_low M0 (z.take (i+1))) (by rw [runC_len];omega) (slot:=s) (by rw [runC_top];omega);rw [runC_top] at q;exact q))
         have hcv2:IntKind.u64.wrap ((i:Int)+1)=((i+1:Nat):Int):=by rw [IntKind.wrap_u64];have:=Hl.out.1;have:=Hlen.out.2.2;omega
         have hne2:((0:Int) != 0)=false:=rfl;clear hA2 hMe hs3 htc hTB;refine (wpIn_wide (n:=1)).1 ?_;refine RegJ.wpIn_region_plan (F:=Fence.wide) (KeptW w12) (.step 0 0 (.step 1 0 (.step 2 0 (.step 3 0 (.step 4 0 (.step 5 0 (.step 6 0 (.step 7 0 (.step 9 0 (.step 10 0 (.step 8 1 (.step 11 1 (.step 12 0 (.step 13 0 (.step 14 0 (.step 15 0 (.step 16 0 (.step 17 0 (.step 18 0 (.step 19 0 (.step 20 0 (.step 21 1 (.step 22 0 (.step 23 0 .nil)))))))))))))))))))))))) (by kernel_rfl) (by kernel_rfl) (by kernel_rfl) (fun _ _ d _ _ h=>by cases d <;> exact h) ⟨rfl,rfl,rfl,Nat.le_refl _,fun _ _=>rfl⟩ ?_;dsimp only [RegJ.pickJ,List.getElem?_cons_zero,List.getElem?_cons_succ];change RegJ.Can _ _ _ _ _ _ _ _ w12.drew;have hkd:KeptW w12 w12.drew:=⟨rfl,rfl,rfl,Nat.le_refl _,fun _ _=>rfl⟩;generalize w12.drew=v1 at *;iterate 7 (refine RegJ.reads ?_;intro K hK;go_simp;(first | refine ⟨_,fun _ _=>rfl,hK _ ?_⟩ | refine hK _ ?_);clear hK K)
         refine RegJ.reads ?_;intro K hK;rw [if_pos (by first | (simp [Region.wanted];done) | (go_simp;done))];refine ⟨.agg (macCells R1.M X3.ptr).toArray,fun y hy=>exec_load rfl rfl (row_loadAt (P:=Tryz.prog) (cs:=macCells R1.M X3.ptr) (HM12b.out.below (KeptW.bel hy)) Tryz.underlying38 rfl (mac_size2 _ _)),hK _ ?_⟩;clear hK K;go_simp;refine RegJ.reads ?_;intro K hK;go_simp;(first | refine ⟨_,fun _ _=>rfl,hK _ ?_⟩ | refine hK _ ?_);clear hK K
         refine RegJ.reads ?_;intro K hK;rw [if_pos (by first | (simp [Region.wanted];done) | (go_simp;done))];refine ⟨.agg (macCells R1.M R1.P).toArray,fun y hy=>exec_load rfl rfl (rn_mac (HR12.out.at_.below (KeptW.bel hy))),hK _ ?_⟩;clear hK K;go_simp;refine RegJ.turns (fun _=>trivial) ?_;intro K K0 hK hK0;go_simp;refine ⟨trivial,?_⟩;refine (callsIn_wide.2 (HBy1.out v1 (KeptW.bel hkd))).mono ?_;rintro e v2 ⟨rfl,hb7⟩;have v2k:KeptW w12 v2:=KeptW.mono hkd hb7;refine hK _ _ _ (fun _ h=>h) v2k ?_;clear hK K hK0 K0;refine RegJ.turns (fun _=>trivial) ?_;intro K K0 hK hK0;go_simp;refine ⟨trivial,?_⟩;refine (callsIn_wide.2 (HBy2.out v2 (KeptW.bel v2k))).mono ?_;rintro e v3 ⟨rfl,hb7⟩;have v3k:KeptW w12 v3:=KeptW.mono v2k hb7;refine hK _ _ _ (fun _ h=>h) v3k ?_;clear hK K hK0 K0;iterate 5 (refine RegJ.reads ?_;intro K hK;go_simp;(first | refine ⟨_,fun _ _=>rfl,hK _ ?_⟩ | refine hK _ ?_);clear hK K)
         refine RegJ.reads ?_;intro K hK;go_simp;refine ⟨.pointer R1.c,fun y hy=>?_,hK _ ?_⟩
         ·
          have f0:y.cell? ⟨g,15,none⟩=some (.pointer R1.c):=cell_of_row _ _ _ _ _ _ (show y.heap[g]?=some (.cells (rnCells R1).toArray _ (0,0)) from HR12.out.at_.below (KeptW.bel hy));go_simp
         clear hK K;iterate 3 (refine RegJ.reads ?_;intro K hK;go_simp;(first | refine ⟨_,fun _ _=>rfl,hK _ ?_⟩ | refine hK _ ?_);clear hK K)
         refine RegJ.turns (fun _=>trivial) ?_;intro K K0 hK hK0;go_simp;refine ⟨trivial,?_⟩;refine (callsIn_wide.2 (HSm.out v3 (KeptW.bel v3k))).mono ?_;rintro e v4 ⟨rfl,hb7⟩;have v4k:KeptW w12 v4:=KeptW.mono v3k hb7;refine hK _ _ _ (fun _ h=>h) v4k ?_;clear hK K hK0 K0;iterate 2 (refine RegJ.reads ?_;intro K hK;go_simp;(first | refine ⟨_,fun _ _=>rfl,hK _ ?_⟩ | refine hK _ ?_);clear hK K)
         refine RegJ.nil ?_;have HBv:=Lib.hid (HB12.out.trans ((KeptW.bel v4k).mono HB12.out.size));go_wp2_with fail;go_roundw
         case rel=>exact ⟨s+1,by have:=Hsi.out.1;omega,rfl,HBv.out⟩
         case measure =>
          simp only [intOf];have:=Hsi.out.1;omega
        ·
         have hse:s=i+1:=by omega
         subst hse;have hnle : ¬ ((i+1:Nat):Int)≤(i:Int):=by omega
         have hlv:leadV L8 (i+1)=(lm0,false):=by unfold leadV;rw [if_pos (by rw [HI8.out.sh.top8 HI8.out.tops, ← Hki.out];exact Nat.le_refl _)]
         have hld:=lead_any H0.out (HI8.out.sh.below Hbw.out) (by rw [Hl7.out];have:=Hl.out.1;have:=Hlen.out.2.2;omega) (i+1);rw [hlv] at hld;have Hld:=Lib.hid (show Calls Tryz.prog 9 #[.pointer (some ⟨ps,0,none⟩),.int .u64 ((i+1:Nat):Int)] wr fun e w'=>e=.returned (.tuple #[.agg (lmCells lm0).toArray,.bool false])∧Below wr.heap.size wr w' from hld);have hcv2:IntKind.u64.wrap ((i:Int)+1)=((i+1:Nat):Int):=by rw [IntKind.wrap_u64];have:=Hl.out.1;have:=Hlen.out.2.2;omega
         have Hld2:=Lib.hid (show Calls Tryz.prog 9 #[.pointer (some ⟨ps,0,none⟩),.int .u64 ((i:Int)+1)] wr fun e w'=>e=.returned (.tuple #[.agg (lmCells lm0).toArray,.bool false])∧Below wr.heap.size wr w' from hld);clear hlv hld;go_wp2_with (first
          | ((with_reducible refine Hld2.out.mono ?_);rintro e w9 ⟨rfl,h9⟩;have H9:=Lib.hid h9;clear h9)
          | ((with_reducible refine Hld.out.mono ?_);rintro e w9 ⟨rfl,h9⟩;have H9:=Lib.hid h9;clear h9)
          | ((with_reducible refine wpList_store_mid rfl 58 _ _ rfl w9.heap.size 0 _ rfl rfl ?_ ?_ ?_ ?_);exact th_new w9 (lmCells lm0) 58;exact lm_size;exact all_oneCell_toArray (lm_one lm0)))
         go_roundw
         case rel =>
          have hbx:=box_below w9 (lmCells lm0) (lmCells lm0) 58;have hb9:=Hbw.out.trans ((H9.out.trans (hbx.mono H9.out.size)).mono Hbw.out.size);exact ⟨i+1,k+1,R1,T1,cv1,z1,sv8,L8,A7,by have:=Hlen.out.2.2;omega,rfl,rfl,HI8.out.below hb9⟩
         case measure =>
          simp only [intOf];have:=Hlen.out.2.2;omega
      ·
       have hne:((rm:Int) != 0)=true:=by rw [bne_iff_ne];omega
       have hkk:k*ev≤i+1∧i+1<k*ev+ev:=by
        have h1:=HP7.out.2.1;refine ⟨by omega,Nat.lt_of_le_of_ne (by omega) (fun e=>hz0 ?_)⟩;rw [← hrm,e,show k*ev+ev=(k+1)*ev by rw [Nat.succ_mul],Nat.mul_mod_left]
       clear hrm;go_wp2_with fail;go_roundw
       case rel =>
        exact ⟨i+1,k,R1,T1,cv1,z1,sv,L,A7,by have:=Hlen.out.2.2;omega,rfl,rfl,⟨HR7.out,HS7.out,HP7.out.1,hkk,HA7.out.1,HA7.out.2,HP7.out.2.2,HB7.out.1,HB7.out.2.2⟩⟩
       case measure =>
        simp only [intOf];have:=Hlen.out.2.2;omega
     ·
      have hil:i=l:=by omega
      subst hil;have hzt:z.take i=z:=by rw [← Hl.out.2,List.take_length]
      have hnt:=newest_tells H0.out HI.out.sh;have htp:=tops_new HI.out.tops;unfold newV at hnt;rw [htp] at hnt;by_cases hk:k=0
      ·
       subst hk;have hnt2:Calls Tryz.prog 10 #[.pointer (some ⟨ps,0,none⟩)] wr fun e w'=>e=.returned (.tuple #[.int .u64 0,.string ⟨#[]⟩])∧Below wr.heap.size wr w':=by
        rw [if_pos (by omega),Nat.zero_mul] at hnt;exact hnt
       have Hnt:=Lib.hid hnt2;clear hnt hnt2 htp hzt hlen;go_wp2_with (first
        | ((with_reducible refine Hnt.out.mono ?_);rintro e w9 ⟨rfl,h9⟩;have H9:=Lib.hid h9;clear h9)
        | ((with_reducible refine (Hwk.out _).mono ?_);rintro e w12 ⟨rfl,h12⟩;have H12:=Lib.hid h12;clear h12))
       go_ret;have hb9:=HI.out.bel.trans (H9.out.mono HI.out.bel.size);exact ⟨rfl,hb9.trans (H12.out.mono hb9.size)⟩
      ·
       have hQ:k*ev≤i:=HI.out.ke.1;obtain ⟨q,hq⟩:∃ q,k*ev=q:=⟨_,rfl⟩;rw [hq] at hQ hnt htp;have hq0:q≠0:=by rw [← hq];exact Nat.mul_ne_zero hk (by have:ev=e1+1:=hev.symm;omega)
       rw [if_neg hq0] at hnt;have hL:L≠[]:=by
        rintro rfl;have h1:(newB []).top=0:=rfl;omega
       have hB:=HI.out.sh.bs _ (newB_mem hL).1;obtain ⟨c1,c2,c3⟩:=bs_all H0.out hB;have hMl:(newB L).M=macsDo M0 (z.take q):=by rw [hB.m,htp,hzt]
       have htl:(newB L).t=(runC M0 (z.take q)).tail:=by rw [hB.t,htp,hzt]
       have hzq:(z.take q).length=q:=by rw [List.length_take,Hl.out.2];omega
       have hC:chOf q (newB L).t=some (tailC M0 (z.take q)):=by
        rw [htl];have h1:=tailC_of H0.out (z.take q) (by rw [hzq];have:=Hl.out.1;omega);rw [hzq] at h1;exact h1
       have hrE:readE (newB L).t (newB L).M 0=0:=by rw [htl,hMl];exact readE_ok H0.out (z.take q)
       obtain ⟨SX,hSX⟩:∃ S:ByteArray,(⟨(textB (newB L).t (newB L).M).toArray⟩:ByteArray)=S:=⟨_,rfl⟩;rw [hSX] at hnt;have Hnt:=Lib.hid (show Calls Tryz.prog 10 #[.pointer (some ⟨ps,0,none⟩)] wr fun e w'=>e=.returned (.tuple #[.int .u64 (q:Int),.string SX])∧Below wr.heap.size wr w' from hnt);have h60:=Hl.out.1;have hmul:IntKind.i64.wrap ((k:Int)*(ev:Int))=(q:Int):=by
        rw [← Int.natCast_mul,hq,IntKind.wrap_i64];omega
       have hqw:IntKind.u64.wrap (q:Int)=(q:Int):=by rw [IntKind.wrap_u64];omega
       have HPa:=Lib.hid (fun y:World=>(show Calls Tryz.prog 21 #[.int .u64 (q:Int),.string SX] y fun e w'=>∃ p3 v3 X3,e=.returned (.tuple #[.pointer (some ⟨p3,0,none⟩),.agg (macCells (macsDo M0 (z.take q)) X3.ptr).toArray,.int .i64 0])∧ChAt w' y.heap.size p3 v3 (tailC M0 (z.take q))∧TreeAt w' X3∧X3.sh=(macsDo M0 (z.take q)).sh∧Below y.heap.size y w' from by
        rw [← hSX];refine (lparse_any q (by omega) (newB L).t c3 (tailC M0 (z.take q)) hC (newB L).M c1 y).mono ?_;rintro e w' ⟨hb,Pc,M2,P2,rfl,_,hz2⟩;obtain ⟨rfl,⟨p3,v3,rfl,hch,_⟩,X3,rfl,hX3,hs3⟩:=hz2 hrE;refine ⟨p3,v3,X3,?_,hch,hX3,by rw [hs3,hMl],hb⟩;rw [hrE, ← hMl];rfl))
       have hkn:((k:Int) == 0)=false:=by rw [beq_eq_false_iff_ne];omega
       have hkn2 : ¬ (k:Int)=0:=by omega
       have Hq:=Lib.hid (And.intro hQ (And.intro hzq hq0));clear hnt htp hL hB c1 c2 c3 hMl htl hC hrE hSX hq hQ hzq hq0 h60 hlen hzt hk;go_upto_region 40 with (first
        | ((with_reducible refine Hnt.out.mono ?_);rintro e w9 ⟨rfl,h9⟩;have H9:=Lib.hid h9;clear h9)
        | ((with_reducible refine (HPa.out _).mono ?_);rintro e w10 ⟨p3,v3,X3,rfl,hch,hX3,hs3,hb10⟩;have H10:=Lib.hid (And.intro hch (And.intro hX3 (And.intro hs3 hb10)));clear hch hX3 hs3 hb10)
        | ((with_reducible refine wpList_store_mid rfl 38 _ _ rfl w10.heap.size 0 _ rfl rfl ?_ ?_ ?_ ?_);exact th_new w10 (macCells macNone none) 38;exact mac_size;exact all_oneCell_toArray (mac_one _ _)))
       change Code.wp _ _ _ _ ((w10.alloc (.cells (macCells macNone none).toArray 38)).setCells w10.heap.size 0 (macCells (macsDo M0 (z.take q)) X3.ptr));have hbx:=box_below w10 (macCells macNone none) (macCells (macsDo M0 (z.take q)) X3.ptr) 38;have HX:=Lib.hid (show MacAt _ _ (macsDo M0 (z.take q)) X3.ptr from box_row w10 (macCells macNone none) (macCells (macsDo M0 (z.take q)) X3.ptr) 38 rfl);have HC:=Lib.hid (And.intro (H10.out.1.below hbx) (And.intro (H10.out.2.1.below hbx) H10.out.2.2.1));have HBe:=Lib.hid (H9.out.trans ((H10.out.2.2.2.trans (hbx.mono H10.out.2.2.2.size)).mono H9.out.size));clear hbx H9 H10 Hnt HPa hmul hkn hkn2 hqw;generalize (w10.alloc (.cells (macCells macNone none).toArray 38)).setCells w10.heap.size 0 (macCells (macsDo M0 (z.take q)) X3.ptr)=w11 at *;generalize w10.heap.size=gx at *;obtain ⟨xs,hxs⟩:∃ x,A[q]?=some x:=⟨_,List.getElem?_eq_getElem (by rw [HI.out.al];have:=Hq.out.1;omega)⟩;obtain ⟨XT,hXT,hXp,hXs⟩:=HI.out.ats.t xs (List.mem_of_getElem? hxs);have hxm:=HI.out.ats.m q xs hxs;obtain ⟨B7,c7,hv7,_,_,hget⟩:=own_cell HI.out.row (by omega);subst hv7;have Hat:=Lib.hid (fun (y:World) (hy:Below wr.heap.size wr y)=>flat_range hxs (hget y hy));have hA2:MacAll (macsDo M0 (z.take q)):=macsDo_all _ H0.out;have hA3:MacAll xs.1:=by rw [hxm];exact hA2
       obtain ⟨TB,hTB⟩:∃ S:ByteArray,(⟨(macB (macsDo M0 (z.take q))).toArray⟩:ByteArray)=S:=⟨_,rfl⟩;have HBy1:=Lib.hid (fun (y:World) (hy:Below w11.heap.size w11 y)=>(show Calls Tryz.prog 19 #[.agg (macCells (macsDo M0 (z.take q)) X3.ptr).toArray] y fun e w'=>e=.returned (.string TB)∧Below y.heap.size y w' from by
        rw [← hTB];exact mbytes_any (macsDo M0 (z.take q)) X3 (macFit_by hA2.fit) y (HC.out.2.1.below hy) HC.out.2.2))
       have HBy2:=Lib.hid (fun (y:World) (hy:Below w11.heap.size w11 y)=>(show Calls Tryz.prog 19 #[.agg (macCells xs.1 xs.2).toArray] y fun e w'=>e=.returned (.string TB)∧Below y.heap.size y w' from by
        rw [← hTB,hXp, ← hxm];exact mbytes_any xs.1 XT (macFit_by hA3.fit) y (hXT.below (HBe.out.trans (hy.mono HBe.out.size))) hXs))
       have htc:=tailC_len M0 (z.take q);have HTp:=Lib.hid (fun (y:World) (hy:Below w11.heap.size w11 y)=>(show Calls Tryz.prog 22 #[.pointer (some ⟨p3,0,none⟩)] y fun e w'=>e=.returned (.int .u64 (q:Int))∧Below y.heap.size y w' from by
        have q2:=top_any _ p3 v3 (tailC M0 (z.take q)) htc.1 (by rw [htc.2.2,Hq.out.2.1];have:=Hq.out.1;have:=Hl.out.1;omega) y (HC.out.1.below hy);rw [tailC_top,Hq.out.2.1] at q2;exact q2))
       have hsb:(q:Int)<(i:Int)+1:=by have:=Hq.out.1;omega
       have hs00 : ¬ (q:Int)<0:=by omega
       have heq0:((0:Int) == 0)=true:=rfl;clear hxs hXT hXp hXs hxm hget hA2 hA3 hTB htc;refine (wpIn_wide (n:=1)).1 ?_;refine RegJ.wpIn_region_plan (F:=Fence.wide) (KeptW w11) (.step 0 0 (.step 1 0 (.step 2 0 (.step 3 0 (.step 4 0 (.step 5 0 (.step 6 0 (.step 7 0 (.step 9 0 (.step 8 1 (.step 10 0 (.step 11 0 (.step 12 0 (.step 13 0 (.step 15 0 (.step 16 0 (.step 17 0 (.step 18 0 (.step 14 1 (.step 19 1 (.step 20 0 (.step 21 0 (.step 22 0 (.step 23 1 (.step 24 0 (.step 25 0 .nil)))))))))))))))))))))))))) (by kernel_rfl) (by kernel_rfl) (by kernel_rfl) (fun _ _ d _ _ h=>by cases d <;> exact h) ⟨rfl,rfl,rfl,Nat.le_refl _,fun _ _=>rfl⟩ ?_;dsimp only [RegJ.pickJ,List.getElem?_cons_zero,List.getElem?_cons_succ];change RegJ.Can _ _ _ _ _ _ _ _ w11.drew;have hkd:KeptW w11 w11.drew:=⟨rfl,rfl,rfl,Nat.le_refl _,fun _ _=>rfl⟩;generalize w11.drew=v1 at *;iterate 9 (refine RegJ.reads ?_;intro K hK;go_simp;(first | refine ⟨_,fun _ _=>rfl,hK _ ?_⟩ | refine hK _ ?_);clear hK K)
       refine RegJ.turns (fun _=>trivial) ?_;intro K K0 hK hK0;go_simp;refine ⟨trivial,?_⟩;refine (callsIn_wide.2 (HTp.out v1 (KeptW.bel hkd))).mono ?_;rintro e v2 ⟨rfl,hb7⟩;have v2k:KeptW w11 v2:=KeptW.mono hkd hb7;refine hK _ _ _ (fun _ h=>h) v2k ?_;clear hK K hK0 K0;iterate 3 (refine RegJ.reads ?_;intro K hK;go_simp;(first | refine ⟨_,fun _ _=>rfl,hK _ ?_⟩ | refine hK _ ?_);clear hK K)
       refine RegJ.reads ?_;intro K hK;rw [if_pos (by first | (simp [Region.wanted];done) | (go_simp;done))];refine ⟨.agg (macCells (macsDo M0 (z.take q)) X3.ptr).toArray,fun y hy=>exec_load rfl rfl (row_loadAt (P:=Tryz.prog) (cs:=macCells (macsDo M0 (z.take q)) X3.ptr) (HX.out.below (KeptW.bel hy)) Tryz.underlying38 rfl (mac_size2 _ _)),hK _ ?_⟩;clear hK K;go_simp;iterate 3 (refine RegJ.reads ?_;intro K hK;go_simp;(first | refine ⟨_,fun _ _=>rfl,hK _ ?_⟩ | refine hK _ ?_);clear hK K)
       refine RegJ.reads ?_;intro K hK;rw [if_pos (by first | (simp [Region.wanted];done) | (go_simp;done))];refine ⟨.agg (macCells xs.1 xs.2).toArray,fun y hy=>exec_load rfl rfl (run_loadAt_mid y B7 (q*15) 38 (macCells xs.1 xs.2) _ (Hat.out y (HBe.out.trans ((KeptW.bel hy).mono HBe.out.size))) Tryz.underlying38 rfl (mac_size2 _ _)),hK _ ?_⟩;clear hK K;go_simp;refine RegJ.turns (fun _=>trivial) ?_;intro K K0 hK hK0;go_simp;refine ⟨trivial,?_⟩;refine (callsIn_wide.2 (HBy1.out v2 (KeptW.bel v2k))).mono ?_;rintro e v3 ⟨rfl,hb7⟩;have v3k:KeptW w11 v3:=KeptW.mono v2k hb7;refine hK _ _ _ (fun _ h=>h) v3k ?_;clear hK K hK0 K0;refine RegJ.turns (fun _=>trivial) ?_;intro K K0 hK hK0;go_simp;refine ⟨trivial,?_⟩;refine (callsIn_wide.2 (HBy2.out v3 (KeptW.bel v3k))).mono ?_;rintro e v4 ⟨rfl,hb7⟩;have v4k:KeptW w11 v4:=KeptW.mono v3k hb7;refine hK _ _ _ (fun _ h=>h) v4k ?_;clear hK K hK0 K0;iterate 3 (refine RegJ.reads ?_;intro K hK;go_simp;(first | refine ⟨_,fun _ _=>rfl,hK _ ?_⟩ | refine hK _ ?_);clear hK K)
       refine RegJ.turns (fun _=>trivial) ?_;intro K K0 hK hK0;go_simp;refine ⟨trivial,?_⟩;refine (callsIn_wide.2 (Hwk.out v4)).mono ?_;rintro e v5 ⟨rfl,hb7⟩;have v5k:KeptW w11 v5:=KeptW.mono v4k hb7;refine hK _ _ _ (fun _ h=>h) v5k ?_;clear hK K hK0 K0;iterate 2 (refine RegJ.reads ?_;intro K hK;go_simp;(first | refine ⟨_,fun _ _=>rfl,hK _ ?_⟩ | refine hK _ ?_);clear hK K)
       refine RegJ.nil ?_;go_wp2_with fail;go_ret;exact ⟨rfl,HI.out.bel.trans ((HBe.out.trans ((KeptW.bel v5k).mono HBe.out.size)).mono HI.out.bel.size)⟩
theorem lt_u8 {n:Int} (h:(Lit.int .u8 n).wf=true):∃ x:Nat,n=(x:Int)∧x<256:=by
 have h':0≤n∧n≤255:=by simpa [Lit.wf,IntKind.min,IntKind.max,IntKind.signed,IntKind.bits] using h
 exact ⟨n.toNat,by omega,by omega⟩
theorem leads_row (n0 n1:Int) (a:Option Addr) (l cap:Nat) (z:List CmdV) (n3:Int) {w:World} (f0:(Lit.int .u8 n0).wf=true) (f1:(Lit.int .u8 n1).wf=true) (hz:CmdsAt w a l z) (f3:(Lit.int .u8 n3).wf=true) (_W:World) :
  Calls Tryz.prog 5 #[.int .u8 n0,.int .u8 n1,.slice a l cap,.int .u8 n3] w fun e w'=>e=.returned (.bool true)∧Below w.heap.size w w':=by
 obtain ⟨x0,rfl,h0⟩:=lt_u8 f0;obtain ⟨x1,rfl,h1⟩:=lt_u8 f1;obtain ⟨x3,rfl,h3⟩:=lt_u8 f3;exact leads_any x0 x1 x3 h0 h1 h3 a l cap z w hz
end Go.Proofs.YtbckjgageofldaaGreat
