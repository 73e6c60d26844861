/- Chains: LearnRefuses. Condition: the chain lies there. -/
import Derived.Test.YtbckjgageofldaaGreatZLearnRefuses28
import Derived.Test.YtbckjgageofldaaGreatZLearnRefuses6
import Derived.Test.YtbckjgageofldaaGreatZLearnRefuses8
set_option maxRecDepth 100000
set_option maxHeartbeats 16000000
namespace Go.Proofs.YtbckjgageofldaaGreat
open Go.RowKit
theorem cmd_range {w y:World} {a:Option Addr} {l:Nat} {z:List CmdV} (h:CmdsAt w a l z) {i:Nat} (hi:i<l) (hy:Below w.heap.size w y):∃ b o c,a=some ⟨b,o,none⟩∧z[i]?=some c∧z.take (i+1)=z.take i++[c]∧y.rangeAt b (o+i*7) (cmdCells c):=by
 have hl:=h.hlen;have hi2:i<z.length:=by omega
 obtain ⟨b,o,e,_,hc⟩:=(h.below hy).cells i z[i] (List.getElem?_eq_getElem hi2);refine ⟨b,o,z[i],e,List.getElem?_eq_getElem hi2,List.take_succ_eq_append_getElem hi2,fun j v hv=>?_⟩;have q:=hc j v hv;rw [← Nat.add_assoc] at q;exact q
theorem cmd_size2 (c:CmdV):(Tryz.prog.info? 56).map (·.size)=some (cmdCells c).length:=cmd_size
structure LfI (w0 w:World) (cb g ps:Nat) (M0:MacV) (p:Nat) (l:List CmdV) (R:RnV) (T:Tr) (cv:Value) (zk:List KeptV) (sv:Value) (L:List BsV):Prop where
 run:RunS w cb g M0 l R T p cv zk
 sh:ShI w ps ps sv M0 l L
 top:(newB L).top=l.length
 bel:Below w0.heap.size w0 w
 sz:cb≤w.heap.size
 ps:ps≤w.heap.size
theorem keep_top (L:List BsV) (b:BsV):(newB (keep3 (L++[b]))).top=b.top:=by rw [newB_keep]
def FolP (l fr n kk:Nat) (w:World) (e:Ending) (w':World):Prop:=∃ Pc M2 P2 k,e=.returned (.tuple #[.pointer Pc,.agg (macCells M2 P2).toArray,.int .i64 ((k:Nat):Int)])∧Below w.heap.size w w'∧(l≤n→k=2∧Pc=none)∧(n<l→kk=12→k=0∧∃ q,Pc=some q)∧(n<l→kk=13→n≠fr→k=13∧Pc=none)
theorem lead_two {L:List BsV} {fr:Nat} (h:fr<(newB L).top):(∃ b,b ∈ L∧leadV L fr=(⟨13,fr,(newB L).top,leadB (newB L).t b.M (newB L).M⟩,true))∨leadV L fr=(⟨12,0,(newB L).top,textB (newB L).t (newB L).M⟩,true):=by
 unfold leadV;rw [if_neg (by omega)];cases hf:L.find? (fun b=>b.top == fr) with
 | none=>exact .inr rfl
 | some b=>exact .inl ⟨b,List.mem_of_find?_eq_some hf,rfl⟩
theorem fol_all {w y:World} {cb g ps p:Nat} {M0:MacV} {l:List CmdV} {R:RnV} {T:Tr} {cv sv:Value} {zk:List KeptV} {L:List BsV} (h0:MacAll M0) (hl:l.length≤100) (hI:LfI w y cb g ps M0 p l R T cv zk sv L) {fr n:Nat} (hfr:fr<l.length) {m:LmV} (hm:(leadV L fr).1=m) {x:World} (hx:Below y.heap.size y x) :
  m.s=l.length∧(m.k=12∨m.k=13)∧Calls Tryz.prog 18 #[.int .u64 (n:Int),.agg (macCells R.M R.P).toArray,.agg (lmCells m).toArray] x (FolP l.length fr n m.k x):=by
 have htop:=hI.top;have hL:L≠[]:=by
  rintro rfl;have:(newB []).top=0:=rfl;omega
 obtain ⟨hmem,_⟩:=newB_mem hL;have hB:=hI.sh.bs _ hmem;obtain ⟨c1,c2,c3⟩:=bs_all h0 hB;have hMl:(newB L).M=macsDo M0 l:=by rw [hB.m,htop,List.take_length]
 have htl:(newB L).t=(runC M0 l).tail:=by rw [hB.t,htop,List.take_length]
 have hC:chOf l.length (newB L).t=some (tailC M0 l):=by rw [htl];exact tailC_of h0 l (by omega)
 have hA:MacAll R.M:=by rw [hI.run.m];exact macsDo_all _ h0
 have hT:TreeAt x T:=hI.run.ri.t.below hx;have hrE:readE (newB L).t (newB L).M 0=0:=by rw [htl,hMl];exact readE_ok h0 l
 rw [hI.run.ri.tp];rcases lead_two (L:=L) (fr:=fr) (by omega) with ⟨b,hb,e⟩ | e
 ·
  rw [e] at hm;dsimp only at hm;subst hm;refine ⟨htop,.inr rfl,?_⟩;by_cases hln:l.length≤n
  ·
   refine (follow_arg13 n R.M T ⟨13,fr,(newB L).top,leadB (newB L).t b.M (newB L).M⟩ rfl (by show (newB L).top≤n;omega) x hT).mono ?_;rintro e w' ⟨rfl,hb⟩;exact ⟨none,macNone,none,2,rfl,hb,fun _=>⟨rfl,rfl⟩,fun h=>absurd hln (by omega),fun h=>absurd hln (by omega)⟩
  ·
   by_cases hnf:n=fr
   ·
    obtain ⟨b1,b2,b3⟩:=bs_all h0 (hI.sh.bs _ hb);have q:=follow_delta n R.M T ⟨13,fr,(newB L).top,leadB (newB L).t b.M (newB L).M⟩ hA hI.run.ri.ts rfl (by show n<(newB L).top;omega) hnf.symm (by show (newB L).top<_;omega) (newB L).t (diffM b.M (newB L).M) c3 (by have:=lead_len b1 c1;omega) (tailC M0 l) (by show chOf (newB L).top _=_;rw [htop];exact hC) rfl x hT;refine q.mono ?_;rintro e w' ⟨hb,Pc,M2,P2,rfl,_⟩;exact ⟨Pc,M2,P2,_,rfl,hb,fun h=>absurd h hln,fun _ h=>(by cases h),fun _ _ h=>absurd hnf h⟩
   ·
    refine (follow_state n R.M T ⟨13,fr,(newB L).top,leadB (newB L).t b.M (newB L).M⟩ rfl (by show n<(newB L).top;omega) (fun h=>hnf h.symm) x hT).mono ?_;rintro e w' ⟨rfl,hb⟩;exact ⟨none,macNone,none,13,rfl,hb,fun h=>absurd h hln,fun _ h=>(by cases h),fun _ _ _=>⟨rfl,rfl⟩⟩
 ·
  rw [e] at hm;dsimp only at hm;subst hm;refine ⟨htop,.inl rfl,?_⟩;by_cases hln:l.length≤n
  ·
   refine (follow_arg12 n R.M T ⟨12,0,(newB L).top,textB (newB L).t (newB L).M⟩ rfl (by show (newB L).top≤n;omega) x hT).mono ?_;rintro e w' ⟨rfl,hb⟩;exact ⟨none,macNone,none,2,rfl,hb,fun _=>⟨rfl,rfl⟩,fun h=>absurd hln (by omega),fun h=>absurd hln (by omega)⟩
  ·
   have q:=follow_snap n R.M T ⟨12,0,(newB L).top,textB (newB L).t (newB L).M⟩ rfl (by show n<(newB L).top;omega) (by show (newB L).top<_;omega) (newB L).t c3 (tailC M0 l) (by show chOf (newB L).top _=_;rw [htop];exact hC) (newB L).M c1 rfl x hT;refine q.mono ?_;rintro e w' ⟨hb,Pc,M2,P2,rfl,_,hz⟩;obtain ⟨_,⟨p3,v3,rfl,_,_⟩,_⟩:=hz hrE;exact ⟨_,M2,P2,_,rfl,hb,fun h=>absurd h hln,fun _ _=>⟨hrE,_,rfl⟩,fun _ h=>(by cases h)⟩
theorem rf_sets:mayS 7 127=true:=by decide +kernel
theorem refuses_any (a:Option Addr) (l cap:Nat) (z:List CmdV) (fr n:Nat) (_:fr<18446744073709551616) (_:n<18446744073709551616) (w:World) (hz:CmdsAt w a l z) :
  Calls Tryz.prog 4 #[.slice a l cap,.int .u64 (fr:Int),.int .u64 (n:Int)] w fun e w'=>e=.returned (.bool true)∧Below w.heap.size w w':=by
 have Hwk:=Lib.hid lwakes_any;have Hgr:=Lib.hid (fun y:World=>fun h=>kgreat_any a l cap z y h);have Hz:=Lib.hid hz;have hlz:=hz.hlen;obtain ⟨gb,hgb⟩:∃ b,kgreatS z=b:=⟨_,rfl⟩;rw [hgb] at Hgr;have Hgr2:=Lib.hid (Hgr.out w hz);clear Hgr hz;cases gb with
 | true =>
  clear hgb hlz;go_enter Tryz.func4,Tryz.ntmps4
  go_wp2_with (first
   | ((with_reducible refine Hgr2.out.mono ?_);rintro e w1 ⟨rfl,rfl⟩)
   | ((with_reducible refine (Hwk.out _).mono ?_);rintro e w2 ⟨rfl,h2⟩;have H2:=Lib.hid h2;clear h2))
  go_ret;exact ⟨rfl,H2.out⟩
 | false =>
  have hgo:=kgreat_ok hgb;clear hgb;by_cases hbig:60<l
  ·
   have hbig2:(60:Int)<(l:Int):=by omega
   clear hbig hgo;go_enter Tryz.func4,Tryz.ntmps4
   go_wp2_with (first
    | ((with_reducible refine Hgr2.out.mono ?_);rintro e w1 ⟨rfl,rfl⟩)
    | ((with_reducible refine (Hwk.out _).mono ?_);rintro e w2 ⟨rfl,h2⟩;have H2:=Lib.hid h2;clear h2))
   go_ret;exact ⟨rfl,H2.out⟩
  ·
   have hbig2 : ¬ (60:Int)<(l:Int):=by omega
   have Hl:=Lib.hid (show l≤60∧z.length=l by omega);clear hbig hgo hlz;obtain ⟨M0,hM0⟩:∃ M,newM 127 7=M:=⟨_,rfl⟩;have h0:MacAll M0:=by rw [← hM0];exact newAll (by omega) rf_sets
   have hbe:=fun y:World=>lbegun_is 127 7 (by omega) (by omega) rf_sets y
   rw [hM0] at hbe;have Hbe:=Lib.hid (show ∀ y:World,Calls Tryz.prog 8 #[.int .u8 127,.int .u8 7] y (BegPost M0 y) from hbe);have Hnew:=Lib.hid lnew_any;have H0:=Lib.hid h0;clear hbe h0 hM0;go_enter Tryz.func4,Tryz.ntmps4
   go_upto_region 6 with (first
    | ((with_reducible refine Hgr2.out.mono ?_);rintro e w1 ⟨rfl,rfl⟩)
    | ((with_reducible refine (Hbe.out _).mono ?_);rintro e w2 ⟨R0,p,cv0,rfl,hM,hI,hr,hp,hb⟩;have H2:=Lib.hid (And.intro hM (And.intro hI (And.intro hr (And.intro hp hb))));clear hM hI hr hp hb;unfold rnV)
    | ((with_reducible refine wpList_store_mid rfl 48 _ _ rfl w2.heap.size 0 _ rfl rfl ?_ ?_ ?_ ?_);exact th_new w2 (rnCells rn0) 48;exact rn_size rn0;exact all_oneCell_toArray (rn_one R0 (slice_one _ H2.out.2.1.rv))))
   change Code.wp _ _ _ _ ((w2.alloc (.cells (rnCells rn0).toArray 48)).setCells w2.heap.size 0 (rnCells R0));have hb3:=box_below w2 (rnCells rn0) (rnCells R0) 48;have hr3:RnAt _ _ R0:=box_row w2 (rnCells rn0) (rnCells R0) 48 rfl;have hbB:=H2.out.2.2.2.2.trans (hb3.mono H2.out.2.2.2.2.size);have HR3:=Lib.hid (begun_run H2.out.1 (H2.out.2.1.below hb3) H2.out.2.2.1 hr3);have HB3:=Lib.hid hbB;have Hg3:=Lib.hid (And.intro H2.out.2.2.2.2.size H2.out.2.2.2.1);clear hb3 hr3 hbB H2 Hbe Hgr2;generalize (w2.alloc (.cells (rnCells rn0).toArray 48)).setCells w2.heap.size 0 (rnCells R0)=w3 at *;generalize hgr:w2.heap.size=g at *
   clear hgr;go_upto_region 8 with ((with_reducible refine (Hnew.out _).mono ?_);rintro e w4 ⟨rfl,hs4,hb4⟩;have H4:=Lib.hid (And.intro hs4 hb4);clear hs4 hb4)
   have HI:=Lib.hid (show LfI w w4 w.heap.size g w3.heap.size M0 p (z.take 0) R0 .nil cv0 [] (.slice none 0 0) [] from
    ⟨HR3.out.below H4.out.2,⟨H4.out.1,by simp,List.Pairwise.nil,fun b hb=>by cases hb⟩,rfl,HB3.out.trans (H4.out.2.mono HB3.out.size),Nat.le_trans HB3.out.size H4.out.2.size,H4.out.2.size⟩)
   have Hps:=Lib.hid HB3.out.size;clear HR3 HB3 H4 Hnew;generalize w3.heap.size=ps at *;go_loopw [10] (fun s10 wr=>∃ (i:Nat) (R:RnV) (T:Tr) (cv:Value) (zk:List KeptV) (sv:Value) (L:List BsV),i≤l∧s10=.int .i64 (i:Int)∧LfI w wr w.heap.size g ps M0 p (z.take i) R T cv zk sv L) (fun s10 _=>l - (intOf s10).toNat)
   case atStart=>exact ⟨0,R0,.nil,cv0,[],.slice none 0 0,[],Nat.zero_le _,rfl,HI.out⟩
   case round =>
    obtain ⟨i,R,T,cv,zk,sv,L,hi,rfl,hI⟩:=hrel;clear HI;have HI:=Lib.hid hI;clear hI;have hlen:(z.take i).length=i:=by rw [List.length_take,Hl.out.2];omega
    by_cases hlt:i<l
    ·
     have hlt':(i:Int)<(l:Int):=by omega
     have hlt0 : ¬ (i:Int)<0:=by omega
     have hsucc:=tsucc (n:=i) (by have:=Hl.out.1;omega);obtain ⟨b,o,c,rfl,hc,htk,hrg⟩:=cmd_range Hz.out hlt HI.out.bel;have Hrg:=Lib.hid hrg;have hd:=does_run H0.out HI.out.sz (by rw [hlen];have:=Hl.out.1;omega) HI.out.run c;rw [← htk] at hd;have Hd:=Lib.hid hd;have Hlen:=Lib.hid (And.intro hlen (And.intro htk hlt));clear hd hrg hc htk hlen;go_upto_region 11 with (first
      | (with_reducible refine wpList_load_mid rfl 56 _ rfl b (o+i*7) rfl (cmdCells c) _ Hrg.out Tryz.underlying56 rfl (cmd_size2 c) ?_)
      | ((with_reducible refine Hd.out.mono ?_);rintro e w5 ⟨R1,T1,cv1,z1,rfl,hr5,hs5,hn5⟩;have H5:=Lib.hid (And.intro hr5 (And.intro hs5 hn5));clear hr5 hs5 hn5))
     have HR5:=Lib.hid H5.out.1;have hsh5:=(HI.out.sh.sorts H5.out.2.1 (by decide) (by decide) (by decide)).more c;rw [← Hlen.out.2.1] at hsh5;have hb5:Below w.heap.size w w5:=HI.out.bel.trans (H5.out.2.2 _ HI.out.bel.size Hg3.out.1 Hg3.out.2 (Nat.le_refl _));have hl5:(z.take (i+1)).length=i+1:=by rw [List.length_take,Hl.out.2];have:=Hlen.out.2.2;omega
     have hsz5:=Nat.le_trans HI.out.ps H5.out.2.1.size;have hcb5:=Nat.le_trans HI.out.sz H5.out.2.1.size;have hp5:=put_new H0.out HR5.out.ri HR5.out.m hsh5 (by rw [HI.out.top,hl5,Hlen.out.1];omega) hsz5 (by rw [hl5];have:=Hl.out.1;omega);have Hp5:=Lib.hid hp5;have Hx5:=Lib.hid (And.intro hb5 (And.intro hl5 (And.intro hsz5 hcb5)));have f15:w5.cell? ⟨g,15,none⟩=some (.pointer R1.c):=cell_of_row _ _ _ _ _ _ (show w5.heap[g]?=some (.cells (rnCells R1).toArray _ (0,0)) from HR5.out.at_);have Hrl5:=Lib.hid (rn_there15 HR5.out.at_);clear hp5 hsh5 hb5 hl5 hsz5 hcb5 H5 Hd Hrg;go_wp2_with (first
      | (with_reducible refine wpList_load_mid rfl 38 _ rfl g 0 rfl (macCells R1.M R1.P) _ Hrl5.out Tryz.underlying38 rfl (mac_size2 _ _) ?_)
      | ((with_reducible refine Hp5.out.mono ?_);rintro e w6 ⟨sv6,rfl,hsh6,hst6,hn6⟩;have H6:=Lib.hid (And.intro hsh6 (And.intro hst6 hn6));clear hsh6 hst6 hn6))
     go_roundw
     case rel =>
      have hI6:LfI w w6 w.heap.size g ps M0 p (z.take (i+1)) R1 T1 cv1 z1 sv6 (keep3 (L++[⟨R1.M,R1.P,(z.take (i+1)).length,(runC M0 (z.take (i+1))).tail⟩])) :=
       ⟨HR5.out.sorts H6.out.2.1 (by decide) (by decide),H6.out.1,keep_top _ _,Hx5.out.1.trans (H6.out.2.2 _ Hx5.out.1.size Hps.out Hps.out),Nat.le_trans Hx5.out.2.2.2 H6.out.2.1.size,Nat.le_trans Hx5.out.2.2.1 H6.out.2.1.size⟩
      exact ⟨i+1,_,_,_,_,_,_,by have:=Hlen.out.2.2;omega,rfl,hI6⟩
     case measure =>
      simp only [intOf];omega
    ·
     have hlt' : ¬ (i:Int)<(l:Int):=by omega
     have hil:i=l:=by omega
     subst hil;have hzt:z.take i=z:=by rw [← Hl.out.2,List.take_length]
     have hI2:=HI.out;rw [hzt] at hI2;have HI2:=Lib.hid hI2;have hzl:z.length=i:=Hl.out.2;have Hzl:=Lib.hid hzl;clear HI hzt hlen hi hlt hI2 hzl;by_cases hfl:i≤fr
     ·
      have hlv:leadV L fr=(lm0,false):=by unfold leadV;rw [if_pos (by rw [HI2.out.top,Hzl.out];exact hfl)]
      have hld:=lead_any H0.out HI2.out.sh (by rw [Hzl.out];have:=Hl.out.1;omega) fr;rw [hlv] at hld;have Hld:=Lib.hid (show Calls Tryz.prog 9 #[.pointer (some ⟨ps,0,none⟩),.int .u64 (fr:Int)] wr fun e w'=>e=.returned (.tuple #[.agg (lmCells lm0).toArray,.bool false])∧Below wr.heap.size wr w' from hld);have hcv:IntKind.u64.wrap (i:Int)=(i:Int):=by rw [IntKind.wrap_u64];have:=Hl.out.1;omega
      have hge:(i:Int)≤(fr:Int):=by omega
      clear hlv hld hfl;go_wp2_with (first
       | ((with_reducible refine Hld.out.mono ?_);rintro e w9 ⟨rfl,h9⟩;have H9:=Lib.hid h9;clear h9)
       | ((with_reducible refine wpList_store_mid rfl 58 _ _ rfl w9.heap.size 0 _ rfl rfl ?_ ?_ ?_ ?_);exact th_new w9 (lmCells lm0) 58;exact lm_size;exact all_oneCell_toArray (lm_one lm0))
       | ((with_reducible refine (Hwk.out _).mono ?_);rintro e w12 ⟨rfl,h12⟩;have H12:=Lib.hid h12;clear h12))
      go_ret;refine ⟨rfl,?_⟩;have hbx:=box_below w9 (lmCells lm0) (lmCells lm0) 58;have hb9:=H9.out.trans (hbx.mono H9.out.size);have hb10:=HI2.out.bel.trans (hb9.mono HI2.out.bel.size);exact hb10.trans (H12.out.mono hb10.size)
     ·
      have hfl2:fr<z.length:=by rw [Hzl.out];omega
      have hnt : ¬ (newB L).top≤fr:=by rw [HI2.out.top];omega
      obtain ⟨m,hm⟩:∃ m,(leadV L fr).1=m:=⟨_,rfl⟩;have hm2:(leadV L fr).2=true:=by
       rcases lead_two (L:=L) (fr:=fr) (by omega) with ⟨b,_,e⟩ | e <;> rw [e]
      have hld:=lead_any H0.out HI2.out.sh (by rw [Hzl.out];have:=Hl.out.1;omega) fr;rw [hm,hm2] at hld;have Hld:=Lib.hid (show Calls Tryz.prog 9 #[.pointer (some ⟨ps,0,none⟩),.int .u64 (fr:Int)] wr fun e w'=>e=.returned (.tuple #[.agg (lmCells m).toArray,.bool true])∧Below wr.heap.size wr w' from hld);have Hfa:=Lib.hid (fun (x:World) (hx:Below wr.heap.size wr x)=>fol_all H0.out (by rw [Hzl.out];have:=Hl.out.1;omega) HI2.out hfl2 (n:=n) hm hx);clear hld hm2 hm hnt hfl hfl2;go_upto_region 16 with (first
       | ((with_reducible refine Hld.out.mono ?_);rintro e w9 ⟨rfl,h9⟩;have H9:=Lib.hid h9;clear h9)
       | ((with_reducible refine wpList_store_mid rfl 58 _ _ rfl w9.heap.size 0 _ rfl rfl ?_ ?_ ?_ ?_);exact th_new w9 (lmCells lm0) 58;exact lm_size;exact all_oneCell_toArray (lm_one m)))
      change Code.wp _ _ _ _ ((w9.alloc (.cells (lmCells lm0).toArray 58)).setCells w9.heap.size 0 (lmCells m));have hbx:=box_below w9 (lmCells lm0) (lmCells m) 58;have HX:=Lib.hid (show LmAt _ _ m from box_row w9 (lmCells lm0) (lmCells m) 58 rfl);have HB10:=Lib.hid (H9.out.trans (hbx.mono H9.out.size));clear hbx H9 Hld;generalize (w9.alloc (.cells (lmCells lm0).toArray 58)).setCells w9.heap.size 0 (lmCells m)=w10 at *;generalize w9.heap.size=gx at *;obtain ⟨hms,hmk,hfo⟩:=Hfa.out w10 HB10.out;have Hfo:=Lib.hid hfo;have Hms:=Lib.hid (show m.s=i by rw [hms];exact Hzl.out);have Hmk:=Lib.hid hmk;have Hrl:=Lib.hid (rn_there15 (HI2.out.run.at_.below HB10.out));have Hrm:=Lib.hid (show w10.rangeAt gx 0 (lmCells m) from range_row HX.out);clear hfo hms hmk Hfa;go_upto_region 17 with (first
       | (with_reducible refine wpList_load_mid rfl 38 _ rfl g 0 rfl (macCells R.M R.P) _ Hrl.out Tryz.underlying38 rfl (mac_size2 _ _) ?_)
       | (with_reducible refine wpList_load_mid rfl 58 _ rfl gx 0 rfl (lmCells m) _ Hrm.out Tryz.underlying58 rfl (lm_size2 _) ?_)
       | ((with_reducible refine Hfo.out.mono ?_);rintro e w11 ⟨Pc,M2,P2,k,rfl,h11,h12,h13,h14⟩;have H11:=Lib.hid (And.intro h11 (And.intro h12 (And.intro h13 h14)));clear h11 h12 h13 h14)
       | ((with_reducible refine wpList_store_mid rfl 38 _ _ rfl w11.heap.size 0 _ rfl rfl ?_ ?_ ?_ ?_);exact th_new w11 (macCells macNone none) 38;exact mac_size;exact all_oneCell_toArray (mac_one M2 P2)))
      change Code.wp _ _ _ _ ((w11.alloc (.cells (macCells macNone none).toArray 38)).setCells w11.heap.size 0 (macCells M2 P2));have hbx:=box_below w11 (macCells macNone none) (macCells M2 P2) 38;have hb1:=H11.out.1.trans (hbx.mono H11.out.1.size);have HX12:=Lib.hid (HX.out.below hb1);have HB12:=Lib.hid (HI2.out.bel.trans ((HB10.out.trans (hb1.mono HB10.out.size)).mono HI2.out.bel.size));have HK:=Lib.hid (show (i≤n→k=2∧Pc=none)∧(n<i→m.k=12→k=0∧∃ q,Pc=some q)∧(n<i→m.k=13→n≠fr→k=13∧Pc=none) by rw [← Hzl.out];exact H11.out.2);clear hbx hb1 H11 HX HB10 Hrl Hrm Hfo HI2;generalize (w11.alloc (.cells (macCells macNone none).toArray 38)).setCells w11.heap.size 0 (macCells M2 P2)=w12 at *;generalize w11.heap.size=gn at *;have f4:w12.cell? ⟨gx,4,none⟩=some (.int .u64 (i:Int)):=by rw [← Hms.out];exact cell_of_row _ _ _ _ _ _ HX12.out
      by_cases hin:i≤n
      ·
       obtain ⟨rfl,rfl⟩:=HK.out.1 hin;have hle:(i:Int)≤(n:Int):=by omega
       clear hin;go_wp2_with ((with_reducible refine (Hwk.out _).mono ?_);rintro e w13 ⟨rfl,h13⟩;have H13:=Lib.hid h13;clear h13);go_ret;exact ⟨rfl,HB12.out.trans (H13.out.mono HB12.out.size)⟩
      ·
       have hle : ¬ (i:Int)≤(n:Int):=by omega
       rcases Hmk.out with hk | hk
       ·
        obtain ⟨rfl,q,rfl⟩:=HK.out.2.1 (by omega) hk;have f0:w12.cell? ⟨gx,0,none⟩=some (.int .u8 12):=by
         have e:(.int .u8 12:Value)=.int .u8 (m.k:Int):=by rw [hk];rfl
         rw [e];exact cell_of_row _ _ _ _ _ _ HX12.out
        clear hk hin;go_wp2_with ((with_reducible refine (Hwk.out _).mono ?_);rintro e w13 ⟨rfl,h13⟩;have H13:=Lib.hid h13;clear h13);go_ret;exact ⟨rfl,HB12.out.trans (H13.out.mono HB12.out.size)⟩
       ·
        have f0:w12.cell? ⟨gx,0,none⟩=some (.int .u8 13):=by
         have e:(.int .u8 13:Value)=.int .u8 (m.k:Int):=by rw [hk];rfl
         rw [e];exact cell_of_row _ _ _ _ _ _ HX12.out
        by_cases hnf:n=fr
        ·
         have heq:((n:Int) == (fr:Int))=true:=by rw [beq_iff_eq];omega
         clear hk hin hnf;go_wp2_with ((with_reducible refine (Hwk.out _).mono ?_);rintro e w13 ⟨rfl,h13⟩;have H13:=Lib.hid h13;clear h13);go_ret;exact ⟨rfl,HB12.out.trans (H13.out.mono HB12.out.size)⟩
        ·
         have heq:((n:Int) == (fr:Int))=false:=by rw [beq_eq_false_iff_ne];omega
         obtain ⟨rfl,rfl⟩:=HK.out.2.2 (by omega) hk hnf;clear hk hin hnf;go_wp2_with ((with_reducible refine (Hwk.out _).mono ?_);rintro e w13 ⟨rfl,h13⟩;have H13:=Lib.hid h13;clear h13);go_ret;exact ⟨rfl,HB12.out.trans (H13.out.mono HB12.out.size)⟩
theorem refuses_row (a:Option Addr) (l cap:Nat) (z:List CmdV) (n1 n2:Int) {w:World} (hz:CmdsAt w a l z) (f1:(Lit.int .u64 n1).wf=true) (f2:(Lit.int .u64 n2).wf=true) (_W:World) :
  Calls Tryz.prog 4 #[.slice a l cap,.int .u64 n1,.int .u64 n2] w fun e w'=>e=.returned (.bool true)∧Below w.heap.size w w':=by
 obtain ⟨x1,rfl,h1⟩:=lt_u64 f1;obtain ⟨x2,rfl,h2⟩:=lt_u64 f2;exact refuses_any a l cap z x1 x2 h1 h2 w hz
theorem csame_any (ca pa cb pb:Nat) (va vb:Value) (A B:ChV) (n:Nat) (hn:n≤1000000) (hA:0<A.D.length) (hB:0<B.D.length) (hAl:A.low+A.D.length≤1000000) (hBl:B.low+B.D.length≤1000000) (hat:∀ s,n<s→A.at_ s=B.at_ s) (htop:A.top=B.top) (w:World) (ha:ChAt w ca pa va A) (hb:ChAt w cb pb vb B) :
  Calls Tryz.prog 20 #[.pointer (some ⟨pa,0,none⟩),.pointer (some ⟨pb,0,none⟩),.int .u64 (n:Int)] w fun e w'=>e=.returned (.bool true)∧Below w.heap.size w w':=by
 have Ha:=Lib.hid (fun (y:World) (hy:Below w.heap.size w y) (s:Nat) (hs:s≤9000000)=>chat_any ca pa va A s (by omega) hA (by omega) y (ha.below hy));have Hb:=Lib.hid (fun (y:World) (hy:Below w.heap.size w y) (s:Nat) (hs:s≤9000000)=>chat_any cb pb vb B s (by omega) hB (by omega) y (hb.below hy));have Hta:=Lib.hid (fun (y:World) (hy:Below w.heap.size w y)=>top_any ca pa va A hA (by omega) y (ha.below hy));have Htb:=Lib.hid (fun (y:World) (hy:Below w.heap.size w y)=>by
  have q:=top_any cb pb vb B hB (by omega) y (hb.below hy);rw [← htop] at q;exact q)
 have Hat:=Lib.hid hat;have hw1:IntKind.u64.wrap ((n:Int)+1)=((n+1:Nat):Int):=by rw [IntKind.wrap_u64];omega
 have hw3:IntKind.u64.wrap ((n:Int)+3)=((n+3:Nat):Int):=by rw [IntKind.wrap_u64];omega
 have hw5:IntKind.u64.wrap (((n+3:Nat):Int)+2)=((n+5:Nat):Int):=by rw [IntKind.wrap_u64];omega
 clear ha hb htop hat hA hB hAl hBl;generalize A.top=TP at *;go_enter Tryz.func20,Tryz.ntmps20
 go_upto_region 2 with fail;go_loopw [7] (fun s7 wr=>∃ k:Nat,n+1≤k∧k≤n+6∧s7=.int .u64 (k:Int)∧Below w.heap.size w wr) (fun s7 _=>n+6 - (intOf s7).toNat)
 case atStart=>exact ⟨n+1,by omega,by omega,rfl,Below.refl _ _⟩
 case round =>
  obtain ⟨k,hk1,hk2,rfl,hbw⟩:=hrel;have Hbw:=Lib.hid hbw;clear hbw;by_cases hlt:k≤n+5
  ·
   have hle:(k:Int)≤((n+5:Nat):Int):=by omega
   have hsucc:IntKind.u64.wrap ((k:Int)+1)=((k+1:Nat):Int):=by rw [IntKind.wrap_u64];omega
   obtain ⟨X,hX⟩:∃ X:Nat,(A.at_ k).elim 0 UInt8.toNat=X:=⟨_,rfl⟩;obtain ⟨Y,hY⟩:∃ Y,(A.at_ k).isSome=Y:=⟨_,rfl⟩;have e:=Hat.out k (by omega);have H1:=Lib.hid (show Calls Tryz.prog 57 #[.pointer (some ⟨pa,0,none⟩),.int .u64 (k:Int)] wr fun e w'=>e=.returned (.tuple #[.int .u8 (X:Int),.bool Y])∧Below wr.heap.size wr w' by
    have q:=Ha.out wr Hbw.out k (by omega);unfold atV at q;rw [hX,hY] at q;exact q)
   have H2:=Lib.hid (fun (y:World) (hy:Below w.heap.size w y)=>(show Calls Tryz.prog 57 #[.pointer (some ⟨pb,0,none⟩),.int .u64 (k:Int)] y fun e w'=>e=.returned (.tuple #[.int .u8 (X:Int),.bool Y])∧Below y.heap.size y w' by
    have q:=Hb.out y hy k (by omega);unfold atV at q;rw [← e,hX,hY] at q;exact q))
   have Hk:=Lib.hid (And.intro hk1 (And.intro hk2 hlt));clear hX hY e hk1 hk2 hlt;go_wp2_with (first
    | ((with_reducible refine H1.out.mono ?_);rintro e w2 ⟨rfl,h2⟩;have HB2:=Lib.hid (Hbw.out.trans (h2.mono Hbw.out.size));clear h2)
    | ((with_reducible refine (H2.out _ HB2.out).mono ?_);rintro e w3 ⟨rfl,h3⟩;have HB3:=Lib.hid (HB2.out.trans (h3.mono HB2.out.size));clear h3))
   go_roundw
   case rel=>exact ⟨k+1,by have:=Hk.out;omega,by have:=Hk.out;omega,rfl,HB3.out⟩
   case measure =>
    have:=Hk.out;simp only [intOf];omega
  ·
   have hle : ¬ (k:Int)≤((n+5:Nat):Int):=by omega
   go_wp2_with (first
    | ((with_reducible refine (Hta.out _ Hbw.out).mono ?_);rintro e w2 ⟨rfl,h2⟩;have HB2:=Lib.hid (Hbw.out.trans (h2.mono Hbw.out.size));clear h2)
    | ((with_reducible refine (Htb.out _ HB2.out).mono ?_);rintro e w3 ⟨rfl,h3⟩;have HB3:=Lib.hid (HB2.out.trans (h3.mono HB2.out.size));clear h3))
   go_ret;exact ⟨rfl,HB3.out⟩
end Go.Proofs.YtbckjgageofldaaGreat
