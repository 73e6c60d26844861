/- Chains: Tail. Condition: the chain lies there. -/
import Derived.Test.YtbckjgageofldaaGreatZLearnPlays15
import Derived.Maps.AppendAt
import Derived.Test.YtbckjgageofldaaGreatZLearnPlays14
import Derived.Test.YtbckjgageofldaaGreatZLearnPlays0
import Derived.Test.YtbckjgageofldaaGreatZLearnPlays11
import Derived.Test.YtbckjgageofldaaGreatZLearnPlays12
set_option maxRecDepth 100000
set_option maxHeartbeats 16000000
namespace Go.Proofs.YtbckjgageofldaaGreat
open Go.RowKit
theorem OwnB.cap {w:World} {base:Nat} {t:TypeId} {a:Option Addr} {n c:Nat} {l:List UInt8} (h:OwnB w base t (.slice a n c) l):l.length≤c:=by
 rcases h.2 with ⟨e,h3⟩ | ⟨g,cap,cur,e,_,_,h4,_⟩
 ·
  cases e;omega
 ·
  cases e;exact h4
theorem ReadB.drop {w:World} {a:Option Addr} {c:Nat} {l:List UInt8} (h:ReadB w (.slice a l.length c) l) (hc:l.length≤c) {k:Nat} (hk:k≤l.length):ReadB w (sliced a k l.length c 1) (l.drop k):=by
 obtain ⟨a',cap,e,h0,h2⟩:=h.out;cases e
 refine ⟨if c=k then a else a.map (·.add (k*1)),c - k,by unfold sliced;rw [List.length_drop],?_,?_⟩
 ·
  intro e;split at e
  ·
   omega
  ·
   cases a with
   | none=>have:=h0 rfl;omega
   | some a=>simp at e
 ·
  intro j u hj;have hj':(bcells l)[k+j]?=some u:=by
   unfold bcells at hj ⊢;rw [List.map_drop,List.getElem?_drop] at hj;exact hj
  have hl:=(List.getElem?_eq_some_iff.1 hj').1;rw [bcells_len] at hl;obtain ⟨b,o,rfl,hb,hcell⟩:=h2 _ _ hj';rw [if_neg (by omega)];exact ⟨b,o+k,by simp [Addr.add],hb,by rw [show o+k+j=o+(k+j) by omega];exact hcell⟩
set_option maxHeartbeats 8000000 in
theorem chtail_any (base p:Nat) (v:Value) (C:ChV) (hD:0<C.D.length) (hsz:C.D.length≤1000000) (w:World) (h:ChAt w base p v C) :
  Calls Tryz.prog 42 #[.pointer (some ⟨p,0,none⟩)] w fun e w'=>e=.returned (.string ⟨C.tail.toArray⟩)∧Below w.heap.size w w':=by
 obtain ⟨i0,hi00,hz0,hs0,hb0⟩:=info_parts info8;obtain ⟨a,n,c,rfl⟩:=h.own.read.slice;have hn:n=C.D.length:=h.own.len;subst hn;have H:=Lib.hid h;have Hlt:=Lib.hid h.lt;have hr:=h.own.read;have hcap:=h.own.cap;obtain ⟨k,hk⟩:∃ k,C.D.length - 3=k:=⟨_,rfl⟩;have hrd:=hr.drop hcap (k:=k) (by omega);have htl:C.D.drop k=C.tail:=by rw [← hk];rfl
 rw [htl] at hrd;have hlen:C.tail.length=C.D.length - k:=by rw [← htl,List.length_drop]
 have hlen3:C.tail.length≤3:=by omega
 have hmx:max ((C.D.length:Int) - 3) 0=(k:Int):=by omega
 have hk1:(0:Int)≤(k:Int):=by omega
 have hk2:(k:Int)≤(C.D.length:Int):=by omega
 have hw1:IntKind.i64.wrap ((C.D.length:Int) - 3)=(C.D.length:Int) - 3:=by rw [IntKind.wrap_i64];omega
 have Hrd:=Lib.hid hrd;have Hlen:=Lib.hid (And.intro hlen hlen3);clear hlen hlen3 hrd htl hk hr hcap h
 generalize C.tail=tl at *;go_enter Tryz.func42,Tryz.ntmps42
 go_upto_region 4 with fail;refine (wpIn_wide (n:=1)).1 ?_;refine RegJ.wpIn_region_plan (F:=Fence.wide) (KeptW w) (.step 0 0 (.step 1 0 (.step 2 0 (.step 3 0 (.step 4 0 (.step 5 0 (.step 6 0 (.step 7 0 (.step 8 0 (.step 9 0 (.step 10 0 (.step 11 0 (.step 12 0 (.step 13 0 .nil)))))))))))))) (by kernel_rfl) (by kernel_rfl) (by kernel_rfl) (fun _ _ d _ _ h=>by cases d <;> exact h) ⟨rfl,rfl,rfl,Nat.le_refl _,fun _ _=>rfl⟩ ?_;dsimp only [RegJ.pickJ,List.getElem?_cons_zero,List.getElem?_cons_succ];change RegJ.Can _ _ _ _ _ _ _ _ w.drew;have hkd:KeptW w w.drew:=⟨rfl,rfl,rfl,Nat.le_refl _,fun _ _=>rfl⟩;generalize w.drew=v1 at *;iterate 3 (refine RegJ.reads ?_;intro K hK;go_simp;(first | refine ⟨_,fun _ _=>rfl,hK _ ?_⟩ | refine hK _ ?_);clear hK K)
 refine RegJ.reads ?_;intro K hK;go_simp;refine ⟨.slice a C.D.length c,fun y hy=>?_,hK _ ?_⟩
 ·
  have f0:y.cell? ⟨p,1,none⟩=some (.slice a C.D.length c):=cell_of_row _ _ _ _ _ _ (((KeptW.bel hy).block p Hlt.out).trans H.out.row);go_simp
 clear hK K;iterate 3 (refine RegJ.reads ?_;intro K hK;go_simp;(first | refine ⟨_,fun _ _=>rfl,hK _ ?_⟩ | refine hK _ ?_);clear hK K)
 refine RegJ.reads ?_;intro K hK;go_simp;refine ⟨.slice a C.D.length c,fun y hy=>?_,hK _ ?_⟩
 ·
  have f0:y.cell? ⟨p,1,none⟩=some (.slice a C.D.length c):=cell_of_row _ _ _ _ _ _ (((KeptW.bel hy).block p Hlt.out).trans H.out.row);go_simp
 clear hK K;iterate 3 (refine RegJ.reads ?_;intro K hK;go_simp;(first | refine ⟨_,fun _ _=>rfl,hK _ ?_⟩ | refine hK _ ?_);clear hK K)
 refine RegJ.reads ?_;intro K hK;go_simp;refine ⟨sliced a k C.D.length c 1,fun y hy=>?_,hK _ ?_⟩
 ·
  have f0:=run_slice_l (P:=Tryz.prog) y 122 a C.D.length c Tryz.underlying122 .i64 (k:Int) hk1 hk2;rw [Int.toNat_natCast] at f0;go_simp
 clear hK K;iterate 2 (refine RegJ.reads ?_;intro K hK;go_simp;(first | refine ⟨_,fun _ _=>rfl,hK _ ?_⟩ | refine hK _ ?_);clear hK K)
 refine RegJ.nil ?_;have Hb1:=Lib.hid (KeptW.bel hkd);have Hrd1:=Lib.hid (Hrd.out.below Hb1.out);clear Hrd H Hlt;obtain ⟨a2,c2,he2,hn2,hc2⟩:=Hrd1.out.out;simp only [sliced,Nat.mul_one,Value.slice.injEq] at he2;obtain ⟨ea,el,ec⟩:=he2;have hrd2:ReadB v1 (.slice a2 tl.length c2) tl:=⟨a2,c2,rfl,hn2,hc2⟩;rw [ea,el,ec];have Hrd2:=Lib.hid hrd2;have Hl3:=Lib.hid (show tl.length≤3 from Hlen.out.2);clear hrd2 ea el ec hn2 hc2 Hrd1 Hlen hmx hk1 hk2 hw1 hkd;go_wp2_with fail;go_loopw [3,5,21] (fun s3 _ s21 wr=>∃ i:Nat,i≤tl.length∧s21=.int .i64 (i:Int)∧OwnB wr v1.heap.size 5 s3 (tl.take i)∧Below v1.heap.size v1 wr) (fun _ _ s21 _=>tl.length - (intOf s21).toNat)
 case atStart=>exact ⟨0,by omega,rfl,⟨rfl,.inl ⟨rfl,rfl⟩⟩,Below.refl _ _⟩
 case round =>
  obtain ⟨i,hi,rfl,ho,hb⟩:=hrel;have Ho:=Lib.hid ho;clear ho
  have Hb:=Lib.hid hb;clear hb
  by_cases hlt:i<tl.length
  ·
   have hlt':(i:Int)<(tl.length:Int):=by omega
   have hi0 : ¬ (i:Int)<0:=by omega
   have hsucc:=tsucc (n:=i) (by have:=Hl3.out;omega);obtain ⟨b,o,c3,hv,hget⟩:=Hrd2.out.get hlt;cases hv
   have f0:=hget wr Hb.out;have hone:=ReadB.one wr tl[i] 5;have Hone:=Lib.hid hone;clear hone
   have Hst:=Lib.hid (show tl.take (i+1)=tl.take i++[tl[i]] from (List.take_append_getElem hlt).symm);generalize tl[i]=x at *;have Hlen:=Lib.hid (show (tl.take i).length≤3 from by rw [List.length_take];have:=Hl3.out;omega);clear hget;go_wp2_with (at_builtin;refine wpList_append_read rfl _ _ 44 rfl v1.heap.size 5 i0 (.int .u8 0) Tryz.underlying44 hi00 hz0 hs0 hb0 rfl _ _ _ rfl (World.ownsRow.alloc Ho.out _) _ _ rfl Hone.out (by show (tl.take i).length+1≤_;have:=Hlen.out;omega) (by simp;have:=Hb.out.size;omega) ?_;intro v4 w4 ho4 hg4;have Hg4:=Lib.hid hg4;clear hg4;have Ho4:=Lib.hid ho4;clear ho4);go_roundw
   case rel =>
    refine ⟨i+1,hlt,rfl,?_,below_grown Hg4.out (Hb.out.alloc Hb.out.size _) (by simp;have:=Hb.out.size;omega) (fun q hq=>(World.ownsRow.lt Ho.out q hq).1)⟩;rw [Hst.out];exact OwnB.of Ho4.out rfl rfl
   case measure=>simp [intOf];omega
  ·
   have hlt' : ¬ (i:Int)<(tl.length:Int):=by omega
   have hi7:i=tl.length:=by omega
   subst hi7;have ho:=Ho.out;rw [List.take_length] at ho;have hcv:=ho.read.conv Tryz.underlying44 Tryz.underlying5 Tryz.underlying9;go_wp2_with fail;go_ret;exact ⟨rfl,Hb1.out.trans (Hb.out.mono Hb1.out.size)⟩
def leB (x:Nat):Nat→List UInt8
 | 0=>[]
 | i+1=>leB x i++[UInt8.ofNat (x / 256 ^ i)]
theorem leB_len (x:Nat):∀ i,(leB x i).length=i
 | 0=>rfl
 | i+1=>by rw [leB,List.length_append,leB_len x i];rfl
def sumM (M:MacV):Nat:=(Crc.sum 0#64 (macB M)).toNat
theorem sumM_lt (M:MacV):sumM M<18446744073709551616:=(Crc.sum 0#64 (macB M)).isLt
def sumB (M:MacV):List UInt8:=leB (sumM M) 8
theorem OwnB.block {w:World} {base:Nat} {t:TypeId} {v:Value} {l:List UInt8} (h:OwnB w base t v l):∀ k,v.ownBlock=some k→base≤k:=by
 intro k hk;unfold OwnB at h;obtain ⟨-, h⟩:=h;rcases h with ⟨rfl, -⟩ | ⟨g,cap,cur,rfl,h3, -⟩
 ·
  cases hk
 ·
  cases hk;exact h3
theorem OwnB.nil (w:World) (base:Nat) (t:TypeId):OwnB w base t (.slice none 0 0) []:=⟨rfl,.inl ⟨rfl,rfl⟩⟩
theorem OwnB.alloc {w:World} {base:Nat} {t:TypeId} {v:Value} {l:List UInt8} (h:OwnB w base t v l) (o:Obj):OwnB (w.alloc o) base t v l:=h.below ((Below.refl _ _).alloc (Nat.le_refl _) _)
set_option maxHeartbeats 8000000 in
theorem putSum_any (M:MacV) (T:Tr) (hM:MacBy M) (hlen:(macB M).length≤maxLen) (v:Value) (l:List UInt8) (base:Nat) (hl:l.length≤1000000) (w:World) (hb:base≤w.heap.size) (h:OwnB w base 5 v l) (hat:TreeAt w T) (hsh:T.sh=M.sh) :
  Calls Tryz.prog 137 #[v,macV M T.ptr] w fun e w'=>∃ v',e=.returned v'∧OwnB w' base 5 v' (l++sumB M)∧Below base w w':=by
 obtain ⟨i0,hi0,hz0,hs0,hb0⟩:=info_parts info8;obtain ⟨a,n,c,rfl⟩:=h.read.slice;obtain ⟨P,hP⟩:∃ P,T.ptr=P:=⟨_,rfl⟩;have hb1:=(Below.refl w.heap.size w).alloc (Nat.le_refl _) (.cells (macCells M P).toArray 38);have hm1:MacAt (w.alloc (.cells (macCells M P).toArray 38)) w.heap.size M P:=heap_alloc_new _ _;have hby:=fun (y:World) (hy:TreeAt y T)=>mbytes_any M T hM y hy hsh
 rw [hP] at hby ⊢;unfold macV at hby ⊢;rw [mac_eta M P] at hby ⊢;have hsum:=fun y:World=>sum_any ⟨(macB M).toArray⟩ (by simpa [ByteArray.size] using hlen) y
 obtain ⟨SA,hSA⟩:∃ S:ByteArray,(⟨(macB M).toArray⟩:ByteArray)=S:=⟨_,rfl⟩;have hx:(Crc.sum 0#64 SA.data.toList).toNat=sumM M:=by rw [← hSA];rfl
 rw [hSA] at hby hsum;clear hSA;rw [hx] at hsum;clear hx;have hxl:=sumM_lt M;have hres:sumB M=leB (sumM M) 8:=rfl;rw [hres];clear hres;obtain ⟨x,hx⟩:∃ x,sumM M=x:=⟨_,rfl⟩;rw [hx] at hsum hxl ⊢;clear hx;have Hby:=Lib.hid (hby _ (hat.below hb1));clear hby
 have Hsum:=Lib.hid hsum;clear hsum
 have Ho1:=Lib.hid (h.below hb1);clear h
 go_enter Tryz.func137,Tryz.ntmps137
 go_upto_region 1 with fail;change Code.wp _ _ _ _ (w.alloc (.cells (macCells M P).toArray 38));generalize w.alloc (.cells (macCells M P).toArray 38)=w1 at *;obtain ⟨⟨m0,m1,m14⟩,⟨m2,m3,m4⟩,⟨m5,m6,m7⟩,⟨m8,m9,m10⟩,⟨m11,m12,m13⟩⟩:=hm1.cells;have Hb1:=Lib.hid hb1;clear hb1 hm1
 go_wp2_with (first
  | ((with_reducible refine Hby.out.mono ?_);rintro e w2 ⟨rfl,hb2⟩;have Hb2:=Lib.hid hb2;clear hb2)
  | ((with_reducible refine (Hsum.out _).mono ?_);rintro e w' ⟨rfl,rfl⟩))
 clear m0 m1 m2 m3 m4 m5 m6 m7 m8 m9 m10 m11 m12 m13 m14 Hby Hsum;have Hb:=Lib.hid ((Hb1.out.mono hb).trans (Hb2.out.mono (Nat.le_trans hb Hb1.out.size)));have Ho:=Lib.hid (Ho1.out.below Hb2.out);clear Ho1 Hb1 Hb2;go_loopw [0,10] (fun s0 s10 wr=>∃ (i:Nat),i≤8∧s10=.int .i64 (i:Int)∧OwnB wr base 5 s0 (l++leB x i)∧Below base w wr) (fun _ s10 _=>8 - (intOf s10).toNat)
 case atStart=>exact ⟨0,by omega,rfl,by rw [leB,List.append_nil];exact Ho.out,Hb.out⟩
 case round =>
  clear Ho Hb;obtain ⟨i,hi,rfl,ho,hbel⟩:=hrel;obtain ⟨a,n,c,rfl⟩:=ho.read.slice;have Hbel:=Lib.hid hbel;clear hbel
  have Ho:=Lib.hid ho;clear ho
  by_cases hi8:i<8
  ·
   have hi8':(i:Int)<8:=by omega
   have hsucc:=tsucc (n:=i) (by omega);have hi0':(0:Int)≤(i:Int):=by omega
   have hi7:(i:Int)≤7:=by omega
   have hnews:bcells [UInt8.ofNat (x / 256 ^ i)]=[.int .u8 ((x:Int) / 2 ^ (8*i) % 256)]:=by
    have e:(2:Nat) ^ (8*i)=256 ^ i:=by rw [Nat.pow_mul]
    simp [bcells, ← e]
   have Hnews:=Lib.hid hnews;clear hnews
   have Hle:=Lib.hid (show base≤wr.heap.size from Nat.le_trans hb Hbel.out.size);have Hlen:=Lib.hid (show (l++leB x i).length≤1000100 by rw [List.length_append,leB_len];omega);go_wp2_with (at_builtin;refine wpList_append_own_at _ rfl _ _ 44 rfl base 5 i0 (.int .u8 0) 1 1 Tryz.underlying44 hi0 hz0 hs0 hb0 rfl (by decide) _ _ _ rfl (World.ownsRow.alloc Ho.out _) ⟨wr.heap.size,0,none⟩ 1 1 (bcells [UInt8.ofNat (x / 256 ^ i)]) rfl rfl (by rw [Hnews.out];exact cells_one _ _ _) (bcells_one _) (by have:=Hlen.out;unfold maxLen;omega) (by have:=Hlen.out;omega) (by have:=Hle.out;simp;omega) ?_;intro v4 w4 ho4 hg4 _ _;have Hg4:=Lib.hid hg4;clear hg4;have Ho4:=Lib.hid ho4;clear ho4);go_roundw
   case rel =>
    refine ⟨i+1,by omega,rfl,?_,below_grown Hg4.out ((Hbel.out.alloc Hle.out _)) (by have:=Hle.out;simp;omega) Ho.out.block⟩;rw [leB, ← List.append_assoc];exact OwnB.of Ho4.out rfl rfl
   case measure=>simp [intOf];omega
  ·
   have hi8' : ¬ (i:Int)<8:=by omega
   obtain rfl:i=8:=by omega
   clear hi8 hi;go_wp2_with fail;go_ret;exact ⟨_,rfl,Ho.out,Hbel.out⟩
def cliM (s t:TabV):Nat→Nat
 | 0=>0
 | n+1=>cliM s t n+if lastE (t.at_ n) (s.at_ n) then 0 else 2 ^ n
def cliB (s t:TabV):Nat→List UInt8
 | 0=>[]
 | n+1=>cliB s t n++if lastE (t.at_ n) (s.at_ n) then [] else lastB (t.at_ n)
def clientsB (s t:TabV):List UInt8:=UInt8.ofNat (cliM s t 4)::cliB s t 4
theorem cliM_lt (s t:TabV):∀ n,cliM s t n<2 ^ n
 | 0=>by simp [cliM]
 | n+1=>by
  have h:=cliM_lt s t n;unfold cliM;rw [Nat.pow_succ];split <;> omega
theorem cliB_len (s:TabV) {t:TabV} (h:TabOk t):∀ n,(cliB s t n).length≤4200*n
 | 0=>by simp [cliB]
 | n+1=>by
  have h1:=lastB_len (h.at_ n);have h2:=cliB_len s h n;unfold cliB;rw [List.length_append];split
  ·
   simp;omega
  ·
   omega
theorem OwnB.grown {w w':World} {base:Nat} {t:TypeId} {v:Value} {l:List UInt8} {row:Option Nat} (h:OwnB w base t v l) (hg:w.grownBy w' row) (hr:∀ k,row=some k→k<base):OwnB w' base t v l:=by
 unfold OwnB at *
 obtain ⟨h1,h2⟩:=h;refine ⟨h1,?_⟩;rcases h2 with h2 | ⟨g,cap,cur,e,h3,hq,h4⟩
 ·
  exact .inl h2
 ·
  exact .inr ⟨g,cap,cur,e,h3,(hg.block g (Array.getElem?_eq_some_iff.1 hq).1 (fun e=>by have:=hr g e.symm;omega)).trans hq,h4⟩
theorem or_bit:∀ i,i<4→∀ m:Nat,m<2 ^ i→bits BinOp.or IntKind.u8 (m:Int) (2 ^ i % 256)=((m+2 ^ i:Nat):Int):=by decide +kernel
theorem last_exec (ρ:Operand→Value) (o:Oper) (a b:Operand) (h:o.op=.binOp .eql 29 a b 29) (x y:LastV) (ha:ρ a=.agg (lastCells x).toArray) (hb:ρ b=.agg (lastCells y).toArray) (w:World) :
  (execOp ρ o).run Tryz.prog w=.ok (.value (.bool (lastE x y))) w:=by
 have hg:(eqGuard .eql 29 a b (.agg (lastCells x).toArray) (.agg (lastCells y).toArray)).run Tryz.prog w=.ok () w:=by
  go_simp
 have h0:(Op.equal 29 (.agg (lastCells x).toArray) (.agg (lastCells y).toArray)).run Tryz.prog w=.ok (lastE x y) w:=last_eql2 x y 9997 w;have he:(binOp .eql 29 (.agg (lastCells x).toArray) (.agg (lastCells y).toArray)).run Tryz.prog w=.ok (.bool (lastE x y)) w:=by
  simp only [binOp];simp only [Sem.run_bind,h0,Result.andThen_ok,Sem.run_pure]
 simp only [execOp,h,ha,hb,Sem.run_bind,hg,he,Result.andThen_ok,Sem.run_pure]
theorem putClients_any (s t:TabV) (ht:TabOk t) (v:Value) (l:List UInt8) (base:Nat) (hl:l.length≤1000000) (w:World) (hb:base≤w.heap.size) (h:OwnB w base 5 v l) :
  Calls Tryz.prog 138 #[v,.agg (tabCells s).toArray,.agg (tabCells t).toArray] w fun e w'=>∃ v',e=.returned v'∧OwnB w' base 5 v' (l++clientsB s t)∧Below base w w':=by
 obtain ⟨i0,hi0,hz0,hs0,hb0⟩:=info_parts info8;obtain ⟨a,n,c,rfl⟩:=h.read.slice;have hb1:=(Below.refl w.heap.size w).alloc (Nat.le_refl _) (.cells (tabCells s).toArray 31);have ht1:TabAt (w.alloc (.cells (tabCells s).toArray 31)) w.heap.size s:=heap_alloc_new _ _;have hb2:=(Below.refl _ (w.alloc (.cells (tabCells s).toArray 31))).alloc (Nat.le_refl _) (.cells (tabCells t).toArray 31);have ht2:TabAt ((w.alloc (.cells (tabCells s).toArray 31)).alloc (.cells (tabCells t).toArray 31)) (w.heap.size+1) t:=by
  have:=heap_alloc_new (w.alloc (.cells (tabCells s).toArray 31)) (.cells (tabCells t).toArray 31);rw [World.size_alloc] at this;exact this
 have hidx:=fun (i:Nat) (hi:i<4) (y:World)=>tab_index t i hi y
 obtain ⟨V,hV⟩:∃ V:Value,.agg (tabCells t).toArray=V:=⟨_,rfl⟩;rw [hV] at hidx;have Hidx:=Lib.hid hidx;clear hidx
 rw [tab_eta s,tab_eta t];rw [tab_eta] at hV;have HV:=Lib.hid hV;clear hV
 have h12:=hb1.trans (hb2.mono hb1.size);have ht1':=ht1.below' hb2;have Ho:=Lib.hid h;clear h
 clear hb1 hb2 ht1;go_enter Tryz.func138,Tryz.ntmps138
 go_upto_region 1 with fail;change Code.wp _ _ _ _ ((w.alloc (.cells (tabCells s).toArray 31)).alloc (.cells (tabCells t).toArray 31));generalize (w.alloc (.cells (tabCells s).toArray 31)).alloc (.cells (tabCells t).toArray 31)=w1 at *;obtain ⟨⟨a0,a1,a2⟩,⟨b0,b1,b2⟩,⟨c0,c1,c2⟩,⟨d0,d1,d2⟩⟩:=ht2.cells;have hV:=HV.out;clear HV;go_wp2_with fail;clear a0 a1 a2 b0 b1 b2 c0 c1 c2 d0 d1 d2 ht2 hV;have Hb1:=Lib.hid h12;clear h12
 have HS1:=Lib.hid ht1';clear ht1'
 go_loopw [7,8,12] (fun s7 s8 s12 wr=>∃ (i:Nat),i≤4∧s12=.int .i64 (i:Int)∧s7=.int .u8 (cliM s t i:Int)∧OwnB wr w.heap.size 5 s8 (cliB s t i)∧TabAt wr w.heap.size s∧Below w.heap.size w wr) (fun _ _ s12 _=>4 - (intOf s12).toNat)
 case atStart=>exact ⟨0,by omega,rfl,rfl,OwnB.nil _ _ _,HS1.out,Hb1.out⟩
 case round =>
  clear HS1 Hb1;obtain ⟨i,hi,rfl,rfl,hown,hS,hbel⟩:=hrel;have hlen:=cliB_len s ht i;have Hbel:=Lib.hid hbel;clear hbel
  have HS:=Lib.hid hS;clear hS
  obtain ⟨xa,xn,xc,rfl⟩:=hown.read.slice;have Hown:=Lib.hid hown;clear hown
  by_cases hi4:i<4
  ·
   have hi4':(i:Int)<4:=by omega
   have hix:=Hidx.out i hi4;have hok:=ht.at_ i;have hbs:cliB s t (i+1)=cliB s t i++if lastE (t.at_ i) (s.at_ i) then [] else lastB (t.at_ i):=rfl
   have hms:cliM s t (i+1)=cliM s t i+if lastE (t.at_ i) (s.at_ i) then 0 else 2 ^ i:=rfl
   have hml:=cliM_lt s t i;obtain ⟨x,hx⟩:∃ x,t.at_ i=x:=⟨_,rfl⟩;rw [hx] at hix hok hbs hms;clear hx;obtain ⟨y0,hy0⟩:∃ y,s.at_ i=y:=⟨_,rfl⟩;rw [hy0] at hbs hms;have hcell:=fun (y:World) (hy:TabAt y w.heap.size s)=>tab_cell hy hi4
   rw [hy0] at hcell;clear hy0;have Hcell:=Lib.hid hcell;clear hcell
   obtain ⟨m0,hm0⟩:∃ m,cliM s t i=m:=⟨_,rfl⟩;rw [hm0] at hms hml ⊢;clear hm0;have hor:=or_bit i hi4 m0 hml;clear hml;have Hbs:=Lib.hid hbs;clear hbs
   have Hms:=Lib.hid hms;clear hms
   have hcode:=hok.code;have htext:=hok.text;have Hok:=Lib.hid hok;clear hok
   have hixA:∀ y,(Instr.index 31 V (.int .i64 (i:Int))).run Tryz.prog y=.ok (.agg #[.int .u32 (x.seq.toNat:Int),.int .u8 (x.code:Int),.string x.text]) y:=hix;clear hix;have hL:=LastCells.new wr x;have hba:=(Below.refl wr.heap.size wr).alloc (Nat.le_refl _) (.cells (lastCells x).toArray 29);have hisu:=tsucc (n:=i) (by omega);go_upto_region 6 with fail;change Code.wp _ _ _ _ (wr.alloc (.cells (lastCells x).toArray 29));have HLt:=Lib.hid (show wr.heap.size<(wr.alloc (.cells (lastCells x).toArray 29)).heap.size by simp);generalize wr.alloc (.cells (lastCells x).toArray 29)=w2 at *;have HL:=Lib.hid hL;clear hL
   have Hba:=Lib.hid hba;clear hba
   have HSa:=Lib.hid (HS.out.below' Hba.out);have Hoa:=Lib.hid (Hown.out.below Hba.out);have Hbb:=Lib.hid (Hbel.out.trans (Hba.out.mono Hbel.out.size));have HLw:=Lib.hid (show w.heap.size≤wr.heap.size from Hbel.out.size);clear hixA HS Hown Hbel Hba;obtain ⟨eb,heb⟩:∃ b,lastE x y0=b:=⟨_,rfl⟩;rw [heb] at Hbs Hms;have Heb:=Lib.hid heb;clear heb
   refine (wpIn_wide (n:=1)).1 ?_;refine RegJ.wpIn_region_plan (F:=Fence.wide) (KeptW w2) (.step 0 0 (.step 1 0 (.step 2 0 (.step 3 0 (.step 4 0 .nil))))) (by kernel_rfl) (by kernel_rfl) (by kernel_rfl) (fun _ _ d _ _ h=>by cases d <;> exact h) ⟨rfl,rfl,rfl,Nat.le_refl _,fun _ _=>rfl⟩ ?_;dsimp only [RegJ.pickJ,List.getElem?_cons_zero,List.getElem?_cons_succ];change RegJ.Can _ _ _ _ _ _ _ _ w2.drew;have hkd:KeptW w2 w2.drew:=⟨rfl,rfl,rfl,Nat.le_refl _,fun _ _=>rfl⟩;generalize w2.drew=v1 at *;refine RegJ.reads ?_;intro K hK;go_simp;refine ⟨.agg (lastCells x).toArray,fun y hy=>?_,hK _ ?_⟩
   ·
    have hk:=HL.out.same (g:=wr.heap.size) (y':=y) ((KeptW.bel hy).block _ HLt.out);unfold lastCells;obtain ⟨k0,k1,k2⟩:=hk;go_simp
   clear hK K;iterate 2 (refine RegJ.reads ?_;intro K hK;go_simp;(first | refine ⟨_,fun _ _=>rfl,hK _ ?_⟩ | refine hK _ ?_);clear hK K)
   refine RegJ.reads ?_;intro K hK;go_simp;refine ⟨.agg (lastCells y0).toArray,fun y hy=>?_,hK _ ?_⟩
   ·
    obtain ⟨k0,k1,k2⟩:=Hcell.out y (HSa.out.below' (KeptW.bel hy));unfold lastCells;go_simp
   clear hK K;refine RegJ.reads ?_;intro K hK;rw [if_pos (by simp [Region.wanted])];refine ⟨.bool eb,fun y hy=>?_,hK _ ?_⟩
   ·
    rw [← Heb.out];exact last_exec _ _ _ _ rfl x y0 rfl rfl y
   clear hK K;go_simp;refine RegJ.nil ?_;have hk1:Below w2.heap.size w2 v1:=KeptW.bel hkd;have hL2:=HL.out.same (hk1.block _ HLt.out);have HS2:=Lib.hid (HSa.out.below' hk1);have Ho2:=Lib.hid (Hoa.out.below hk1);have Hb2:=Lib.hid (Hbb.out.trans (hk1.mono Hbb.out.size));have Hlv:=Lib.hid (Nat.lt_of_lt_of_le HLt.out hk1.size);clear HSa Hoa Hbb hk1 hkd Heb HL HLt Hcell;generalize v1=w2 at *;have HL:=Lib.hid hL2;have HLt:=Lib.hid (show wr.heap.size<w2.heap.size from Hlv.out);clear Hlv
   cases eb with
   | true =>
    clear hL2;have hbs:=Hbs.out;rw [if_pos rfl,List.append_nil] at hbs;have hms:=Hms.out;rw [if_pos rfl] at hms;have Hbs':=Lib.hid hbs;clear hbs Hbs
    have Hms':=Lib.hid hms;clear hms Hms
    go_wp2_with fail;go_roundw
    case rel=>exact ⟨i+1,by omega,rfl,by rw [Hms'.out];rfl,by rw [Hbs'.out];exact Ho2.out,HS2.out,Hb2.out⟩
    case measure=>simp [intOf];omega
   | false =>
    have hbs:=Hbs.out;rw [if_neg (by decide)] at hbs;have hms:=Hms.out;rw [if_neg (by decide)] at hms;have Hsucc:=Lib.hid hbs;clear hbs Hbs
    have Hms':=Lib.hid hms;clear hms Hms
    obtain ⟨l0,l1,l2⟩:=hL2;have hsq:(x.seq.toNat:Int)<4294967296:=by have:=x.seq.isLt;omega
    have hnum:=num_any _ (cliB s t i) x.seq.toNat (by have:=x.seq.isLt;omega) (by omega) w2 Ho2.out.read;have Hnum:=Lib.hid hnum;clear hnum
    go_upto_region 9 with ((with_reducible refine Hnum.out.mono ?_);rintro e w3 ⟨v3,rfl,ho3,hb3⟩;have Ho3:=Lib.hid ho3;clear ho3;have Hb3:=Lib.hid hb3;clear hb3)
    clear l0 l1 l2;have HL3:=Lib.hid (HL.out.same (Hb3.out.block _ HLt.out));have Hb03:=Lib.hid (Hb2.out.trans (Hb3.out.mono Hb2.out.size));have HS3:=Lib.hid (HS2.out.below' Hb3.out);obtain ⟨l0,l1,l2⟩:=HL3.out;generalize hn:x.seq.toNat=n at l0 hsq Ho3 ⊢;have Hn:=Lib.hid hn;clear hn
    by_cases hz:n=0
    ·
     have hz':(n:Int)=0:=by omega
     have hlast:lastB x=numL n:=by unfold lastB;rw [Hn.out,if_pos hz,List.append_nil]
     have Hlast:=Lib.hid hlast;clear hlast
     go_wp2_with fail;go_roundw
     case rel =>
      have hown:OwnB w3 w.heap.size 5 v3 (cliB s t (i+1)):=by
       rw [Hsucc.out,Hlast.out];exact Ho3.out.mono (by have:=HLt.out;have:=HLw.out;omega)
      exact ⟨i+1,by omega,rfl,by rw [Hms'.out,Int.natCast_add,Int.natCast_pow];rfl,hown,HS3.out,Hb03.out⟩
     case measure=>simp [intOf];omega
    ·
     have hz':((n:Int) != 0)=true:=by rw [bne_iff_ne];omega
     have hlast:lastB x=numL n++([UInt8.ofNat x.code]++strL x.text):=by unfold lastB;rw [Hn.out,if_neg hz];rfl
     have Hnl:=Lib.hid (numL_len n).1;have hcode8:((UInt8.ofNat x.code).toNat:Int)=(x.code:Int):=by simp;omega
     have Hcode8:=Lib.hid hcode8;clear hcode8
     have Hlast:=Lib.hid hlast;clear hlast
     have Hz:=Lib.hid hz;clear hz
     go_upto_region 10 with fail;clear l0 l1 l2;obtain ⟨q,hq⟩:∃ q,cliB s t i++numL n=q:=⟨_,rfl⟩;have hql:q.length≤1099510000000:=by have hnl:=Hnl.out;rw [← hq,List.length_append];omega
     rw [hq] at Ho3;have Hq:=Lib.hid hq;clear hq
     have hnew:=LastCells.new w3.drew x;clear hnew;refine (wpIn_wide (n:=1)).1 ?_;refine RegK.wpIn_region_can (F:=Fence.wide) (LastCells wr.heap.size x) [(0,0),(1,0),(2,0),(3,0),(6,0),(7,0),(8,0),(4,1),(5,1),(9,1),(10,0)] (by kernel_rfl) (by kernel_rfl) (by kernel_rfl) (fun _ _ d _ _ h=>by cases d <;> exact h) HL3.out ?_;dsimp only [RegK.pick,List.getElem?_cons_zero,List.getElem?_cons_succ];change RegK.Can _ _ _ _ _ _ _ _ w3.drew;have Hd:=Lib.hid (show LastCells wr.heap.size x w3.drew from HL3.out);have HSd:=Lib.hid (show TabAt w3.drew w.heap.size s from HS3.out);have Hod:=Lib.hid (show OwnB w3.drew w2.heap.size 5 v3 q from Ho3.out);have Hbd:=Lib.hid (show Below w.heap.size w w3.drew from ⟨Hb03.out.os,Hb03.out.tape,Hb03.out.output,Hb03.out.size,Hb03.out.block⟩);have Hld:=Lib.hid (show w2.heap.size≤w3.drew.heap.size from Hb3.out.size);generalize w3.drew=w4 at *;clear Ho3 HL3 Hb03 Hb3;iterate 3 (refine RegK.can_reads ?_;intro K hK;go_simp;(first | (refine ⟨_,fun _ _=>rfl,hK _ ?_⟩) | (refine hK _ ?_));clear hK K)
     refine RegK.can_reads ?_;intro K hK;go_simp;refine ⟨.int .u8 (x.code:Int),fun y hy=>?_,hK _ ?_⟩
     ·
      have f0:=hy.2.1;go_simp
     clear hK K;iterate 2 (refine RegK.can_reads ?_;intro K hK;go_simp;(first | (refine ⟨_,fun _ _=>rfl,hK _ ?_⟩) | (refine hK _ ?_));clear hK K)
     refine RegK.can_reads ?_;intro K hK;go_simp;refine ⟨.string x.text,fun y hy=>?_,hK _ ?_⟩
     ·
      have f0:=hy.2.2;go_simp
     clear hK K;-- the slice of one byte
     refine RegK.can_turns (fun _=>trivial) ?_;intro K K0 hK hK0;go_simp;have hb5:=(Below.refl w4.heap.size w4).alloc (Nat.le_refl _) (.cells #[.int .u8 (x.code:Int)] 5);have hne:wr.heap.size<w4.heap.size:=by have:=Hld.out;have:=HLt.out;omega
     have hL5:LastCells wr.heap.size x (w4.alloc (.cells #[.int .u8 (x.code:Int)] 5)):=Hd.out.same (hb5.block _ hne);have hone:ReadB (w4.alloc (.cells #[.int .u8 (x.code:Int)] 5)) (.slice (some ⟨w4.heap.size,0,none⟩) 1 1) [UInt8.ofNat x.code]:=by
      have h:=ReadB.one w4 (UInt8.ofNat x.code) 5;rwa [Hcode8.out] at h
     have ho5:=Hod.out.below hb5;have hS5:=HSd.out.below' hb5;refine hK _ _ hL5 ?_;clear hK K hK0 K0;have Hb5:=Lib.hid (Hbd.out.trans (hb5.mono (by have:=Hld.out;have:=HLt.out;have:=HLw.out;omega)));have Hone:=Lib.hid hone;clear hone
     have HS5:=Lib.hid hS5;clear hS5 HSd
     have Ho5:=Lib.hid ho5;clear ho5
     have HL5:=Lib.hid hL5;clear hL5
     have Hl5:=Lib.hid (show w2.heap.size≤(w4.alloc (.cells #[.int .u8 (x.code:Int)] 5)).heap.size by simp;have:=Hld.out;omega);generalize hw5:w4.alloc (.cells #[.int .u8 (x.code:Int)] 5)=w5 at *
     generalize w4.heap.size = g5 at *;clear hb5 hw5 Hd Hod Hbd Hld hne;-- append
     refine RegK.can_turns (fun _=>trivial) ?_;intro K K0 hK hK0;rw [if_pos (by simp [Region.wanted])];refine RegK.op_wide rfl ?_;refine wp_append_read _ _ 44 rfl w2.heap.size 5 i0 (.int .u8 0) Tryz.underlying44 hi0 hz0 hs0 hb0 rfl _ _ _ rfl Ho5.out _ _ rfl Hone.out (by show q.length+1≤_;omega) Hl5.out ?_;intro v6 w6 ho6 hg6;have hv3:∀ k,v3.ownBlock=some k→w2.heap.size≤k:=fun k hk=>(World.ownsRow.lt Ho5.out k hk).1
     have hL6:LastCells wr.heap.size x w6:=HL5.out.same (hg6.block _ (Nat.lt_of_lt_of_le HLt.out Hl5.out) (fun e=>by have:=hv3 _ e.symm;have:=HLt.out;omega));refine hK _ _ hL6 ?_;clear hK K hK0 K0;have Ho6:=Lib.hid (OwnB.of (l:=q) (k:=[UInt8.ofNat x.code]) ho6 rfl rfl);clear ho6
     have Hb6 := Lib.hid (below_grown hg6 Hb5.out (by have := Hl5.out; have := HLt.out; have := HLw.out; omega) (fun k hk => by have := hv3 k hk; have := HLt.out; have := HLw.out; omega));have Hl6 := Lib.hid (Nat.le_trans Hl5.out hg6.size);have HL6 := Lib.hid hL6;have HS6 := Lib.hid (show TabAt w6 w.heap.size s from (hg6.block _ HS5.out.lt (fun e => by have h1 := hv3 _ e.symm; have h2 := HLt.out; have h3 := HLw.out; omega)).trans HS5.out);clear hg6 hv3 HL5 Hb5 Ho5 Hone Hl5 hL6;-- the text
     refine RegK.can_turns (fun _=>trivial) ?_;intro K K0 hK hK0;go_simp;refine ⟨trivial,?_⟩;refine (callsIn_wide.2 (str_any v6 _ x.text (by rw [List.length_append];show q.length+1+x.text.size≤_;omega) w6 Ho6.out.read)).mono ?_;rintro e w7 ⟨v7,rfl,ho7,hb7⟩;refine hK _ _ (HL6.out.same (hb7.block _ (Nat.lt_of_lt_of_le HLt.out Hl6.out))) ?_;clear hK K hK0 K0;have Ho7:=Lib.hid ho7;clear ho7
     have HS7:=Lib.hid (HS6.out.below' hb7);have Hb7:=Lib.hid (Hb6.out.trans (hb7.mono (by have:=Hl6.out;have:=HLt.out;have:=HLw.out;omega)));refine RegK.can_reads ?_;intro K hK;go_simp;refine ⟨_,fun _ _=>rfl,hK _ ?_⟩;clear hK K;refine RegK.can_nil ?_;go_wp2_with fail;have hown:OwnB w7 w.heap.size 5 v7 (cliB s t (i+1)):=by
      have e:cliB s t (i+1)=q++[UInt8.ofNat x.code]++strL x.text:=by
       rw [Hsucc.out,Hlast.out, ← Hq.out];simp [List.append_assoc]
      rw [e];exact Ho7.out.mono (by have:=Hl6.out;have:=HLt.out;have:=HLw.out;omega)
     refine ⟨⟨i+1,by omega,rfl,by rw [Hms'.out,Int.natCast_add,Int.natCast_pow];rfl,hown,HS7.out,Hb7.out⟩,?_⟩;simp [intOf];omega
  ·
   have hi4' : ¬ (i:Int)<4:=by omega
   obtain rfl:i=4:=by omega
   have hml:=cliM_lt s t 4;obtain ⟨m0,hm0⟩:∃ m,cliM s t 4=m:=⟨_,rfl⟩;have hres:clientsB s t=[UInt8.ofNat m0]++cliB s t 4:=by rw [← hm0];rfl
   rw [hm0] at hml ⊢;clear hm0;have Hres:=Lib.hid hres;clear hres hi4 hi
   have hbl:∀ k,(Value.slice a n c).ownBlock=some k→base≤k∧k<w.heap.size:=fun k hk=>World.ownsRow.lt Ho.out k hk
   have Hbl:=Lib.hid hbl;clear hbl
   have Ho4:=Lib.hid (Ho.out.below Hbel.out);clear Ho
   have hm8:((UInt8.ofNat m0).toNat:Int)=(m0:Int):=by simp;omega
   have Hone:=Lib.hid (show ReadB (wr.alloc (.cells #[.int .u8 (m0:Int)] 5)) (.slice (some ⟨wr.heap.size,0,none⟩) 1 1) [UInt8.ofNat m0] by
    have h:=ReadB.one wr (UInt8.ofNat m0) 5;rwa [hm8] at h)
   clear hm8 hml;have Hle:=Lib.hid (show base≤wr.heap.size from Nat.le_trans hb Hbel.out.size);have Hlen:=Lib.hid hlen;clear hlen
   have Hba:=Lib.hid (Hbel.out.alloc (Hbel.out.size) (.cells #[.int .u8 (m0:Int)] 5));have Hrl:=Lib.hid (Hown.out.alloc (.cells #[.int .u8 (m0:Int)] 5));clear Hown;go_wp2_with (at_builtin;first
    | (refine wpList_append_read rfl _ _ 44 rfl base 5 i0 (.int .u8 0) Tryz.underlying44 hi0 hz0 hs0 hb0 rfl _ _ _ rfl (World.ownsRow.alloc Ho4.out _) _ [UInt8.ofNat m0] rfl Hone.out (by show l.length+1≤_;omega) (by have:=Hle.out;simp;omega) ?_;intro v5 w5 ho5 hg5;have Ho5:=Lib.hid (OwnB.of ho5 rfl rfl);clear ho5;have Hg5:=Lib.hid hg5;clear hg5 Hone)
    | (refine wpList_append_read rfl _ _ 44 rfl base 5 i0 (.int .u8 0) Tryz.underlying44 hi0 hz0 hs0 hb0 rfl _ _ _ rfl Ho5.out _ (cliB s t 4) rfl (Hrl.out.grown Hg5.out (fun k hk=>(Hbl.out k hk).2)).read (by have:=Hlen.out;rw [List.length_append];show l.length+1+_≤_;omega) (by have h1:=Hle.out;have h2:=Hg5.out.size;simp at h2;omega) ?_;intro v6 w6 ho6 hg6;have Ho6:=Lib.hid ho6;clear ho6;have Hg6:=Lib.hid hg6;clear hg6))
   go_ret;refine ⟨_,rfl,?_,?_⟩
   ·
    rw [Hres.out, ← List.append_assoc];exact OwnB.of Ho6.out rfl rfl
   ·
    have h5:=below_grown Hg5.out (Hba.out.mono hb) (by have:=Hle.out;simp;omega) (fun k hk=>(Hbl.out k hk).1);exact below_grown Hg6.out h5 (by have h1:=Hle.out;have h2:=Hg5.out.size;simp at h2;omega) Ho5.out.block
open Go.RowKit Go.Shelf
attribute [local go_sem] Oper.semAt_some
def chgB (c:Chg):List UInt8:=strL c.key++if c.has then numL 1++strL c.new else numL 0
def chgsB:List Chg→List UInt8
 | []=>[]
 | c::r=>chgB c++chgsB r
theorem chgsB_app:∀ (a b:List Chg),chgsB (a++b)=chgsB a++chgsB b
 | [],_=>rfl
 | c::r,b=>by
  show chgB c++chgsB (r++b)=_;rw [chgsB_app r b, ← List.append_assoc];rfl
def keysDB (d:List Chg):List UInt8:=numL d.length++chgsB d
def ChgOk (c:Chg):Prop:=c.key.size≤4096∧c.new.size≤4096
theorem chgB_len {c:Chg} (h:ChgOk c):(chgB c).length≤8300:=by
 have h1:=strL_len c.key;have h2:=strL_len c.new;have h3:=(numL_len 1).1;have h4:=(numL_len 0).1;obtain ⟨h5,h6⟩:=h;unfold chgB;rw [List.length_append];split
 ·
  rw [List.length_append];omega
 ·
  omega
theorem chgsB_len:∀ (l:List Chg),(∀ c ∈ l,ChgOk c)→(chgsB l).length≤8300*l.length
 | [],_=>by simp [chgsB]
 | c::r,h=>by
  have h1:=chgB_len (h c (by simp));have h2:=chgsB_len r (fun x hx=>h x (by simp [hx]));show (chgB c++chgsB r).length≤_;rw [List.length_append,List.length_cons];omega
structure PkI (w0:World) (pre:List Chg) (W:World):Prop where
 n:BoxAt W w0.heap.size (.int .u64 (pre.length:Int)) 22
 b:∃ v,BoxAt W (w0.heap.size+1) v 44∧OwnB W w0.heap.size 5 v (chgsB pre)
 bel:Below w0.heap.size w0 W
theorem PkI.own {w0:World} {B0:Nat} (hB:w0.heap.size≤B0) {α:Type} (f:α→List Chg):OwnFrom B0 (fun (s:α) W=>PkI w0 (f s) W):=fun s W W' row hs hg hr=>by
 obtain ⟨v,h1,h2⟩:=hs.b;exact ⟨BoxAt.own (f:=fun s:α=>.int .u64 ((f s).length:Int)) s W W' row hs.n hg hr,⟨v,BoxAt.own (f:=fun _=>v) s W W' row h1 hg hr,h2.own hg (fun r e=>(hr r e).2)⟩,below_own hB hs.bel hg hr⟩
theorem PkI.below {w0 W W':World} {pre:List Chg} (h:PkI w0 pre W) (hb:Below W.heap.size W W'):PkI w0 pre W':=by
 obtain ⟨v,h1,h2⟩:=h.b;exact ⟨h.n.below hb,⟨v,h1.below hb,h2.below hb⟩,h.bel.trans (hb.mono h.bel.size)⟩
theorem OwnB.turned {B q:Nat} {W W':World} {base:Nat} {t:TypeId} {v:Value} {l:List UInt8} (hT:Range.Turned B q W W') (h:OwnB W base t v l):OwnB W' base t v l:=by
 unfold OwnB at *
 obtain ⟨h1,h2⟩:=h;refine ⟨h1,?_⟩;rcases h2 with h2 | ⟨g,cap,cur,e,h3,hgc,h4⟩
 ·
  exact .inl h2
 ·
  exact .inr ⟨g,cap,cur,e,h3,turned_cells hT hgc,h4⟩
theorem OwnB.setOther {w:World} {base g i:Nat} {t t':TypeId} {v x y:Value} {l:List UInt8} (h:OwnB w base t v l) (hb:BoxAt w g y t') (ht:t'≠t):OwnB (w.setCell ⟨g,i,none⟩ x) base t v l:=by
 unfold OwnB at *
 obtain ⟨h1,h2⟩:=h;refine ⟨h1,?_⟩;rcases h2 with h2 | ⟨q,cap,cur,e,h3,hq,h4⟩
 ·
  exact .inl h2
 ·
  refine .inr ⟨q,cap,cur,e,h3,(Below.heap_setCell _ _ _ _ (fun e=>?_)).trans hq,h4⟩;have e':q=g:=e;unfold BoxAt at hb;rw [← e',hq] at hb;cases hb
  exact ht rfl
structure KK (B n0 Bl:Nat) (V W:World):Prop where
 f:KeepsFrom B V W
 c:KeepC n0 Bl V W
 s:V.heap.size≤W.heap.size
theorem KK.refl (B n0 Bl:Nat) (V:World):KK B n0 Bl V V:=⟨KeepsFrom.refl _ _,KeepC.refl _ _ _,Nat.le_refl _⟩
theorem KK.below {B n0 Bl:Nat} {V W W':World} (h:KK B n0 Bl V W) (hb:Below W.heap.size W W') (hn:n0≤W.heap.size):KK B n0 Bl V W':=⟨h.f.trans (keepsFrom_below hb),h.c.trans (KeepC.of_below hb hn),Nat.le_trans h.s hb.size⟩
theorem KK.set {B n0 Bl:Nat} {V W:World} (h:KK B n0 Bl V W) {g i:Nat} {x:Value} (h1:n0≤g) (h2:g<Bl):KK B n0 Bl V (W.setCell ⟨g,i,none⟩ x) :=
 ⟨keepsFrom_set h.f,h.c.trans ⟨below_setV (Below.refl _ _) h1,fun r cs t f hr e=>(Below.heap_setCell _ _ _ _ (by show r≠g;omega)).trans e⟩,by simpa [World.setCell] using h.s⟩
theorem pk_start (w:World):PkI w [] ((w.alloc (.cells #[.int .u64 0] 22)).alloc (.cells #[.slice none 0 0] 44)):=by
 have b1:=(Below.refl w.heap.size w).alloc (Nat.le_refl _) (.cells #[.int .u64 0] 22);have b2:=(Below.refl _ (w.alloc (.cells #[.int .u64 0] 22))).alloc (Nat.le_refl _) (.cells #[.slice none 0 0] 44);have x2:=BoxAt.new (w.alloc (.cells #[.int .u64 0] 22)) (.slice none 0 0) 44;rw [World.size_alloc] at x2;exact ⟨(BoxAt.new w (.int .u64 0) 22).below b2,⟨_,x2,OwnB.nil _ _ _⟩,b1.trans (b2.mono b1.size)⟩
theorem usucc {n:Nat} (h:n≤9223372036854775806):IntKind.u64.wrap ((n:Int)+1)=((n+1:Nat):Int):=by rw [IntKind.wrap_u64];omega
theorem putKeys_in (A B:Tr) (v:Value) (l:List UInt8) (hl:l.length≤1000000) (w:World) (h:ReadB w v l) (hA:TreeAt w A) (hB:TreeAt w B) (haA:Asc A.sh.kv) (haB:Asc B.sh.kv) (hcA:A.cnt≤1000000) (hcB:B.cnt≤1000000) (hG:∀ c ∈ diffL A.kvs B.kvs,ChgOk c) (mm:Nat) (hmm:3≤mm) :
    CallsIn Fence.wide mm Tryz.prog 139 #[v,.pointer A.ptr,.pointer B.ptr] w fun e w'=>∃ v',e=.returned v'∧OwnB w' w.heap.size 5 v' (l++keysDB (diffL A.kvs B.kvs))∧Below w.heap.size w w':=by
  obtain ⟨i0,hi0,hz0,hs0,hb0⟩:=info_parts info8;obtain ⟨a,n,c,rfl⟩:=h.slice;have hloA:=hA.lo;have hloB:=hB.lo;have hI:=pk_start w;have hdif:=fun (P Q:Option Addr) (y:World)=>callsIn_wide.1 (diff_in 1 P Q y)
  have Hdif:=Lib.hid hdif;clear hdif
  obtain ⟨PA,hPA⟩:∃ P,A.ptr=P:=⟨_,rfl⟩;obtain ⟨PB,hPB⟩:∃ P,B.ptr=P:=⟨_,rfl⟩;rw [hPA,hPB];have HPA:=Lib.hid hPA;clear hPA
  have HPB:=Lib.hid hPB;clear hPB
  have HR:=Lib.hid h;clear h
  obtain ⟨D,hD⟩:∃ D,diffL A.kvs B.kvs=D:=⟨_,rfl⟩;rw [hD];have HD:=Lib.hid hD;clear hD
  refine callsIn_of_wp_marks Tryz.func139 rfl trivial ?_ rfl;simp only [Tryz.ntmps139,List.size_toArray,List.length_cons,List.length_nil,Nat.reduceAdd,Nat.reduceSub,Array.replicate_succ,Array.replicate_zero,List.push_toArray,List.append_toArray,List.nil_append,List.cons_append];refine wpIn_wide.2 ?_;go_upto_region 3 with fail;change Code.wp _ _ _ _ ((w.alloc (.cells #[.int .u64 0] 22)).alloc (.cells #[.slice none 0 0] 44));have hs2:((w.alloc (.cells #[.int .u64 0] 22)).alloc (.cells #[.slice none 0 0] 44)).heap.size=w.heap.size+2:=by simp
  generalize (w.alloc (.cells #[.int .u64 0] 22)).alloc (.cells #[.slice none 0 0] 44)=w2 at *;have HI:=Lib.hid hI;clear hI
  have Hlo:=Lib.hid (And.intro hloA hloB);clear hloA hloB
  go_wp2_with ((with_reducible refine (Hdif.out _ _ _).mono ?_);rintro e w' ⟨rfl,rfl⟩);have hu9:Below w2.heap.size w2 ((w2.alloc (.cells #[.pointer PA] 32)).alloc (.cells #[.pointer PB] 32)):=((Below.refl _ _).alloc (Nat.le_refl _) _).alloc (by simp) _;have hs9:((w2.alloc (.cells #[.pointer PA] 32)).alloc (.cells #[.pointer PB] 32)).heap.size=w.heap.size+4:=by simp [hs2]
  have hba:=(BoxAt.new w2 (.pointer PA) 32).below ((Below.refl _ _).alloc (Nat.le_refl _) (.cells #[.pointer PB] 32));have hbb:=BoxAt.new (w2.alloc (.cells #[.pointer PA] 32)) (.pointer PB) 32;rw [World.size_alloc,hs2] at hbb;rw [hs2] at hba;generalize (w2.alloc (.cells #[.pointer PA] 32)).alloc (.cells #[.pointer PB] 32)=w9 at *;have HI9:=Lib.hid (HI.out.below hu9);clear HI
  clear hu9 hs2 Hdif;have hDl:D.length≤2000000:=by
    have h1:=diff_len _ (Nat.le_refl (A.kvs.length+B.kvs.length));have h2:A.kvs.length=A.cnt:=by rw [sh_cnt,cnt_kv];rfl
    have h3:B.kvs.length=B.cnt:=by rw [sh_cnt,cnt_kv];rfl
    rw [HD.out] at h1;omega
  have hstops:=diff_stopsG ChgOk (mm - 1) (w.heap.size+2) (w.heap.size+2+1) w.heap.size (w.heap.size+4) A B w9 (by omega) (by omega) (by omega) (by omega) (by rw [HPA.out];exact hba.cell) (by rw [HPB.out];exact hbb.cell) (hA.below HI9.out.bel) (hB.below HI9.out.bel) Hlo.out.1.outOf Hlo.out.2.outOf haA haB (by omega) hG;rw [HD.out] at hstops;clear hba hbb hA hB haA haB hG HD;have Hstops:=Lib.hid hstops;clear hstops
  have Hs9:=Lib.hid hs9;clear hs9
  refine (wpIn_wide (n:=mm)).1 ?_;refine Range.wpIn_range (F:=Fence.wide) rfl (by omega) (gf:=187) (lb:=#[.pointer (some ⟨w.heap.size+2,0,none⟩),.pointer (some ⟨w.heap.size+2+1,0,none⟩)]) rfl trivial (enters_of Tryz.func187 (by kernel_rfl) rfl)
    Hstops.out (fun h k=>h.trans k) (keepC_b (by have:=Hs9.out;omega)) (Below.refl _ _) (fun _=>rfl)
    (fun pre W=>PkI w (pre.map (·.val)) W) (fun _ _ _=>False) (PkI.own (by have:=Hs9.out;omega) _) (fun _ _ _ _ _ h _ _=>h.elim) HI9.out ?round ?done ?stop
  case stop =>
    rintro E c pre V hE hpre h _;exact h.elim
  case round =>
    rintro q pre ⟨⟨xk,xo,xn,xa,xb⟩,hx⟩ V hi hlen;clear HI9 Hstops;have hx':xk.size≤4096∧xn.size≤4096:=hx;have hlp:=chgsB_len (pre.map (·.val)) (fun c hc=>by obtain ⟨q,_,rfl⟩:=List.mem_map.1 hc;exact q.property);rw [List.length_map] at hlp;obtain ⟨p,hp⟩:∃ p,pre.map (·.val)=p:=⟨_,rfl⟩;have hpl:pre.length=p.length:=by rw [← hp];simp
    have hgl:(pre++[(⟨⟨xk,xo,xn,xa,xb⟩,hx⟩:{c:Chg // ChgOk c})]).map (·.val)=p++[⟨xk,xo,xn,xa,xb⟩]:=by rw [List.map_append,hp];rfl
    rw [hp] at hi hlp;rw [hpl] at hlen hlp;have Hp:=Lib.hid (And.intro hgl hpl);clear hp hgl hpl
    have Hi:=Lib.hid hi;clear hi
    dsimp only [chgV,chgCells];gi_wp2
    have hbW:Below V.heap.size V (V.alloc (.cells (chgCells xo xn xa xb) 271)):=(Below.refl _ _).alloc (Nat.le_refl _) _;have hnW:ChgAt (V.alloc (.cells (chgCells xo xn xa xb) 271)) V.heap.size xo xn xa xb:=heap_alloc_new V _;have hiV:=Hi.out.below hbW;have hqV:=Hi.out.bel.size;have hgV:w.heap.size+1<V.heap.size:=by obtain ⟨v,h1,_⟩:=Hi.out.b;exact h1.lt
    refine ⟨keepsFrom_below hbW,KeepC.of_below hbW (by omega),fun V2 hT=>?_⟩;have hT':Range.Turned w9.heap.size q (V.alloc (.cells (chgCells xo xn xa xb) 271)) V2:=hT;have hi2:PkI w p V2:=by
      obtain ⟨v,h1,h2⟩:=hiV.b;exact ⟨turned_cells hT' hiV.n,⟨v,turned_cells hT' h1,h2.turned hT'⟩,hiV.bel.trans (turned_below (by have:=Hs9.out;omega) hT')⟩
    have hn2:ChgAt V2 V.heap.size xo xn xa xb:=turned_cells hT' hnW;have hgg:V.heap.size<V2.heap.size:=(Array.getElem?_eq_some_iff.1 hn2).1;generalize V.heap.size=g9 at *;clear hT hT' hbW hnW Hi hiV hqV;obtain ⟨u,hbx,hown⟩:=hi2.b;obtain ⟨ua,un,uc,rfl⟩:=hown.read.slice;have f0:=hi2.n.cell;have f1:=hi2.n.frozen;have hnx:=hi2.n;have hbel2:=hi2.bel;clear hi2;have hsucc:=usucc (n:=p.length) (by omega);have hK2:=KK.refl w9.heap.size w.heap.size (w.heap.size+4) V2;have h94:w.heap.size≤V2.heap.size:=hbel2.size;obtain ⟨m,hm⟩:∃ m,p.length=m:=⟨_,rfl⟩;rw [hm] at f0 hsucc hlp hlen hnx;have hN1:=hnx.set (v':=.int .u64 ((m:Int)+1));have hB1:=hbx.other (B':=w.heap.size) (v':=.int .u64 ((m:Int)+1)) (by omega);have hO1:OwnB (V2.setCell ⟨w.heap.size,0,none⟩ (.int .u64 ((m:Int)+1))) w.heap.size 5 (.slice ua un uc) (chgsB p):=hown.setOther hnx (by decide);have hC1:=hn2.other (i:=0) (x:=.int .u64 ((m:Int)+1)) (show g9≠w.heap.size by omega);have hb1:=below_setV (i:=0) (x:=.int .u64 ((m:Int)+1)) hbel2 (Nat.le_refl w.heap.size);have hK1:=hK2.set (g:=w.heap.size) (i:=0) (x:=.int .u64 ((m:Int)+1)) (Nat.le_refl _) (by omega);have hz1:(V2.setCell ⟨w.heap.size,0,none⟩ (.int .u64 ((m:Int)+1))).heap.size=V2.heap.size:=by simp [World.setCell]
    have H1:=Lib.hid (And.intro hN1 (And.intro hB1 (And.intro hO1 (And.intro hC1 (And.intro hb1 hK1)))));clear hN1 hB1 hO1 hC1 hb1 hK1
    have Hz1:=Lib.hid (show w.heap.size≤(V2.setCell ⟨w.heap.size,0,none⟩ (.int .u64 ((m:Int)+1))).heap.size by rw [hz1];exact h94);clear hz1 h94
    have Hm:=Lib.hid hm;clear hm
    have f2:=hbx.cell;have f3:=hbx.frozen;have hkl:=strL_len xk;have hgn : ¬ g9=w.heap.size+1:=by omega
    have hgn2 : ¬ w.heap.size+1=g9:=by omega
    clear hown hn2 hnx hbel2 hbx hK2;cases xb with
    | true =>
      gi_wp2_with (refine ⟨trivial,(fun h=>(by cases h)),?_⟩;generalize V2.setCell ⟨w.heap.size,0,none⟩ (.int .u64 ((m:Int)+1))=W1 at *; refine (calls_round (str_any _ (chgsB p) xk (by omega) W1 H1.out.2.2.1.read)).mono ?_;rintro e y1 ⟨v1,rfl,ho1,hb1⟩;obtain ⟨a1,n1,c1,rfl⟩:=ho1.read.slice;have Ho1:=Lib.hid ho1;clear ho1;have Hb1:=Lib.hid hb1;clear hb1;have d0:=(H1.out.2.1.below Hb1.out).cell;have d1:=(H1.out.2.1.below Hb1.out).frozen;obtain ⟨q0,q1,q2,q3⟩:=(H1.out.2.2.2.1.below Hb1.out).cells;clear f0 f1 f2 f3)
      have hB2:=(H1.out.2.1.below Hb1.out).set (v':=.slice a1 n1 c1);have hN2:=(H1.out.1.below Hb1.out).other (B':=w.heap.size+1) (v':=.slice a1 n1 c1) (by omega);have hC2:=(H1.out.2.2.2.1.below Hb1.out).other (i:=0) (x:=.slice a1 n1 c1) hgn;have hO2:OwnB (y1.setCell ⟨w.heap.size+1,0,none⟩ (.slice a1 n1 c1)) w.heap.size 5 (.slice a1 n1 c1) (chgsB p++strL xk):=(Ho1.out.mono Hz1.out).setOther (H1.out.2.1.below Hb1.out) (by decide);have hb2:=below_setV (i:=0) (x:=.slice a1 n1 c1) (H1.out.2.2.2.2.1.trans (Hb1.out.mono Hz1.out)) (show w.heap.size≤w.heap.size+1 by omega);have hK3:=(H1.out.2.2.2.2.2.below Hb1.out Hz1.out).set (g:=w.heap.size+1) (i:=0) (x:=.slice a1 n1 c1) (by omega) (by omega);have hz2:w.heap.size≤(y1.setCell ⟨w.heap.size+1,0,none⟩ (.slice a1 n1 c1)).heap.size:=by have h1:=Hz1.out;have h2:=Hb1.out.size;simp [World.setCell];omega
      clear H1 Ho1 Hb1 Hz1 d0 d1 q0 q1 q2 q3;have H2:=Lib.hid (And.intro hN2 (And.intro hB2 (And.intro hO2 (And.intro hC2 (And.intro hb2 hK3)))));clear hN2 hB2 hO2 hC2 hb2 hK3
      have Hz2:=Lib.hid hz2;clear hz2
      generalize y1.setCell ⟨w.heap.size+1,0,none⟩ (.slice a1 n1 c1)=W2 at *;have hnl:=strL_len xn;have hn1l:=(numL_len 1).1;refine RegK.wpIn_region_calm (F:=(Fence.wide.inRound q)) (KeptW W2) [(0,0),(2,0),(3,0),(1,1),(4,1),(5,3)] (by kernel_rfl) (by kernel_rfl) (by kernel_rfl) ⟨rfl,rfl,rfl,Nat.le_refl _,fun _ _=>rfl⟩ ?_;dsimp only [RegK.pick,List.getElem?_cons_zero,List.getElem?_cons_succ];change RegK.Can _ _ _ _ _ _ _ _ W2.drew;have hkd:KeptW W2 W2.drew:=⟨rfl,rfl,rfl,Nat.le_refl _,fun _ _=>rfl⟩;generalize W2.drew=z1 at *;refine RegK.can_reads ?_;intro K hK;go_simp;refine ⟨.slice a1 n1 c1,fun y hy=>?_,hK _ ?_⟩
      · have k0:=(H2.out.2.1.below (KeptW.bel hy)).cell
        go_simp
      clear hK K;refine RegK.can_reads ?_;intro K hK;go_simp;(first | refine ⟨_,fun _ _=>rfl,hK _ ?_⟩ | refine hK _ ?_);clear hK K
      refine RegK.can_reads ?_;intro K hK;go_simp;refine ⟨.string xn,fun y hy=>?_,hK _ ?_⟩
      · obtain ⟨k0,k1,k2,k3⟩:=(H2.out.2.2.2.1.below (KeptW.bel hy)).cells
        go_simp
      clear hK K;refine RegK.can_turns (fun _=>trivial) ?_;intro K K0 hK hK0;go_simp;refine ⟨trivial,(fun h=>(by cases h)),?_⟩;refine (calls_round (num_any (.slice a1 n1 c1) (chgsB p++strL xk) 1 (by decide) (by rw [List.length_append];omega) z1 (H2.out.2.2.1.below (KeptW.bel hkd)).read)).mono ?_;rintro e z2 ⟨v2,rfl,ho2,hb7⟩;have z2k:KeptW W2 z2:=KeptW.mono hkd hb7;refine hK _ _ z2k ?_;clear hK K hK0 K0;obtain ⟨a2,n2,c2,rfl⟩:=ho2.read.slice;have Ho2:=Lib.hid ho2;clear ho2
      refine RegK.can_turns (fun _=>trivial) ?_;intro K K0 hK hK0;go_simp;refine ⟨trivial,(fun h=>(by cases h)),?_⟩;refine (calls_round (str_any (.slice a2 n2 c2) (chgsB p++strL xk++numL 1) xn (by rw [List.length_append,List.length_append];omega) z2 Ho2.out.read)).mono ?_;rintro e z3 ⟨v3,rfl,ho3,hb7⟩;have z3k:KeptW W2 z3:=KeptW.mono z2k hb7;refine hK _ _ z3k ?_;clear hK K hK0 K0;obtain ⟨a3,n3,c3,rfl⟩:=ho3.read.slice;have Ho3:=Lib.hid ho3;clear ho3
      have hBx:=H2.out.2.1.below (KeptW.bel z3k);have k0:=hBx.cell;have k1:=hBx.frozen;refine RegK.can_frees (fun _=>trivial) ?_;intro K K0 hK hK0;go_simp;refine hK (fun _=>True) _ _ trivial ?_;clear hK K hK0 K0 k0 k1;refine RegK.can_calm ?_;have hbZ:Below w.heap.size w z3:=H2.out.2.2.2.2.1.trans ((KeptW.bel z3k).mono Hz2.out);have hBZ:=H2.out.2.1.below (KeptW.bel z3k);have hKZ:=(H2.out.2.2.2.2.2.below (KeptW.bel z3k) Hz2.out).set (g:=w.heap.size+1) (i:=0) (x:=.slice a3 n3 c3) (by omega) (by omega);refine ⟨hKZ.f,hKZ.c,?_⟩;dsimp only;rw [Hp.out.1];refine ⟨?_,⟨_,hBZ.set,?_⟩,below_setV hbZ (by omega)⟩
      · have h:=(H2.out.1.below (KeptW.bel z3k)).other (B':=w.heap.size+1) (v':=.slice a3 n3 c3) (by omega)
        rw [List.length_append,Hm.out];exact h
      · have e:chgsB (p++[⟨xk,xo,xn,xa,true⟩])=chgsB p++strL xk++numL 1++strL xn:=by
          rw [chgsB_app];simp [chgsB,chgB]
        rw [e];exact (Ho3.out.mono (Nat.le_trans Hz2.out (KeptW.bel z2k).size)).setOther hBZ (by decide)
    | false =>
      have hn0l:=(numL_len 0).1;gi_wp2_with (first
        | (refine ⟨trivial,(fun h=>(by cases h)),?_⟩;generalize V2.setCell ⟨w.heap.size,0,none⟩ (.int .u64 ((m:Int)+1))=W1 at *; refine (calls_round (str_any _ (chgsB p) xk (by omega) W1 H1.out.2.2.1.read)).mono ?_;rintro e y1 ⟨v1,rfl,ho1,hb1⟩;obtain ⟨a1,n1,c1,rfl⟩:=ho1.read.slice;have Ho1:=Lib.hid ho1;clear ho1;have Hb1:=Lib.hid hb1;clear hb1;have d0:=(H1.out.2.1.below Hb1.out).cell;have d1:=(H1.out.2.1.below Hb1.out).frozen;obtain ⟨q0,q1,q2,q3⟩:=(H1.out.2.2.2.1.below Hb1.out).cells;clear f0 f1 f2 f3)
        | (refine ⟨trivial,(fun h=>(by cases h)),?_⟩
           have hB2:=(H1.out.2.1.below Hb1.out).set (v':=.slice a1 n1 c1);have hN2:=(H1.out.1.below Hb1.out).other (B':=w.heap.size+1) (v':=.slice a1 n1 c1) (by omega);have hC2:=(H1.out.2.2.2.1.below Hb1.out).other (i:=0) (x:=.slice a1 n1 c1) hgn;have hO2:OwnB (y1.setCell ⟨w.heap.size+1,0,none⟩ (.slice a1 n1 c1)) w.heap.size 5 (.slice a1 n1 c1) (chgsB p++strL xk):=(Ho1.out.mono Hz1.out).setOther (H1.out.2.1.below Hb1.out) (by decide);have hb2:=below_setV (i:=0) (x:=.slice a1 n1 c1) (H1.out.2.2.2.2.1.trans (Hb1.out.mono Hz1.out)) (show w.heap.size≤w.heap.size+1 by omega);have hK3:=(H1.out.2.2.2.2.2.below Hb1.out Hz1.out).set (g:=w.heap.size+1) (i:=0) (x:=.slice a1 n1 c1) (by omega) (by omega);have hz2:w.heap.size≤(y1.setCell ⟨w.heap.size+1,0,none⟩ (.slice a1 n1 c1)).heap.size:=by have h1:=Hz1.out;have h2:=Hb1.out.size;simp [World.setCell];omega
           clear H1 Ho1 Hb1 Hz1 d0 d1 q0 q1 q2 q3;have H2:=Lib.hid (And.intro hN2 (And.intro hB2 (And.intro hO2 (And.intro hC2 (And.intro hb2 hK3)))));clear hN2 hB2 hO2 hC2 hb2 hK3
           have Hz2:=Lib.hid hz2;clear hz2
           generalize y1.setCell ⟨w.heap.size+1,0,none⟩ (.slice a1 n1 c1)=W2 at *;refine (calls_round (num_any (.slice a1 n1 c1) (chgsB p++strL xk) 0 (by decide) (by rw [List.length_append];omega) W2 H2.out.2.2.1.read)).mono ?_;rintro e y2 ⟨v2,rfl,ho2,hb2⟩;obtain ⟨a2,n2,c2,rfl⟩:=ho2.read.slice;have Ho2:=Lib.hid ho2;clear ho2
           have Hb2:=Lib.hid hb2;clear hb2
           have d0:=(H2.out.2.1.below Hb2.out).cell;have d1:=(H2.out.2.1.below Hb2.out).frozen))
      have hbZ:Below w.heap.size w y2:=H2.out.2.2.2.2.1.trans (Hb2.out.mono Hz2.out);have hBZ:=H2.out.2.1.below Hb2.out;have hKZ:=(H2.out.2.2.2.2.2.below Hb2.out Hz2.out).set (g:=w.heap.size+1) (i:=0) (x:=.slice a2 n2 c2) (by omega) (by omega);refine ⟨hKZ.f,hKZ.c,?_⟩;dsimp only;rw [Hp.out.1];refine ⟨?_,⟨_,hBZ.set,?_⟩,below_setV hbZ (by omega)⟩
      · have h:=(H2.out.1.below Hb2.out).other (B':=w.heap.size+1) (v':=.slice a2 n2 c2) (by omega)
        rw [List.length_append,Hm.out];exact h
      · have e:chgsB (p++[⟨xk,xo,xn,xa,false⟩])=chgsB p++strL xk++numL 0:=by
          rw [chgsB_app];simp [chgsB,chgB]
        rw [e];exact (Ho2.out.mono Hz2.out).setOther hBZ (by decide)
  case done =>
    rintro E ys W hE hS hI hK;clear Hstops HI9;rw [hS] at hI;obtain ⟨u,hbx,hown⟩:=hI.b;obtain ⟨ua,un,uc,rfl⟩:=hown.read.slice;have hDl2:=hDl;have hGl:(chgsB D).length≤8300*D.length:=by
      rw [← hS];exact (chgsB_len _ (fun c hc=>by obtain ⟨q,_,rfl⟩:=List.mem_map.1 hc;exact q.property))
    have H1:=Lib.hid (And.intro hI.n (And.intro hbx (And.intro hown hI.bel)));clear hbx hown hI hS
    have HRW:=Lib.hid (HR.out.below H1.out.2.2.2);have HK:=Lib.hid hK;clear hK
    have HE:=Lib.hid (show w.heap.size≤E by have:=Hs9.out;omega);clear hE;dsimp only;go_upto_region 11 with fail;have Hres:=Lib.hid (show keysDB D=numL D.length++chgsB D from rfl);obtain ⟨m,hm⟩:∃ m,D.length=m:=⟨_,rfl⟩;rw [hm] at H1 hDl hGl Hres;clear hm;have hnl:=(numL_len m).1;have hws:w.heap.size≤W.heap.size:=H1.out.2.2.2.size;refine (wpIn_wide (n:=1)).1 ?_;refine RegK.wpIn_region_calm (F:=Fence.wide) (KeptW W) [(0,0),(1,0),(3,0),(2,1),(4,1),(5,0)] (by kernel_rfl) (by kernel_rfl) (by kernel_rfl) ⟨rfl,rfl,rfl,Nat.le_refl _,fun _ _=>rfl⟩ ?_;dsimp only [RegK.pick,List.getElem?_cons_zero,List.getElem?_cons_succ];change RegK.Can _ _ _ _ _ _ _ _ W.drew;have hkd:KeptW W W.drew:=⟨rfl,rfl,rfl,Nat.le_refl _,fun _ _=>rfl⟩;generalize W.drew=z1 at *;refine RegK.can_reads ?_;intro K hK;go_simp;(first | refine ⟨_,fun _ _=>rfl,hK _ ?_⟩ | refine hK _ ?_);clear hK K
    refine RegK.can_reads ?_;intro K hK;go_simp;refine ⟨.int .u64 (m:Int),fun y hy=>?_,hK _ ?_⟩
    · have k0:=(H1.out.1.below (KeptW.bel hy)).cell
      go_simp
    clear hK K;refine RegK.can_reads ?_;intro K hK;go_simp;refine ⟨.slice ua un uc,fun y hy=>?_,hK _ ?_⟩
    · have k0:=(H1.out.2.1.below (KeptW.bel hy)).cell
      go_simp
    clear hK K;refine RegK.can_turns (fun _=>trivial) ?_;intro K K0 hK hK0;go_simp;refine ⟨trivial,?_⟩;refine (callsIn_wide.2 (num_any (.slice a n c) l m (by omega) (by omega) z1 (HRW.out.below (KeptW.bel hkd)))).mono ?_;rintro e z2 ⟨v2,rfl,ho2,hb7⟩;have z2k:KeptW W z2:=KeptW.mono hkd hb7;refine hK _ _ z2k ?_;clear hK K hK0 K0;obtain ⟨a2,n2,c2,rfl⟩:=ho2.read.slice;have Ho2:=Lib.hid ho2;clear ho2
    have Hb2:=Lib.hid (KeptW.bel z2k);have Hle:=Lib.hid (show W.heap.size≤z1.heap.size from (KeptW.bel hkd).size);refine RegK.can_turns (fun _=>trivial) ?_;intro K K0 hK hK0;rw [if_pos (by simp [Region.wanted])];refine RegK.op_wide rfl ?_;refine wp_append_read _ _ 44 rfl z1.heap.size 5 i0 (.int .u8 0) Tryz.underlying44 hi0 hz0 hs0 hb0 rfl _ _ _ rfl Ho2.out _ _ rfl (H1.out.2.2.1.below Hb2.out).read (by rw [List.length_append];omega) hb7.size ?_;intro v6 w6 ho6 hg6;have hbw6:Below W.heap.size W w6:=below_grown hg6 Hb2.out Hb2.out.size (fun k hk=>Nat.le_trans Hle.out (Ho2.out.block k hk));refine hK _ _ (KeptW.mono ⟨rfl,rfl,rfl,Nat.le_refl _,fun _ _=>rfl⟩ hbw6) ?_;clear hK K hK0 K0;have Ho6:=Lib.hid (OwnB.of ho6 rfl rfl);clear ho6
    have Hb6:=Lib.hid hbw6;clear hbw6 hg6
    refine RegK.can_reads ?_;intro K hK;go_simp;(first | refine ⟨_,fun _ _=>rfl,hK _ ?_⟩ | refine hK _ ?_);clear hK K
    refine RegK.can_calm ?_;go_wp2_with fail;have hxE:w6.heap[E]?=some (.deferred (some [])):=(Hb6.out.block E (Array.getElem?_eq_some_iff.1 HK.out).1).trans HK.out;have hbE:Below w.heap.size w (w6.putObj E (.deferred none)):=(H1.out.2.2.2.trans (Hb6.out.mono hws)).trans (belowK_b (w:=w) (Nat.le_refl _) w6 E _ _ HE.out hxE rfl rfl);have hoE:OwnB (w6.putObj E (.deferred none)) w.heap.size 5 v6 (l++keysDB D):=by
      have h:=(Ho6.out.mono (Nat.le_trans hws Hle.out)).own (grownBy_putObj' w6 E (.deferred none)) (fun r e=>by cases e;exact ⟨_,hxE,rfl⟩);rw [Hres.out, ← List.append_assoc];exact h
    refine ⟨by simp,.inl ⟨_,_,rfl,run_takeDeferred hxE,?_⟩⟩;refine ⟨v6,?_,⟨v6,rfl,hoE,hbE⟩⟩;simp [results,Tryz.results139,go_sem]
theorem putKeys_any (A B:Tr) (v:Value) (l:List UInt8) (hl:l.length≤1000000) (w:World) (h:ReadB w v l) (hA:TreeAt w A) (hB:TreeAt w B) (haA:Asc A.sh.kv) (haB:Asc B.sh.kv) (hcA:A.cnt≤1000000) (hcB:B.cnt≤1000000) (hG:∀ c ∈ diffL A.kvs B.kvs,ChgOk c) :
  Calls Tryz.prog 139 #[v,.pointer A.ptr,.pointer B.ptr] w fun e w'=>∃ v',e=.returned v'∧OwnB w' w.heap.size 5 v' (l++keysDB (diffL A.kvs B.kvs))∧Below w.heap.size w w' :=
 callsIn_wide.1 (putKeys_in A B v l hl w h hA hB haA haB hcA hcB hG 3 (Nat.le_refl _))
end Go.Proofs.YtbckjgageofldaaGreat
