/- Chains: Tail. Condition: the chain lies there. -/
import Derived.Test.YtbckjgageofldaaGreatZLearnRefuses20
import Derived.Test.YtbckjgageofldaaGreatZLearnRefuses8
import Derived.Deep.MidRow
import Derived.Test.YtbckjgageofldaaGreatZLearnRefuses15
import Derived.Laws.AppendOwn
import Derived.Laws.AppendOwnNone
import Derived.OwnWalk
import Derived.Test.YtbckjgageofldaaGreatZLearnRefuses6
set_option maxRecDepth 100000
set_option maxHeartbeats 16000000
namespace Go.Proofs.YtbckjgageofldaaGreat
open Go.RowKit
theorem OwnB.cap {w:World} {base:Nat} {t:TypeId} {a:Option Addr} {n c:Nat} {l:List UInt8} (h:OwnB w base t (.slice a n c) l):l.length≤c:=by
 rcases h.2 with ⟨e,h3⟩ | ⟨g,cap,cur,e,_,_,h4,_⟩
 ·
  cases e;omega
 ·
  cases e;exact h4
theorem ReadB.drop {w:World} {a:Option Addr} {c:Nat} {l:List UInt8} (h:ReadB w (.slice a l.length c) l) (hc:l.length≤c) {k:Nat} (hk:k≤l.length):ReadB w (sliced a k l.length c 1) (l.drop k):=by
 obtain ⟨a',cap,e,h0,h2⟩:=h.out;cases e
 refine ⟨if c=k then a else a.map (·.add (k*1)),c - k,by unfold sliced;rw [List.length_drop],?_,?_⟩
 ·
  intro e;split at e
  ·
   omega
  ·
   cases a with
   | none=>have:=h0 rfl;omega
   | some a=>simp at e
 ·
  intro j u hj;have hj':(bcells l)[k+j]?=some u:=by
   unfold bcells at hj ⊢;rw [List.map_drop,List.getElem?_drop] at hj;exact hj
  have hl:=(List.getElem?_eq_some_iff.1 hj').1;rw [bcells_len] at hl;obtain ⟨b,o,rfl,hb,hcell⟩:=h2 _ _ hj';rw [if_neg (by omega)];exact ⟨b,o+k,by simp [Addr.add],hb,by rw [show o+k+j=o+(k+j) by omega];exact hcell⟩
set_option maxHeartbeats 8000000 in
theorem chtail_any (base p:Nat) (v:Value) (C:ChV) (hD:0<C.D.length) (hsz:C.D.length≤1000000) (w:World) (h:ChAt w base p v C) :
  Calls Tryz.prog 42 #[.pointer (some ⟨p,0,none⟩)] w fun e w'=>e=.returned (.string ⟨C.tail.toArray⟩)∧Below w.heap.size w w':=by
 obtain ⟨i0,hi00,hz0,hs0,hb0⟩:=info_parts info8;obtain ⟨a,n,c,rfl⟩:=h.own.read.slice;have hn:n=C.D.length:=h.own.len;subst hn;have H:=Lib.hid h;have Hlt:=Lib.hid h.lt;have hr:=h.own.read;have hcap:=h.own.cap;obtain ⟨k,hk⟩:∃ k,C.D.length - 3=k:=⟨_,rfl⟩;have hrd:=hr.drop hcap (k:=k) (by omega);have htl:C.D.drop k=C.tail:=by rw [← hk];rfl
 rw [htl] at hrd;have hlen:C.tail.length=C.D.length - k:=by rw [← htl,List.length_drop]
 have hlen3:C.tail.length≤3:=by omega
 have hmx:max ((C.D.length:Int) - 3) 0=(k:Int):=by omega
 have hk1:(0:Int)≤(k:Int):=by omega
 have hk2:(k:Int)≤(C.D.length:Int):=by omega
 have hw1:IntKind.i64.wrap ((C.D.length:Int) - 3)=(C.D.length:Int) - 3:=by rw [IntKind.wrap_i64];omega
 have Hrd:=Lib.hid hrd;have Hlen:=Lib.hid (And.intro hlen hlen3);clear hlen hlen3 hrd htl hk hr hcap h
 generalize C.tail=tl at *;go_enter Tryz.func42,Tryz.ntmps42
 go_upto_region 4 with fail;refine (wpIn_wide (n:=1)).1 ?_;refine RegJ.wpIn_region_plan (F:=Fence.wide) (KeptW w) (.step 0 0 (.step 1 0 (.step 2 0 (.step 3 0 (.step 4 0 (.step 5 0 (.step 6 0 (.step 7 0 (.step 8 0 (.step 9 0 (.step 10 0 (.step 11 0 (.step 12 0 (.step 13 0 .nil)))))))))))))) (by kernel_rfl) (by kernel_rfl) (by kernel_rfl) (fun _ _ d _ _ h=>by cases d <;> exact h) ⟨rfl,rfl,rfl,Nat.le_refl _,fun _ _=>rfl⟩ ?_;dsimp only [RegJ.pickJ,List.getElem?_cons_zero,List.getElem?_cons_succ];change RegJ.Can _ _ _ _ _ _ _ _ w.drew;have hkd:KeptW w w.drew:=⟨rfl,rfl,rfl,Nat.le_refl _,fun _ _=>rfl⟩;generalize w.drew=v1 at *;iterate 3 (refine RegJ.reads ?_;intro K hK;go_simp;(first | refine ⟨_,fun _ _=>rfl,hK _ ?_⟩ | refine hK _ ?_);clear hK K)
 refine RegJ.reads ?_;intro K hK;go_simp;refine ⟨.slice a C.D.length c,fun y hy=>?_,hK _ ?_⟩
 ·
  have f0:y.cell? ⟨p,1,none⟩=some (.slice a C.D.length c):=cell_of_row _ _ _ _ _ _ (((KeptW.bel hy).block p Hlt.out).trans H.out.row);go_simp
 clear hK K;iterate 3 (refine RegJ.reads ?_;intro K hK;go_simp;(first | refine ⟨_,fun _ _=>rfl,hK _ ?_⟩ | refine hK _ ?_);clear hK K)
 refine RegJ.reads ?_;intro K hK;go_simp;refine ⟨.slice a C.D.length c,fun y hy=>?_,hK _ ?_⟩
 ·
  have f0:y.cell? ⟨p,1,none⟩=some (.slice a C.D.length c):=cell_of_row _ _ _ _ _ _ (((KeptW.bel hy).block p Hlt.out).trans H.out.row);go_simp
 clear hK K;iterate 3 (refine RegJ.reads ?_;intro K hK;go_simp;(first | refine ⟨_,fun _ _=>rfl,hK _ ?_⟩ | refine hK _ ?_);clear hK K)
 refine RegJ.reads ?_;intro K hK;go_simp;refine ⟨sliced a k C.D.length c 1,fun y hy=>?_,hK _ ?_⟩
 ·
  have f0:=run_slice_l (P:=Tryz.prog) y 122 a C.D.length c Tryz.underlying122 .i64 (k:Int) hk1 hk2;rw [Int.toNat_natCast] at f0;go_simp
 clear hK K;iterate 2 (refine RegJ.reads ?_;intro K hK;go_simp;(first | refine ⟨_,fun _ _=>rfl,hK _ ?_⟩ | refine hK _ ?_);clear hK K)
 refine RegJ.nil ?_;have Hb1:=Lib.hid (KeptW.bel hkd);have Hrd1:=Lib.hid (Hrd.out.below Hb1.out);clear Hrd H Hlt;obtain ⟨a2,c2,he2,hn2,hc2⟩:=Hrd1.out.out;simp only [sliced,Nat.mul_one,Value.slice.injEq] at he2;obtain ⟨ea,el,ec⟩:=he2;have hrd2:ReadB v1 (.slice a2 tl.length c2) tl:=⟨a2,c2,rfl,hn2,hc2⟩;rw [ea,el,ec];have Hrd2:=Lib.hid hrd2;have Hl3:=Lib.hid (show tl.length≤3 from Hlen.out.2);clear hrd2 ea el ec hn2 hc2 Hrd1 Hlen hmx hk1 hk2 hw1 hkd;go_wp2_with fail;go_loopw [3,5,21] (fun s3 _ s21 wr=>∃ i:Nat,i≤tl.length∧s21=.int .i64 (i:Int)∧OwnB wr v1.heap.size 5 s3 (tl.take i)∧Below v1.heap.size v1 wr) (fun _ _ s21 _=>tl.length - (intOf s21).toNat)
 case atStart=>exact ⟨0,by omega,rfl,⟨rfl,.inl ⟨rfl,rfl⟩⟩,Below.refl _ _⟩
 case round =>
  obtain ⟨i,hi,rfl,ho,hb⟩:=hrel;have Ho:=Lib.hid ho;clear ho
  have Hb:=Lib.hid hb;clear hb
  by_cases hlt:i<tl.length
  ·
   have hlt':(i:Int)<(tl.length:Int):=by omega
   have hi0 : ¬ (i:Int)<0:=by omega
   have hsucc:=tsucc (n:=i) (by have:=Hl3.out;omega);obtain ⟨b,o,c3,hv,hget⟩:=Hrd2.out.get hlt;cases hv
   have f0:=hget wr Hb.out;have hone:=ReadB.one wr tl[i] 5;have Hone:=Lib.hid hone;clear hone
   have Hst:=Lib.hid (show tl.take (i+1)=tl.take i++[tl[i]] from (List.take_append_getElem hlt).symm);generalize tl[i]=x at *;have Hlen:=Lib.hid (show (tl.take i).length≤3 from by rw [List.length_take];have:=Hl3.out;omega);clear hget;go_wp2_with (at_builtin;refine wpList_append_read rfl _ _ 44 rfl v1.heap.size 5 i0 (.int .u8 0) Tryz.underlying44 hi00 hz0 hs0 hb0 rfl _ _ _ rfl (World.ownsRow.alloc Ho.out _) _ _ rfl Hone.out (by show (tl.take i).length+1≤_;have:=Hlen.out;omega) (by simp;have:=Hb.out.size;omega) ?_;intro v4 w4 ho4 hg4;have Hg4:=Lib.hid hg4;clear hg4;have Ho4:=Lib.hid ho4;clear ho4);go_roundw
   case rel =>
    refine ⟨i+1,hlt,rfl,?_,below_grown Hg4.out (Hb.out.alloc Hb.out.size _) (by simp;have:=Hb.out.size;omega) (fun q hq=>(World.ownsRow.lt Ho.out q hq).1)⟩;rw [Hst.out];exact OwnB.of Ho4.out rfl rfl
   case measure=>simp [intOf];omega
  ·
   have hlt' : ¬ (i:Int)<(tl.length:Int):=by omega
   have hi7:i=tl.length:=by omega
   subst hi7;have ho:=Ho.out;rw [List.take_length] at ho;have hcv:=ho.read.conv Tryz.underlying44 Tryz.underlying5 Tryz.underlying9;go_wp2_with fail;go_ret;exact ⟨rfl,Hb1.out.trans (Hb.out.mono Hb1.out.size)⟩
theorem chat_new (w:World) (n:Nat):ChAt (w.alloc (.cells #[.int .u64 (n:Int),.slice none 0 0] 124)) w.heap.size w.heap.size (.slice none 0 0) ⟨n,[]⟩:=⟨heap_alloc_new w _,⟨rfl,.inl ⟨rfl,rfl⟩⟩⟩
theorem chat_app {w w1 w':World} {base p x:Nat} {v:Value} {C:ChV} {a4:Option Addr} {n4 c4:Nat} (h:ChAt w base p v C) (hb:Below w.heap.size w w1) (hg:w1.grownBy w' v.ownBlock) (ho:OwnB w' base 24 (.slice a4 n4 c4) (C.D++[UInt8.ofNat x])) :
  ChAt (w'.setCell ⟨p,1,none⟩ (.slice a4 n4 c4)) base p (.slice a4 n4 c4) (C.push (UInt8.ofNat x)):=by
 have hr:=grown_row h hb hg;refine ⟨?_,OwnB.setNe ho (own_ne ho hr)⟩;rw [heap_setCell_same _ _ _ _ _ _ hr];rfl
theorem chof_bad (top:Nat) (t:List UInt8) (htop:top<18446744073709551616) (hlen:t.length≤1000000) (hbad : ¬ (top≤4611686018427387904∧t.length=min (top+1) 3)) (w:World) :
  Calls Tryz.prog 90 #[.int .u64 (top:Int),.string ⟨t.toArray⟩] w fun e w'=>e=.returned (.tuple #[.pointer none,.int .i64 2])∧Below w.heap.size w w':=by
 by_cases h1:top≤4611686018427387904
 ·
  have h1':((4611686018427387904:Int)<(top:Int))=False:=by rw [eq_iff_iff,iff_false];omega
  have h2:t.length≠min (top+1) 3:=fun e=>hbad ⟨h1,e⟩
  have hw1:IntKind.u64.wrap ((top:Int)+1)=(top:Int)+1:=by rw [IntKind.wrap_u64];omega
  have hw2:IntKind.u64.wrap (t.length:Int)=(t.length:Int):=by rw [IntKind.wrap_u64];omega
  have hmn:((t.length:Int) != min ((top:Int)+1) 3)=true:=by rw [bne_iff_ne];omega
  have hlit:t.toArray.size=t.length:=rfl;clear h1 h2 hbad htop hlen;go_enter Tryz.func90,Tryz.ntmps90
  go_wp2_with fail;refine bodyPost_ret (v:=.tuple #[.pointer none,.int .i64 2]) (by simp [results,Tryz.results90,go_sem]) rfl ?_;exact ⟨rfl,Below.refl _ _⟩
 ·
  have h1':((4611686018427387904:Int)<(top:Int))=True:=by rw [eq_iff_iff,iff_true];omega
  clear h1 hbad htop hlen;go_enter Tryz.func90,Tryz.ntmps90
  go_wp2_with fail;refine bodyPost_ret (v:=.tuple #[.pointer none,.int .i64 2]) (by simp [results,Tryz.results90,go_sem]) rfl ?_;exact ⟨rfl,Below.refl _ _⟩
def OfP (w:World) (low:Nat) (t:List UInt8) (e:Ending) (w':World):Prop:=Below w.heap.size w w'∧(t.all dirOk=true→∃ p v,e=.returned (.tuple #[.pointer (some ⟨p,0,none⟩),.int .i64 0])∧ChAt w' w.heap.size p v ⟨low,t⟩∧w.heap.size≤p)∧(t.all dirOk=false→e=.returned (.tuple #[.pointer none,.int .i64 2]))
theorem all_take {t:List UInt8} {i:Nat} (hi:i<t.length):(t.take (i+1)).all dirOk=((t.take i).all dirOk && dirOk t[i]):=by
 rw [List.take_succ_eq_append_getElem hi,List.all_append];simp
theorem chof_good (top:Nat) (t:List UInt8) (h1:top≤4611686018427387904) (h2:t.length=min (top+1) 3) (w:World) :
  Calls Tryz.prog 90 #[.int .u64 (top:Int),.string ⟨t.toArray⟩] w fun e w'=>OfP w (top+1 - t.length) t e w':=by
 obtain ⟨i0,hi00,hz0,hs0,hb0⟩:=info_parts infoSet;have h1':((4611686018427387904:Int)<(top:Int))=False:=by rw [eq_iff_iff,iff_false];omega
 have hw1:IntKind.u64.wrap ((top:Int)+1)=(top:Int)+1:=by rw [IntKind.wrap_u64];omega
 have hw2:IntKind.u64.wrap (t.length:Int)=(t.length:Int):=by rw [IntKind.wrap_u64];omega
 have hmn:((t.length:Int) != min ((top:Int)+1) 3)=false:=by rw [bne_eq_false_iff_eq];omega
 have hw3:IntKind.u64.wrap ((top:Int)+1 - (t.length:Int))=((top+1 - t.length:Nat):Int):=by rw [IntKind.wrap_u64];omega
 have Hl3:=Lib.hid (show t.length≤3 by omega);have hc0:=Lib.hid (chat_new w (top+1 - t.length));clear h1 h2;generalize top+1 - t.length=low at *;go_enter Tryz.func90,Tryz.ntmps90
 go_wp2_with fail;change Code.wp _ _ _ _ (w.alloc (.cells #[.int .u64 (low:Int),.slice none 0 0] 124));have Hb1:=Lib.hid ((Below.refl w.heap.size w).alloc (Nat.le_refl _) (.cells #[.int .u64 (low:Int),.slice none 0 0] 124));clear h1' hw1 hw2 hw3 hmn;generalize w.alloc (.cells #[.int .u64 (low:Int),.slice none 0 0] 124)=w1 at *
 go_loopw [7,8,30] (fun _ _ s30 wr=>∃ (i:Nat) (v:Value),i≤t.length∧s30=.int .i64 (i:Int)∧(t.take i).all dirOk=true∧ChAt wr w.heap.size w.heap.size v ⟨low,t.take i⟩∧Below w.heap.size w wr) (fun _ _ s30 _=>t.length - (intOf s30).toNat)
 case atStart=>exact ⟨0,_,by omega,rfl,rfl,hc0.out,Hb1.out⟩
 case round =>
  obtain ⟨i,v,hi,rfl,hall,hc,hb⟩:=hrel;have Hall:=Lib.hid hall;clear hall
  have Hc:=Lib.hid hc;have Hb:=Lib.hid hb;clear hb
  by_cases hlt:i<t.length
  ·
   have hlt':(i:Int)<(t.length:Int):=by omega
   have hi0 : ¬ (i:Int)<0:=by omega
   have hsucc:=tsucc (n:=i) (by have:=Hl3.out;omega);obtain ⟨x,hx⟩:∃ x,(⟨t.toArray⟩:ByteArray)[i]'hlt=x:=⟨_,rfl⟩;have hx2:t[i]=x:=hx;have hx8:UInt8.ofNat x.toNat=x:=by simp
   have hd:=fun y:World=>directory_any x.toNat x.toNat_lt y
   rw [hx8] at hd;have hstep:=all_take hlt;have htk:t.take (i+1)=t.take i++[t[i]]:=(List.take_append_getElem hlt).symm;rw [hx2] at hstep htk;rw [Hall.out,Bool.true_and] at hstep;by_cases hok:dirOk x=true
   ·
    rw [hok] at hd hstep;have Hd:=Lib.hid hd;clear hd
    have f1:=hc.cells.2;have e1:=hc.thawed 1;have Htk:=Lib.hid (And.intro htk hstep);clear htk hstep hx2 hok
    have hone:=fun y:World=>ReadB.one y x 24
    have Hone:=Lib.hid hone;clear hone
    have Hln:=Lib.hid (show (t.take i).length≤3 by rw [List.length_take];have:=Hl3.out;omega);clear hc;go_wp2_with (first
     | ((with_reducible refine (Hd.out _).mono ?_);rintro e w2 ⟨rfl,rfl⟩)
     | (at_builtin;refine wpList_append_read rfl _ _ 122 rfl w.heap.size 24 i0 (.int .u8 0) Tryz.underlying122 hi00 hz0 hs0 hb0 rfl _ _ _ rfl (World.ownsRow.alloc Hc.out.own _) _ _ rfl (Hone.out _) (by show (t.take i).length+1≤_;have:=Hln.out;omega) (by simp;have:=Hb.out.size;omega) ?_;intro v4 w4 ho4 hg4;have ho5:=OwnB.of (l:=t.take i) (k:=[x]) ho4 rfl rfl;clear ho4;obtain ⟨a4,n4,c4,rfl⟩:=ho5.read.slice;have hr4:=grown_row Hc.out ((Below.refl _ wr).alloc (Nat.le_refl _) _) hg4;clear f1 e1;have f1:=cell_of_row _ _ 1 _ _ _ hr4;have e1:=thawed_row 1 hr4;have H4:=Lib.hid (And.intro hr4 (And.intro ho5 hg4));clear hr4 ho5 hg4))
    go_roundw
    case rel =>
     obtain ⟨hr4,ho4,hg4⟩:=H4.out;refine ⟨i+1,.slice a4 n4 c4,hlt,rfl,Htk.out.2,?_,?_⟩
     ·
      have h:=chat_app (x:=x.toNat) Hc.out ((Below.refl _ wr).alloc (Nat.le_refl _) _) hg4 (by rw [hx8];exact ho4);unfold ChV.push at h;rw [hx8] at h;rw [Htk.out.1];exact h
     ·
      exact below_setV (below_grown hg4 (Hb.out.alloc Hb.out.size _) (by simp;have:=Hb.out.size;omega) (fun q hq=>(World.ownsRow.lt Hc.out.own q hq).1)) (Nat.le_refl _)
    case measure=>simp [intOf];omega
   ·
    rw [Bool.not_eq_true] at hok;rw [hok] at hd;have Hd:=Lib.hid hd;clear hd
    have hno : ¬ t.all dirOk=true:=by
     intro ha;rw [List.all_eq_true] at ha;have:=ha t[i] (List.getElem_mem hlt);rw [hx2,hok] at this;cases this
    have Hno:=Lib.hid hno;clear hno
    clear hstep htk hx2 hok hc;go_wp2_with ((with_reducible refine (Hd.out _).mono ?_);rintro e w2 ⟨rfl,rfl⟩);refine bodyPost_ret (v:=.tuple #[.pointer none,.int .i64 2]) (by simp [results,Tryz.results90,go_sem]) rfl ?_;exact ⟨Hb.out,fun h=>absurd h Hno.out,fun _=>rfl⟩
  ·
   have hlt' : ¬ (i:Int)<(t.length:Int):=by omega
   have hi7:i=t.length:=by omega
   subst hi7;have hall:=Hall.out;have hc:=Hc.out;rw [List.take_length] at hc hall;have Hc:=Lib.hid hc;have Ha:=Lib.hid hall;clear hc hall;clear Hall Hl3;go_wp2_with fail;refine bodyPost_ret (v:=.tuple #[.pointer (some ⟨w.heap.size,0,none⟩),.int .i64 0]) (by simp [results,Tryz.results90,go_sem]) rfl ?_;exact ⟨Hb.out,fun _=>⟨_,_,rfl,Hc.out,Nat.le_refl _⟩,fun h=>absurd (h.symm.trans Ha.out) (by decide)⟩
theorem chof_any (top:Nat) (t:List UInt8) (htop:top<18446744073709551616) (hlen:t.length≤1000000) (w:World) :
  Calls Tryz.prog 90 #[.int .u64 (top:Int),.string ⟨t.toArray⟩] w fun e w'=>Below w.heap.size w w'∧match chOf top t with
   | some C=>∃ p v,e=.returned (.tuple #[.pointer (some ⟨p,0,none⟩),.int .i64 0])∧ChAt w' w.heap.size p v C∧w.heap.size≤p
   | none=>e=.returned (.tuple #[.pointer none,.int .i64 2]):=by
 unfold chOf;by_cases h:top≤4611686018427387904∧t.length=min (top+1) 3
 ·
  refine (chof_good top t h.1 h.2 w).mono ?_;rintro e w' ⟨hb,h2⟩;refine ⟨hb,?_⟩;by_cases ha:t.all dirOk=true
  ·
   rw [if_pos ⟨h,ha⟩];exact h2.1 ha
  ·
   rw [if_neg (fun q=>ha q.2)];exact h2.2 (by simpa using ha)
 ·
  refine (chof_bad top t htop hlen h w).mono ?_;rintro e w' ⟨rfl,hb⟩;refine ⟨hb,?_⟩;rw [if_neg (fun q=>h q.1)]
theorem diff_calls {A B:MacV} (hA:MacAll A) (hB:MacAll B) (hall:A.all=B.all) {X Y:Tr} {w:World} (hX:TreeAt w X) (hY:TreeAt w Y) (hsX:X.sh=A.sh) (hsY:Y.sh=B.sh) :
  Calls Tryz.prog 76 #[macV A X.ptr,macV B Y.ptr] w fun e w'=>e=.returned (.tuple #[.string ⟨(diffM A B).toArray⟩,.int .i64 0])∧Below w.heap.size w w':=by
 have h:=ddiff_any A B X Y hA.fit hB.fit w hX hY hsX hsY;rw [if_pos hall,if_pos hall] at h;exact h
set_option maxHeartbeats 4000000 in
theorem left_any (s:List UInt8) (g:Nat) (w:World) (h:RdAt w g ⟨0,s⟩) :
  Calls Tryz.prog 91 #[.pointer (some ⟨g,0,none⟩)] w fun e w'=>e=.returned (.int .i64 (s.length:Int))∧w=w':=by
 have hf:Calls Tryz.prog 151 #[.pointer (some ⟨g,0,none⟩)] w fun e w'=>e=.returned (.bool false)∧w=w':=by simpa using failed_any ⟨0,s⟩ g w h
 have Hf:=Lib.hid hf;clear hf
 have f1:=h.cells.2;clear h;go_enter Tryz.func91,Tryz.ntmps91
 go_wp2_with ((with_reducible refine Hf.out.mono ?_);rintro e w2 ⟨rfl,rfl⟩);go_ret;exact ⟨rfl,rfl⟩
def endsB (t:List UInt8) (d:Nat):Bool:=t.getLast?.any (fun b=>decide (b.toNat=d))
set_option maxHeartbeats 4000000 in
theorem ends_any (t:List UInt8) (ht:t.length≤1000000) (d:Nat) (w:World) :
  Calls Tryz.prog 43 #[.string ⟨t.toArray⟩,.int .u8 (d:Int)] w fun e w'=>e=.returned (.bool (endsB t d))∧w'=w:=by
 by_cases h0:t=[]
 ·
  subst h0;go_enter Tryz.func43,Tryz.ntmps43
  go_wp2_with fail;go_ret;exact ⟨rfl,rfl⟩
 ·
  have hl:0<t.length:=List.length_pos_iff.2 h0;have hlt:t.length - 1<t.length:=by omega
  obtain ⟨x,hx⟩:∃ x,(⟨t.toArray⟩:ByteArray)[t.length - 1]'hlt=x:=⟨_,rfl⟩;have hx2:t[t.length - 1]=x:=hx;have hE:endsB t d=decide (x.toNat=d):=by
   unfold endsB;rw [List.getLast?_eq_getElem?,List.getElem?_eq_getElem hlt,hx2];rfl
  rw [hE];have hne:t.isEmpty=false:=by simpa using h0
  have heq:((x.toNat:Int) == (d:Int))=decide (x.toNat=d):=by rw [Bool.eq_iff_iff,beq_iff_eq,decide_eq_true_iff];omega
  have hix:IntKind.i64.wrap ((t.length:Int) - 1)=((t.length - 1:Nat):Int):=by rw [IntKind.wrap_i64];omega
  clear hE hx2;go_enter Tryz.func43,Tryz.ntmps43
  go_wp2_with fail;go_ret;exact ⟨rfl,rfl⟩
structure BsV where
 M:MacV
 P:Option Addr
 top:Nat
 t:List UInt8
def bsCells (b:BsV):List Value:=macCells b.M b.P++[.int .u64 (b.top:Int),.string ⟨b.t.toArray⟩]
def bsV (b:BsV):Value:=.agg (bsCells b).toArray
def BsAt (w:World) (g:Nat) (b:BsV):Prop:=w.heap[g]?=some (.cells (bsCells b).toArray 110 (0,0))
theorem bs_eta (b:BsV):(bsCells b).toArray=#[.int .u8 (b.M.all:Int),.int .u8 (b.M.mem:Int),.int .u32 (b.M.tab.a.seq.toNat:Int),.int .u8 (b.M.tab.a.code:Int),.string b.M.tab.a.text,.int .u32 (b.M.tab.b.seq.toNat:Int),.int .u8 (b.M.tab.b.code:Int),.string b.M.tab.b.text,.int .u32 (b.M.tab.c.seq.toNat:Int),.int .u8 (b.M.tab.c.code:Int),.string b.M.tab.c.text,.int .u32 (b.M.tab.d.seq.toNat:Int),.int .u8 (b.M.tab.d.code:Int),.string b.M.tab.d.text,.pointer b.P,.int .u64 (b.top:Int),.string ⟨b.t.toArray⟩]:=rfl
theorem BsAt.lt {w:World} {g:Nat} {b:BsV} (h:BsAt w g b):g<w.heap.size:=(Array.getElem?_eq_some_iff.1 h).1
theorem BsAt.below {w w':World} {g:Nat} {b:BsV} (h:BsAt w g b) (hb:Below w.heap.size w w'):BsAt w' g b:=(hb.block g h.lt).trans h
theorem BsAt.cells {w:World} {g:Nat} {b:BsV} (h:BsAt w g b):w.cell? ⟨g,0,none⟩=some (.int .u8 (b.M.all:Int))∧w.cell? ⟨g,1,none⟩=some (.int .u8 (b.M.mem:Int))∧w.cell? ⟨g,2,none⟩=some (.int .u32 (b.M.tab.a.seq.toNat:Int))∧w.cell? ⟨g,3,none⟩=some (.int .u8 (b.M.tab.a.code:Int))∧w.cell? ⟨g,4,none⟩=some (.string b.M.tab.a.text)∧w.cell? ⟨g,5,none⟩=some (.int .u32 (b.M.tab.b.seq.toNat:Int))∧w.cell? ⟨g,6,none⟩=some (.int .u8 (b.M.tab.b.code:Int))∧w.cell? ⟨g,7,none⟩=some (.string b.M.tab.b.text)∧w.cell? ⟨g,8,none⟩=some (.int .u32 (b.M.tab.c.seq.toNat:Int))∧w.cell? ⟨g,9,none⟩=some (.int .u8 (b.M.tab.c.code:Int))∧w.cell? ⟨g,10,none⟩=some (.string b.M.tab.c.text)∧w.cell? ⟨g,11,none⟩=some (.int .u32 (b.M.tab.d.seq.toNat:Int))∧w.cell? ⟨g,12,none⟩=some (.int .u8 (b.M.tab.d.code:Int))∧w.cell? ⟨g,13,none⟩=some (.string b.M.tab.d.text)∧w.cell? ⟨g,14,none⟩=some (.pointer b.P)∧w.cell? ⟨g,15,none⟩=some (.int .u64 (b.top:Int))∧w.cell? ⟨g,16,none⟩=some (.string ⟨b.t.toArray⟩) :=
 ⟨cell_of_row _ _ _ _ _ _ h,cell_of_row _ _ _ _ _ _ h,cell_of_row _ _ _ _ _ _ h,cell_of_row _ _ _ _ _ _ h,cell_of_row _ _ _ _ _ _ h,cell_of_row _ _ _ _ _ _ h,cell_of_row _ _ _ _ _ _ h,cell_of_row _ _ _ _ _ _ h,cell_of_row _ _ _ _ _ _ h,cell_of_row _ _ _ _ _ _ h,cell_of_row _ _ _ _ _ _ h,cell_of_row _ _ _ _ _ _ h,cell_of_row _ _ _ _ _ _ h,cell_of_row _ _ _ _ _ _ h,cell_of_row _ _ _ _ _ _ h,cell_of_row _ _ _ _ _ _ h,cell_of_row _ _ _ _ _ _ h⟩
theorem base_size:(Tryz.prog.info? 110).map (·.size)=some 17:=by kernel_rfl
theorem bs_loadVar {y:World} {g:Nat} {b:BsV} (h:BsAt y g b):(loadVar 110 ⟨g,0,none⟩).run Tryz.prog y=.ok (bsV b) y :=
 run_loadVar_row y g _ _ (bsCells b).toArray (0,0) _ h Tryz.underlying110 rfl base_size
theorem bs_loadMid {y:World} {g o:Nat} {b:BsV} (h:y.rangeAt g o (bsCells b)):(loadVar 110 ⟨g,o,none⟩).run Tryz.prog y=.ok (bsV b) y :=
 run_loadVar_mid y g o _ (bsCells b) _ h Tryz.underlying110 rfl base_size
set_option maxHeartbeats 8000000 in
theorem btext_any (b:BsV) (T:Tr) (hM:MacFit b.M) (ht:b.t.length≤1000000) (hP:b.P=T.ptr) (w:World) (hat:TreeAt w T) (hsh:T.sh=b.M.sh) :
  Calls Tryz.prog 41 #[bsV b] w fun e w'=>e=.returned (.string ⟨(textB b.t b.M).toArray⟩)∧Below w.heap.size w w':=by
 have hb1:=(Below.refl w.heap.size w).alloc (Nat.le_refl _) (.cells (bsCells b).toArray 110);have hm1:BsAt (w.alloc (.cells (bsCells b).toArray 110)) w.heap.size b:=heap_alloc_new _ _;have hB:∀ y:World,Below w.heap.size w y→Calls Tryz.prog 19 #[macV b.M b.P] y fun e w'=>e=.returned (.string ⟨(macB b.M).toArray⟩)∧Below y.heap.size y w':=fun y hy=>by
  rw [hP];exact mbytes_any b.M T (macFit_by hM) y (hat.below hy) hsh
 have HB:=Lib.hid hB;have Ht:=Lib.hid ht;have hE:(textB b.t b.M)=strL ⟨b.t.toArray⟩++macB b.M:=by
  unfold textB strL;rfl
 have HE:=Lib.hid hE;have hlim : ¬ 9223372036854775807<(strL ⟨b.t.toArray⟩).length+(macB b.M).length:=by
  have h1:=strL_len ⟨b.t.toArray⟩;have h2:(⟨b.t.toArray⟩:ByteArray).size=b.t.length:=rfl;have h3:=macHead_len (macFit_by hM);have h4:=pairsB_len b.M.sh.kv (macFit_by hM).kv;have h5:=hM.kv.num;rw [cnt_kv] at h5;unfold macB;rw [List.length_append];omega
 clear hB ht hE hM hP hat hsh;unfold bsV;rw [bs_eta] at hb1 hm1 ⊢;go_enter Tryz.func41,Tryz.ntmps41
 go_upto_region 1 with fail;have Hm1:=Lib.hid (show BsAt _ _ _ from hm1);have Hb1:=Lib.hid hb1;rw [← bs_eta] at Hm1 Hb1;clear hm1 hb1;simp only [← bs_eta];change Code.wp _ _ _ _ (w.alloc (.cells (bsCells b).toArray 110));generalize w.alloc (.cells (bsCells b).toArray 110)=w1 at *;refine (wpIn_wide (n:=1)).1 ?_;refine RegJ.wpIn_region_plan (F:=Fence.wide) (KeptW w1) (.step 0 0 (.step 1 0 (.step 4 0 (.step 5 0 (.step 2 1 (.step 3 0 (.step 6 1 (.step 7 0 (.step 8 0 .nil))))))))) (by kernel_rfl) (by kernel_rfl) (by kernel_rfl) (fun _ _ d _ _ h=>by cases d <;> exact h) ⟨rfl,rfl,rfl,Nat.le_refl _,fun _ _=>rfl⟩ ?_;dsimp only [RegJ.pickJ,List.getElem?_cons_zero,List.getElem?_cons_succ];change RegJ.Can _ _ _ _ _ _ _ _ w1.drew;have hkd:KeptW w1 w1.drew:=⟨rfl,rfl,rfl,Nat.le_refl _,fun _ _=>rfl⟩;have hkp:=hkd;generalize w1.drew=v1 at *;refine RegJ.reads ?_;intro K hK;go_simp;(first | refine ⟨_,fun _ _=>rfl,hK _ ?_⟩ | refine hK _ ?_);clear hK K;refine RegJ.reads ?_;intro K hK;go_simp;refine ⟨.string ⟨b.t.toArray⟩,fun y hy=>?_,hK _ ?_⟩
 ·
  have f0:y.cell? ⟨w.heap.size,16,none⟩=some (.string ⟨b.t.toArray⟩):=cell_of_row _ _ _ _ _ _ (Hm1.out.below (KeptW.bel hy));go_simp
 clear hK K;refine RegJ.reads ?_;intro K hK;go_simp;(first | refine ⟨_,fun _ _=>rfl,hK _ ?_⟩ | refine hK _ ?_);clear hK K;refine RegJ.reads ?_;intro K hK;go_simp;refine ⟨macV b.M b.P,fun y hy=>?_,hK _ ?_⟩
 ·
  unfold macV;rw [mac_eta];obtain ⟨m0,m1,m2,m3,m4,m5,m6,m7,m8,m9,m10,m11,m12,m13,m14,m15,m16⟩:=(Hm1.out.below (KeptW.bel hy)).cells;go_simp
 clear hK K;refine RegJ.turns (fun _=>trivial) ?_;intro K K0 hK hK0;go_simp;refine ⟨trivial,?_⟩;refine (callsIn_wide.2 (str_any _ [] ⟨b.t.toArray⟩ (by show 0+b.t.length≤_;have:=Ht.out;omega) v1 (ReadB.nil _))).mono ?_;rintro e x1 ⟨v2,rfl,ho2,hb7⟩;have x1k:KeptW w1 x1:=KeptW.mono hkd hb7;have x1p:KeptW w1 x1:=KeptW.mono hkp hb7;refine hK (KeptW x1) _ x1 (fun y hy=>KeptW.mono x1p (KeptW.bel hy)) (KeptW.refl x1) ?_;clear hK K hK0 K0 hb7;have Hro:=Lib.hid ho2.read;clear ho2;obtain ⟨a2,n2,c2,rfl⟩:=Hro.out.slice;have x1r:=KeptW.refl x1;refine RegJ.reads ?_;intro K hK;go_simp;refine ⟨.string ⟨(strL ⟨b.t.toArray⟩).toArray⟩,fun y hy=>?_,hK _ ?_⟩
 ·
  have hcv:=(Hro.out.below (KeptW.bel hy)).conv Tryz.underlying44 Tryz.underlying5 Tryz.underlying9;rw [List.nil_append] at hcv;go_simp
 clear hK K;refine RegJ.turns (fun _=>trivial) ?_;intro K K0 hK hK0;go_simp;refine ⟨trivial,?_⟩;refine (callsIn_wide.2 (HB.out _ (Hb1.out.trans ((KeptW.bel x1k).mono Hb1.out.size)))).mono ?_;rintro e x2 ⟨rfl,hb7⟩;have x2k:KeptW w1 x2:=KeptW.mono x1k hb7;have x2p:KeptW x1 x2:=KeptW.mono x1r hb7;refine hK (KeptW x2) _ x2 (fun y hy=>KeptW.mono x2p (KeptW.bel hy)) (KeptW.refl x2) ?_;clear hK K hK0 K0 hb7;have x2r:=KeptW.refl x2;refine RegJ.reads ?_;intro K hK;go_simp;(first | refine ⟨_,fun _ _=>rfl,hK _ ?_⟩ | refine hK _ ?_);clear hK K;refine RegJ.reads ?_;intro K hK;go_simp;(first | refine ⟨_,fun _ _=>rfl,hK _ ?_⟩ | refine hK _ ?_);clear hK K;refine RegJ.nil ?_;go_wp2_with fail;go_ret;refine ⟨?_,Hb1.out.trans ((KeptW.bel x2k).mono Hb1.out.size)⟩;rw [HE.out];exact congrArg (fun s=>Ending.returned (Value.string s)) (str_app _ _)
theorem ltext_any (M:MacV) (P:Option Addr) (T:Tr) (hM:MacFit M) (hP:P=T.ptr) (base p:Nat) (v:Value) (C:ChV) (hD:0<C.D.length) (hsz:C.D.length≤1000000) (w:World) (hc:ChAt w base p v C) (hat:TreeAt w T) (hsh:T.sh=M.sh) :
  Calls Tryz.prog 25 #[.pointer (some ⟨p,0,none⟩),macV M P] w fun e w'=>e=.returned (.string ⟨(textB C.tail M).toArray⟩)∧Below w.heap.size w w':=by
 have hb1:=(Below.refl w.heap.size w).alloc (Nat.le_refl _) (.cells (macCells M P).toArray 38);have hm1:MacAt (w.alloc (.cells (macCells M P).toArray 38)) w.heap.size M P:=heap_alloc_new _ _;have htl:C.tail.length≤1000000:=by have:=tail_len C;omega
 have hB:∀ y:World,Below w.heap.size w y→Calls Tryz.prog 41 #[bsV ⟨M,P,0,C.tail⟩] y fun e w'=>e=.returned (.string ⟨(textB C.tail M).toArray⟩)∧Below y.heap.size y w':=fun y hy =>
  btext_any ⟨M,P,0,C.tail⟩ T hM htl hP y (hat.below hy) hsh
 have hT:∀ y:World,Below w.heap.size w y→Calls Tryz.prog 42 #[.pointer (some ⟨p,0,none⟩)] y fun e w'=>e=.returned (.string ⟨C.tail.toArray⟩)∧Below y.heap.size y w':=fun y hy=>chtail_any base p v C hD hsz y (hc.below hy)
 have HB:=Lib.hid hB;have HT:=Lib.hid hT;clear hB hT htl hM hP hat hsh hc hD hsz;generalize C.tail=tl at *;unfold macV;rw [mac_eta] at hb1 hm1 ⊢;go_enter Tryz.func25,Tryz.ntmps25
 go_upto_region 1 with fail;rw [← mac_eta] at hm1 hb1;have Hm1:=Lib.hid hm1;have Hb1:=Lib.hid hb1;clear hm1 hb1;simp only [← mac_eta];change Code.wp _ _ _ _ (w.alloc (.cells (macCells M P).toArray 38));generalize w.alloc (.cells (macCells M P).toArray 38)=w1 at *;refine (wpIn_wide (n:=1)).1 ?_;refine RegJ.wpIn_region_plan (F:=Fence.wide) (KeptW w1) (.step 0 0 (.step 1 0 (.step 2 1 (.step 3 0 (.step 4 1 (.step 5 0 .nil)))))) (by kernel_rfl) (by kernel_rfl) (by kernel_rfl) (fun _ _ d _ _ h=>by cases d <;> exact h) ⟨rfl,rfl,rfl,Nat.le_refl _,fun _ _=>rfl⟩ ?_;dsimp only [RegJ.pickJ,List.getElem?_cons_zero,List.getElem?_cons_succ];change RegJ.Can _ _ _ _ _ _ _ _ w1.drew;have hkd:KeptW w1 w1.drew:=⟨rfl,rfl,rfl,Nat.le_refl _,fun _ _=>rfl⟩;generalize w1.drew=v1 at *;refine RegJ.reads ?_;intro K hK;go_simp;refine ⟨.agg #[.int .u8 (M.all:Int),.int .u8 (M.mem:Int),.int .u32 (M.tab.a.seq.toNat:Int),.int .u8 (M.tab.a.code:Int),.string M.tab.a.text,.int .u32 (M.tab.b.seq.toNat:Int),.int .u8 (M.tab.b.code:Int),.string M.tab.b.text,.int .u32 (M.tab.c.seq.toNat:Int),.int .u8 (M.tab.c.code:Int),.string M.tab.c.text,.int .u32 (M.tab.d.seq.toNat:Int),.int .u8 (M.tab.d.code:Int),.string M.tab.d.text,.pointer P],fun y hy=>?_,hK _ ?_⟩
 ·
  obtain ⟨⟨m0,m1,m14⟩,⟨m2,m3,m4⟩,⟨m5,m6,m7⟩,⟨m8,m9,m10⟩,⟨m11,m12,m13⟩⟩:=(Hm1.out.below (KeptW.bel hy)).cells;go_simp
 clear hK K;refine RegJ.reads ?_;intro K hK;go_simp;(first | refine ⟨_,fun _ _=>rfl,hK _ ?_⟩ | refine hK _ ?_);clear hK K
 refine RegJ.turns (fun _=>trivial) ?_;intro K K0 hK hK0;go_simp;refine ⟨trivial,?_⟩;refine (callsIn_wide.2 (HT.out v1 (Hb1.out.trans ((KeptW.bel hkd).mono Hb1.out.size)))).mono ?_;rintro e v2 ⟨rfl,hb7⟩;have v2k:KeptW w1 v2:=KeptW.mono hkd hb7;refine hK _ _ _ (fun _ h=>h) v2k ?_;clear hK K hK0 K0;refine RegJ.reads ?_;intro K hK;go_simp;(first | refine ⟨_,fun _ _=>rfl,hK _ ?_⟩ | refine hK _ ?_);clear hK K
 refine RegJ.turns (fun _=>trivial) ?_;intro K K0 hK hK0;go_simp;refine ⟨trivial,?_⟩;refine (callsIn_wide.2 ((show Calls Tryz.prog 41 #[bsV ⟨M,P,0,tl⟩] _ _ from HB.out v2 (Hb1.out.trans ((KeptW.bel v2k).mono Hb1.out.size))))).mono ?_;rintro e v3 ⟨rfl,hb7⟩;have v3k:KeptW w1 v3:=KeptW.mono v2k hb7;refine hK _ _ _ (fun _ h=>h) v3k ?_;clear hK K hK0 K0;refine RegJ.reads ?_;intro K hK;go_simp;(first | refine ⟨_,fun _ _=>rfl,hK _ ?_⟩ | refine hK _ ?_);clear hK K
 refine RegJ.nil ?_;go_wp2_with fail;go_ret;exact ⟨rfl,Hb1.out.trans ((KeptW.bel v3k).mono Hb1.out.size)⟩
section
variable {α : Type} {enc : α → List Value} {k : Nat}
def flat (enc:α→List Value) (z:List α):List Value:=z.flatMap enc
theorem flat_len (hk:∀ x,(enc x).length=k):∀ z:List α,(flat enc z).length=z.length*k
 | []=>by simp [flat]
 | x::r=>by
  have h:=flat_len hk r;unfold flat at *
  rw [List.flatMap_cons,List.length_append,hk,h,List.length_cons,Nat.succ_mul];omega
theorem flat_app (z y:List α):flat enc (z++y)=flat enc z++flat enc y:=by simp [flat]
theorem flat_at (hk:∀ x,(enc x).length=k):∀ (z:List α) (i r:Nat) (x:α) (u:Value),z[i]?=some x→(enc x)[r]?=some u→(flat enc z)[i*k+r]?=some u
 | [],_,_,_,_,h,_=>by simp at h
 | y::l,0,r,x,u,h,hu=>by
  simp at h;subst h;have hr:r<(enc y).length:=(List.getElem?_eq_some_iff.1 hu).1;unfold flat;rw [List.flatMap_cons,Nat.zero_mul,Nat.zero_add,List.getElem?_append_left hr,hu]
 | y::l,i+1,r,x,u,h,hu=>by
  simp at h;have ih:=flat_at hk l i r x u h hu;unfold flat at *
  rw [List.flatMap_cons,List.getElem?_append_right (by rw [hk,Nat.succ_mul];omega),hk,Nat.succ_mul,show i*k+k+r - k=i*k+r by omega];exact ih
theorem flat_get (hk:∀ x,(enc x).length=k) (hk0:0<k) {z:List α} {j:Nat} {u:Value} (h:(flat enc z)[j]?=some u):∃ x,z[j / k]?=some x∧(enc x)[j % k]?=some u:=by
 have hj:j<z.length*k:=by
  have:=(List.getElem?_eq_some_iff.1 h).1;rwa [flat_len hk] at this
 have hi:j / k<z.length:=Nat.div_lt_of_lt_mul (by rw [Nat.mul_comm];exact hj);have hr:j % k<(enc z[j / k]).length:=by rw [hk];exact Nat.mod_lt _ hk0
 have e:=flat_at hk z (j / k) (j % k) z[j / k] _ (List.getElem?_eq_getElem hi) (List.getElem?_eq_getElem hr);rw [show j / k*k+j % k=j by rw [Nat.mul_comm];exact Nat.div_add_mod j k,h] at e;cases e
 exact ⟨_,List.getElem?_eq_getElem hi,List.getElem?_eq_getElem hr⟩
theorem flat_one (h1:∀ x,∀ u ∈ enc x,u.oneCell'=true) (z:List α):∀ u ∈ flat enc z,u.oneCell'=true:=by
 intro u hu;obtain ⟨x,_,hx⟩:=List.mem_flatMap.1 hu;exact h1 x u hx
theorem own_slice {w:World} {base:Nat} {e:TypeId} {A:Option Addr} {n c:Nat} {z:List α} (hk:∀ x,(enc x).length=k) (h:w.ownsRow base e k (.slice A n c) n (flat enc z)) (hz:z.length=n) (hm:n≤maxLen):SliceAt k enc w A n z:=by
 obtain ⟨h1,h2⟩:=h;refine ⟨hz,hm,fun i x hx=>?_⟩;have hi:i<z.length:=(List.getElem?_eq_some_iff.1 hx).1;rcases h2 with ⟨_,h3⟩ | ⟨g,cap,cur,e1,_,hg,_,_,_,ht⟩
 ·
  omega
 ·
  cases e1
  refine ⟨g,0,rfl,(Array.getElem?_eq_some_iff.1 hg).1,fun j v hj=>?_⟩;have e:=flat_at hk z i j x v hx hj;have hlt:i*k+j<n*k:=by
   have:=(List.getElem?_eq_some_iff.1 e).1;rwa [flat_len hk,hz] at this
  rw [← ht,List.getElem?_take,if_pos hlt,Array.getElem?_toList] at e;simp only [World.cell?,hg,Nat.zero_add];simpa using e
theorem own_nil {w:World} {base:Nat} {e:TypeId} {A:Option Addr} {n c:Nat} {xs:List Value} (h:w.ownsRow base e k (.slice A n c) n xs):A=none→n=0∧c=0:=by
 rintro rfl;rcases h.2 with ⟨e1,_⟩ | ⟨g,cap,cur,e1,_⟩
 ·
  cases e1;exact ⟨rfl,rfl⟩
 ·
  cases e1
theorem own_slice_of {w:World} {base:Nat} {e:TypeId} {v:Value} {n:Nat} {xs:List Value} (h:w.ownsRow base e k v n xs):∃ A c,v=.slice A n c:=by
 rcases h.2 with ⟨rfl,rfl⟩ | ⟨g,cap,cur,rfl,_⟩
 ·
  exact ⟨none,0,rfl⟩
 ·
  exact ⟨_,_,rfl⟩
theorem wp_append_slice {P:Program} {w:World} {o:Oper} {a:Act} {K:Act→World→Prop} {Q:Exit→Act→World→Prop} (s x:Operand) (t:TypeId)
  (ho:o.op=.call { callee:=.builtin .append,args:=#[s,x],argTypes:=#[t,t] })
  (base:Nat) (e:TypeId) (i:TypeInfo) (z0:Value) (bytes:Nat) (ht:P.underlying t=some (.slice e)) (hi:P.info? e=some i) (hz:i.zero=some z0)
  (hsize:i.size=k) (hby:i.bytes=bytes) (hzs:z0.cells.size=k) (hk0:0<k) (hk:∀ x,(enc x).length=k) (h1:∀ x,∀ u ∈ enc x,u.oneCell'=true)
  (v:Value) (n:Nat) (xs:List Value) (hs:a.eval s=v) (hown:w.ownsRow base e k v n xs) (A:Option Addr) (m c:Nat) (z:List α) (hx:a.eval x=.slice A m c) (hsrc:SliceAt k enc w A m z) (hnil:A=none→m=0∧c=0)
  (h63:n+m≤maxLen) (hbytes:(n+m)*bytes≤140737488355328) (hbase:base≤w.heap.size)
  (h:∀ v' w',w'.ownsRow base e k v' (n+m) (xs++flat enc z)→w.grownBy w' v.ownBlock→K (a.put o.dst v') w'):o.wp P a w K Q:=by
 cases A with
 | none =>
  obtain ⟨rfl,rfl⟩:=hnil rfl;have hz0:z=[]:=List.eq_nil_of_length_eq_zero hsrc.hlen;subst hz0;have hrun:=run_append_owned_none (P:=P) (w:=w) base t o.type e i k ht hi v n xs hown;have hh:=h v w (by simpa [flat] using hown) (World.grownBy.refl w _);unfold Oper.wp;simp [execOp,ho,resolve,invoke,builtin,hs,hx,hrun,Result.andThen];exact hh
 | some ad =>
  refine wp_append_own w s x t ho base e i z0 k bytes ht hi hz hsize hby hzs hk0 v n xs hs hown ad m c (flat enc z) hx (by rw [flat_len hk,hsrc.hlen]) (fun j u hj=>?_) (flat_one h1 z) h63 hbytes hbase (fun v' w' h3 h4 _=>h v' w' h3 h4);obtain ⟨y,hy,hu⟩:=flat_get hk hk0 hj;obtain ⟨b,o',e1,_,e3⟩:=hsrc.cells _ y hy;cases e1
  rw [Addr.add_lit, ← e3 _ u hu,show j / k*k+j % k=j by rw [Nat.mul_comm];exact Nat.div_add_mod j k]
end
theorem bs_len (b:BsV):(bsCells b).length=17:=rfl
theorem bs_one (b:BsV):∀ u ∈ bsCells b,u.oneCell'=true:=by
 intro u hu;have e:bsCells b=(bsCells b).toArray.toList:=rfl;rw [e,bs_eta] at hu;simp only [List.mem_cons,List.not_mem_nil,or_false] at hu;rcases hu with rfl | rfl | rfl | rfl | rfl | rfl | rfl | rfl | rfl | rfl | rfl | rfl | rfl | rfl | rfl | rfl | rfl <;> rfl
theorem BsAt.thawed {w:World} {g:Nat} {b:BsV} (h:BsAt w g b) (j:Nat):w.frozen? ⟨g,j,none⟩=false:=by
 unfold BsAt at h;unfold World.frozen?;rw [h];rfl
theorem bsSt_at {y:World} {g:Nat} {b0:BsV} (h:BsAt y g b0) (b:BsV):BsAt (rowSt y g 0 (bsCells b)) g b:=rowSt_row (bsCells b) [] (bsCells b0) y h rfl
def bs0:BsV:=⟨macNone,none,0,[]⟩
structure ShAt (w:World) (base p:Nat) (v:Value) (L:List BsV):Prop where
 row:w.heap[p]?=some (.cells #[v] 114 (0,0))
 own:w.ownsRow base 110 17 v L.length (flat bsCells L)
theorem ShAt.lt {w:World} {base p:Nat} {v:Value} {L:List BsV} (h:ShAt w base p v L):p<w.heap.size:=(Array.getElem?_eq_some_iff.1 h.row).1
theorem ShAt.get {w:World} {base p:Nat} {v:Value} {L:List BsV} (h:ShAt w base p v L):w.cell? ⟨p,0,none⟩=some v:=cell_of_row _ _ _ _ _ _ h.row
theorem ShAt.below {w w':World} {base p:Nat} {v:Value} {L:List BsV} (h:ShAt w base p v L) (hb:Below w.heap.size w w'):ShAt w' base p v L:=by
 refine ⟨(hb.block p h.lt).trans h.row,h.own.1,?_⟩;rcases h.own.2 with h2 | ⟨g,cap,cur,e,h3,hg,h4⟩
 ·
  exact .inl h2
 ·
  exact .inr ⟨g,cap,cur,e,h3,(hb.block g (Array.getElem?_eq_some_iff.1 hg).1).trans hg,h4⟩
theorem ShAt.at_ {w:World} {base p:Nat} {v:Value} {L:List BsV} (h:ShAt w base p v L) {J:Nat} {b:BsV} (hb:L[J]?=some b):∃ B c,v=.slice (some ⟨B,0,none⟩) L.length c∧∀ y:World,Below w.heap.size w y→y.rangeAt B (J*17) (bsCells b):=by
 have hJ:J<L.length:=(List.getElem?_eq_some_iff.1 hb).1;rcases h.own.2 with ⟨_,h3⟩ | ⟨g,cap,cur,e,_,hg,_,_,_,ht⟩
 ·
  omega
 ·
  refine ⟨g,cap,e,fun y hy=>?_⟩;have hy2:=(hy.block g (Array.getElem?_eq_some_iff.1 hg).1).trans hg;have key:∀ r u,(bsCells b)[r]?=some u→y.cell? ⟨g,J*17+r,none⟩=some u:=by
   intro r u hu;have e1:=flat_at bs_len L J r b u hb hu;have hlt:J*17+r<L.length*17:=by
    have:=(List.getElem?_eq_some_iff.1 e1).1;rwa [flat_len bs_len] at this
   rw [← ht,List.getElem?_take,if_pos hlt,Array.getElem?_toList] at e1;simp only [World.cell?,hy2];simpa using e1
  exact key
theorem bs_loads (ρ:Operand→Value) (o:Oper) (a:Operand) (h:o.op=.load 110 a) {g off:Nat} {b:BsV} (ha:ρ a=.pointer (some ⟨g,off,none⟩)) {y:World} (hm:y.rangeAt g off (bsCells b)) :
  (execOp ρ o).run Tryz.prog y=.ok (.value (bsV b)) y:=by
 simp only [execOp,h,ha,Instr.loadAt,Instr.sureAddr,Sem.run_bind,Sem.run_pure,Result.andThen_ok,bs_loadMid hm]
theorem newest_last (base p:Nat) (v:Value) (L:List BsV) (b:BsV) (hL:L[L.length - 1]?=some b) (hsz:L.length≤1000000) (w:World) (h:ShAt w base p v L) :
  Calls Tryz.prog 39 #[.pointer (some ⟨p,0,none⟩)] w fun e w'=>e=.returned (bsV b)∧Below w.heap.size w w':=by
 have hb1:=(Below.refl w.heap.size w).alloc (Nat.le_refl _) (.cells (bsCells bs0).toArray 110);have hm1:BsAt (w.alloc (.cells (bsCells bs0).toArray 110)) w.heap.size bs0:=heap_alloc_new _ _;have hn0:0<L.length:=by
  have:=(List.getElem?_eq_some_iff.1 hL).1;omega
 obtain ⟨B,c,rfl,hat⟩:=h.at_ hL;have H:=Lib.hid (h.below hb1);have Hat:=Lib.hid (fun (y:World) (hy:Below (w.alloc (.cells (bsCells bs0).toArray 110)).heap.size (w.alloc (.cells (bsCells bs0).toArray 110)) y)=>hat y (hb1.trans (hy.mono hb1.size)));clear hat hL h;generalize hn:L.length=n at *
 obtain ⟨g,hg⟩:∃ g,w.heap.size=g:=⟨_,rfl⟩;rw [hg] at hm1;have hne:((n:Int) == 0)=false:=by rw [beq_eq_false_iff_ne];omega
 have hw1:IntKind.i64.wrap ((n:Int) - 1)=((n - 1:Nat):Int):=by rw [IntKind.wrap_i64];omega
 have hj1:((n - 1:Nat):Int)<(n:Int):=by omega
 have hj0 : ¬ ((n - 1:Nat):Int)<0:=by omega
 clear hn0 hsz;generalize n - 1=J at *;go_enter Tryz.func39,Tryz.ntmps39
 go_upto_region 1 with fail;change Code.wp _ _ _ _ (w.alloc (.cells (bsCells bs0).toArray 110));generalize w.alloc (.cells (bsCells bs0).toArray 110)=w1 at *;have Hm1:=Lib.hid hm1;have Hbel:=Lib.hid hb1;have Hg:=Lib.hid (Nat.le_of_eq hg);have f0:=H.out.get;clear hm1 hb1 hg;go_upto_region 3 with fail;refine (wpIn_wide (n:=1)).1 ?_;refine RegK.wpIn_region_can (F:=Fence.wide) (KeptW w1) [(0,0),(1,0),(2,0),(3,0),(4,0),(5,0),(6,0),(7,0),(8,0),(9,0),(10,0),(11,0),(12,3)] (by kernel_rfl) (by kernel_rfl) (by kernel_rfl) (fun _ _ d _ _ h=>by cases d <;> exact h) ⟨rfl,rfl,rfl,Nat.le_refl _,fun _ _=>rfl⟩ ?_;dsimp only [RegK.pick,List.getElem?_cons_zero,List.getElem?_cons_succ];change RegK.Can _ _ _ _ _ _ _ _ w1.drew;have hkd:KeptW w1 w1.drew:=⟨rfl,rfl,rfl,Nat.le_refl _,fun _ _=>rfl⟩;generalize w1.drew=v1 at *;iterate 3 (refine RegK.can_reads ?_;intro K hK;go_simp;(first | refine ⟨_,fun _ _=>rfl,hK _ ?_⟩ | refine hK _ ?_);clear hK K)
 refine RegK.can_reads ?_;intro K hK;go_simp;refine ⟨.slice (some ⟨B,0,none⟩) n c,fun y hy=>?_,hK _ ?_⟩
 ·
  have f0:y.cell? ⟨p,0,none⟩=some (.slice (some ⟨B,0,none⟩) n c):=(H.out.below (KeptW.bel hy)).get;go_simp
 clear hK K;iterate 3 (refine RegK.can_reads ?_;intro K hK;go_simp;(first | refine ⟨_,fun _ _=>rfl,hK _ ?_⟩ | refine hK _ ?_);clear hK K)
 refine RegK.can_reads ?_;intro K hK;go_simp;refine ⟨.slice (some ⟨B,0,none⟩) n c,fun y hy=>?_,hK _ ?_⟩
 ·
  have f0:y.cell? ⟨p,0,none⟩=some (.slice (some ⟨B,0,none⟩) n c):=(H.out.below (KeptW.bel hy)).get;go_simp
 clear hK K;iterate 3 (refine RegK.can_reads ?_;intro K hK;go_simp;(first | refine ⟨_,fun _ _=>rfl,hK _ ?_⟩ | refine hK _ ?_);clear hK K)
 refine RegK.can_reads ?_;intro K hK;rw [if_pos (by simp [Region.wanted])];refine ⟨bsV b,fun y hy=>?_,hK _ ?_⟩
 ·
  exact bs_loads _ _ _ rfl rfl (Hat.out y (KeptW.bel hy))
 clear hK K;go_simp;have Hm2:=Lib.hid (Hm1.out.below (KeptW.bel hkd));have Hbel2:=Lib.hid (Hbel.out.trans ((KeptW.bel hkd).mono Hbel.out.size));clear Hm1 Hbel f0;rename_i xx
 unfold bsV;rw [bs_eta];obtain ⟨o0,o1,o2,o3,o4,o5,o6,o7,o8,o9,o10,o11,o12,o13,o14,o15,o16⟩:=Hm2.out.cells;have q0:=Hm2.out.thawed 0;have q1:=Hm2.out.thawed 1;have q2:=Hm2.out.thawed 2;have q3:=Hm2.out.thawed 3;have q4:=Hm2.out.thawed 4;have q5:=Hm2.out.thawed 5;have q6:=Hm2.out.thawed 6;have q7:=Hm2.out.thawed 7;have q8:=Hm2.out.thawed 8;have q9:=Hm2.out.thawed 9;have q10:=Hm2.out.thawed 10;have q11:=Hm2.out.thawed 11;have q12:=Hm2.out.thawed 12;have q13:=Hm2.out.thawed 13;have q14:=Hm2.out.thawed 14;have q15:=Hm2.out.thawed 15;have q16:=Hm2.out.thawed 16;refine RegK.can_frees (fun _=>trivial) ?_;intro K K0 hK hK0;go_simp;refine hK (fun _=>True) _ _ trivial ?_;clear hK K hK0 K0;refine RegK.can_nil ?_;change Exit.then _ _ _ _ (rowSt v1 g 0 (bsCells b));have HZ:=Lib.hid (bsSt_at Hm2.out b);have Hbz:=Lib.hid (rowSt_below Hg.out (bsCells b) 0 _ Hbel2.out);clear o0 o1 o2 o3 o4 o5 o6 o7 o8 o9 o10 o11 o12 o13 o14 o15 o16 q0 q1 q2 q3 q4 q5 q6 q7 q8 q9 q10 q11 q12 q13 q14 q15 q16;generalize rowSt v1 g 0 (bsCells b)=w9 at *;go_wp2_with fail;refine bodyPost_ret (v:=bsV b) (by simp [results,Tryz.results39];exact bs_loadVar HZ.out) rfl ?_;exact ⟨rfl,Hbz.out⟩
set_option maxHeartbeats 4000000 in
theorem lnew_any (w:World):Calls Tryz.prog 13 #[] w fun e w'=>e=.returned (.pointer (some ⟨w.heap.size,0,none⟩))∧ShAt w' w.heap.size w.heap.size (.slice none 0 0) []∧Below w.heap.size w w':=by
 have hr:=heap_alloc_new w (.cells #[.slice none 0 0] 114);have Hs:=Lib.hid (show ShAt (w.alloc (.cells #[.slice none 0 0] 114)) w.heap.size w.heap.size (.slice none 0 0) [] from ⟨hr,rfl,.inl ⟨rfl,rfl⟩⟩);have Hb:=Lib.hid ((Below.refl w.heap.size w).alloc (Nat.le_refl _) (.cells #[.slice none 0 0] 114));clear hr;go_enter Tryz.func13,Tryz.ntmps13
 go_wp2_with fail;go_ret;exact ⟨rfl,Hs.out,Hb.out⟩
theorem newest_empty (base p:Nat) (v:Value) (w:World) (h:ShAt w base p v []) :
  Calls Tryz.prog 39 #[.pointer (some ⟨p,0,none⟩)] w fun e w'=>e=.returned (bsV bs0)∧Below w.heap.size w w':=by
 have hb1:=(Below.refl w.heap.size w).alloc (Nat.le_refl _) (.cells (bsCells bs0).toArray 110);have hm1:BsAt (w.alloc (.cells (bsCells bs0).toArray 110)) w.heap.size bs0:=heap_alloc_new _ _;obtain ⟨A,c,rfl⟩:=own_slice_of h.own;have H:=Lib.hid (h.below hb1);clear h;obtain ⟨g,hg⟩:∃ g,w.heap.size=g:=⟨_,rfl⟩;rw [hg] at hm1;go_enter Tryz.func39,Tryz.ntmps39
 go_upto_region 1 with fail;change Code.wp _ _ _ _ (w.alloc (.cells (bsCells bs0).toArray 110));generalize w.alloc (.cells (bsCells bs0).toArray 110)=w1 at *;have Hm1:=Lib.hid hm1;have Hbel:=Lib.hid hb1;have Hg:=Lib.hid (Nat.le_of_eq hg);have f0:w1.cell? ⟨p,0,none⟩=some (.slice A 0 c):=H.out.get;clear hm1 hb1 hg H;obtain ⟨o0,o1,o2,o3,o4,o5,o6,o7,o8,o9,o10,o11,o12,o13,o14,o15,o16⟩:=Hm1.out.cells;have q0:=Hm1.out.thawed 0;have q1:=Hm1.out.thawed 1;have q2:=Hm1.out.thawed 2;have q3:=Hm1.out.thawed 3;have q4:=Hm1.out.thawed 4;have q5:=Hm1.out.thawed 5;have q6:=Hm1.out.thawed 6;have q7:=Hm1.out.thawed 7;have q8:=Hm1.out.thawed 8;have q9:=Hm1.out.thawed 9;have q10:=Hm1.out.thawed 10;have q11:=Hm1.out.thawed 11;have q12:=Hm1.out.thawed 12;have q13:=Hm1.out.thawed 13;have q14:=Hm1.out.thawed 14;have q15:=Hm1.out.thawed 15;have q16:=Hm1.out.thawed 16;go_wp2_with fail;change bodyPost _ _ _ _ _ (rowSt w1 g 0 (bsCells bs0));have HZ:=Lib.hid (bsSt_at Hm1.out bs0);have Hbz:=Lib.hid (rowSt_below Hg.out (bsCells bs0) 0 _ Hbel.out);clear f0 o0 o1 o2 o3 o4 o5 o6 o7 o8 o9 o10 o11 o12 o13 o14 o15 o16 q0 q1 q2 q3 q4 q5 q6 q7 q8 q9 q10 q11 q12 q13 q14 q15 q16;generalize rowSt w1 g 0 (bsCells bs0)=w9 at *;refine bodyPost_ret (v:=bsV bs0) (by simp [results,Tryz.results39];exact bs_loadVar HZ.out) rfl ?_;exact ⟨rfl,Hbz.out⟩
theorem lnewest_zero (P:Option Addr) (b:BsV) (ht:b.top=0) (w:World) (hN:Calls Tryz.prog 39 #[.pointer P] w fun e w'=>e=.returned (bsV b)∧Below w.heap.size w w') :
  Calls Tryz.prog 10 #[.pointer P] w fun e w'=>e=.returned (.tuple #[.int .u64 0,.string ByteArray.empty])∧Below w.heap.size w w':=by
 have Ht:=Lib.hid ht;clear ht
 have HN:=Lib.hid (show Calls Tryz.prog 39 #[.pointer P] w fun e w'=>e=.returned (.agg #[.int .u8 (b.M.all:Int),.int .u8 (b.M.mem:Int),.int .u32 (b.M.tab.a.seq.toNat:Int),.int .u8 (b.M.tab.a.code:Int),.string b.M.tab.a.text,.int .u32 (b.M.tab.b.seq.toNat:Int),.int .u8 (b.M.tab.b.code:Int),.string b.M.tab.b.text,.int .u32 (b.M.tab.c.seq.toNat:Int),.int .u8 (b.M.tab.c.code:Int),.string b.M.tab.c.text,.int .u32 (b.M.tab.d.seq.toNat:Int),.int .u8 (b.M.tab.d.code:Int),.string b.M.tab.d.text,.pointer b.P,.int .u64 (b.top:Int),.string ⟨b.t.toArray⟩])∧Below w.heap.size w w' from hN);clear hN;go_enter Tryz.func10,Tryz.ntmps10
 go_upto_region 2 with ((with_reducible refine HN.out.mono ?_);rintro e w2 ⟨rfl,h2⟩)
 change Code.wp _ _ _ _ (w2.alloc (.cells (bsCells b).toArray 110));have Hm1:=Lib.hid (show BsAt (w2.alloc (.cells (bsCells b).toArray 110)) w2.heap.size b from heap_alloc_new _ _);have Hb1:=Lib.hid (h2.trans (((Below.refl w2.heap.size w2).alloc (Nat.le_refl _) (.cells (bsCells b).toArray 110)).mono h2.size));clear h2 HN;generalize w2.alloc (.cells (bsCells b).toArray 110)=w1 at *;generalize w2.heap.size=g at *;obtain ⟨_,_,_,_,_,_,_,_,_,_,_,_,_,_,_,f15,_⟩:=Hm1.out.cells;rw [Ht.out] at f15;go_wp2_with fail;refine bodyPost_ret (v:=.tuple #[.int .u64 0,.string ByteArray.empty]) (by simp [results,Tryz.results10,go_sem] <;> rfl) rfl ?_;exact ⟨rfl,Hb1.out⟩
theorem lnewest_some (P:Option Addr) (b:BsV) (T:Tr) (ht:0<b.top) (hM:MacFit b.M) (hl:b.t.length≤1000000) (hP:b.P=T.ptr) (hsh:T.sh=b.M.sh) (w:World) (hat:TreeAt w T) (hN:Calls Tryz.prog 39 #[.pointer P] w fun e w'=>e=.returned (bsV b)∧Below w.heap.size w w') :
  Calls Tryz.prog 10 #[.pointer P] w fun e w'=>e=.returned (.tuple #[.int .u64 (b.top:Int),.string ⟨(textB b.t b.M).toArray⟩])∧Below w.heap.size w w':=by
 have HT:=Lib.hid (fun (y:World) (hy:Below w.heap.size w y)=>btext_any b T hM hl hP y (hat.below hy) hsh);have hne:((b.top:Int) == 0)=false:=by rw [beq_eq_false_iff_ne];omega
 clear ht hM hl hP hsh hat;have HN:=Lib.hid (show Calls Tryz.prog 39 #[.pointer P] w fun e w'=>e=.returned (.agg #[.int .u8 (b.M.all:Int),.int .u8 (b.M.mem:Int),.int .u32 (b.M.tab.a.seq.toNat:Int),.int .u8 (b.M.tab.a.code:Int),.string b.M.tab.a.text,.int .u32 (b.M.tab.b.seq.toNat:Int),.int .u8 (b.M.tab.b.code:Int),.string b.M.tab.b.text,.int .u32 (b.M.tab.c.seq.toNat:Int),.int .u8 (b.M.tab.c.code:Int),.string b.M.tab.c.text,.int .u32 (b.M.tab.d.seq.toNat:Int),.int .u8 (b.M.tab.d.code:Int),.string b.M.tab.d.text,.pointer b.P,.int .u64 (b.top:Int),.string ⟨b.t.toArray⟩])∧Below w.heap.size w w' from hN);clear hN;go_enter Tryz.func10,Tryz.ntmps10
 go_upto_region 2 with ((with_reducible refine HN.out.mono ?_);rintro e w2 ⟨rfl,h2⟩)
 change Code.wp _ _ _ _ (w2.alloc (.cells (bsCells b).toArray 110));have Hm1:=Lib.hid (show BsAt (w2.alloc (.cells (bsCells b).toArray 110)) w2.heap.size b from heap_alloc_new _ _);have Hb1:=Lib.hid (h2.trans (((Below.refl w2.heap.size w2).alloc (Nat.le_refl _) (.cells (bsCells b).toArray 110)).mono h2.size));clear h2 HN;generalize w2.alloc (.cells (bsCells b).toArray 110)=w1 at *;generalize w2.heap.size=g at *;obtain ⟨_,_,_,_,_,_,_,_,_,_,_,_,_,_,_,f15,_⟩:=Hm1.out.cells;go_upto_region 4 with fail;refine (wpIn_wide (n:=1)).1 ?_;refine RegJ.wpIn_region_plan (F:=Fence.wide) (KeptW w1) (.step 0 0 (.step 1 0 (.step 2 0 (.step 3 1 (.step 4 0 (.step 5 0 .nil)))))) (by kernel_rfl) (by kernel_rfl) (by kernel_rfl) (fun _ _ d _ _ h=>by cases d <;> exact h) ⟨rfl,rfl,rfl,Nat.le_refl _,fun _ _=>rfl⟩ ?_;dsimp only [RegJ.pickJ,List.getElem?_cons_zero,List.getElem?_cons_succ];change RegJ.Can _ _ _ _ _ _ _ _ w1.drew;have hkd:KeptW w1 w1.drew:=⟨rfl,rfl,rfl,Nat.le_refl _,fun _ _=>rfl⟩;generalize w1.drew=v1 at *;refine RegJ.reads ?_;intro K hK;go_simp;(first | refine ⟨_,fun _ _=>rfl,hK _ ?_⟩ | refine hK _ ?_);clear hK K
 refine RegJ.reads ?_;intro K hK;go_simp;refine ⟨.int .u64 (b.top:Int),fun y hy=>?_,hK _ ?_⟩
 ·
  have f0:y.cell? ⟨g,15,none⟩=some (.int .u64 (b.top:Int)):=cell_of_row _ _ _ _ _ _ (Hm1.out.below (KeptW.bel hy));go_simp
 clear hK K;refine RegJ.reads ?_;intro K hK;rw [if_pos (by simp [Region.wanted])];refine ⟨bsV b,fun y hy=>?_,hK _ ?_⟩
 ·
  exact bs_loads _ _ _ rfl rfl (fun j u hj=>by rw [Nat.zero_add];exact (cell_of_row _ _ _ _ _ _ (Hm1.out.below (KeptW.bel hy))).trans (by simpa using hj))
 clear hK K;go_simp;refine RegJ.turns (fun _=>trivial) ?_;intro K K0 hK hK0;go_simp;refine ⟨trivial,?_⟩;refine (callsIn_wide.2 (HT.out v1 (Hb1.out.trans ((KeptW.bel hkd).mono Hb1.out.size)))).mono ?_;rintro e v2 ⟨rfl,hb7⟩;have v2k:KeptW w1 v2:=KeptW.mono hkd hb7;refine hK _ _ _ (fun _ h=>h) v2k ?_;clear hK K hK0 K0;iterate 2 (refine RegJ.reads ?_;intro K hK;go_simp;(first | refine ⟨_,fun _ _=>rfl,hK _ ?_⟩ | refine hK _ ?_);clear hK K)
 refine RegJ.nil ?_;go_wp2_with fail;refine bodyPost_ret (v:=.tuple #[.int .u64 (b.top:Int),.string ⟨(textB b.t b.M).toArray⟩]) (by simp [results,Tryz.results10,go_sem]) rfl ?_;exact ⟨rfl,Hb1.out.trans ((KeptW.bel v2k).mono Hb1.out.size)⟩
end Go.Proofs.YtbckjgageofldaaGreat
