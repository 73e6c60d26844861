/- Deltas: takeSum. Condition: the reader lies there. -/
import Derived.Test.YtbckjgageofldaaGreatZLearnPlays12
import Derived.Deep.DeepCutAuto
import Derived.Test.YtbckjgageofldaaGreatZLearnPlays14
import Derived.Test.YtbckjgageofldaaGreatZLearnPlays19
set_option maxRecDepth 100000
set_option maxHeartbeats 16000000
namespace Go.Proofs.YtbckjgageofldaaGreat
open Go.RowKit
def RdV.sumP (R:RdV):Nat→Nat × RdV
 | 0=>(0,R)
 | i+1=>((R.sumP i).1+(R.sumP i).2.byte.1.toNat*2 ^ (8*i),(R.sumP i).2.byte.2)
theorem sumP_lt (R:RdV):∀ i,(R.sumP i).1<2 ^ (8*i)
 | 0=>by simp [RdV.sumP]
 | i+1=>by
  have h:=sumP_lt R i;have hb:=(R.sumP i).2.byte.1.toNat_lt;unfold RdV.sumP;rw [show 8*(i+1)=8*i+8 by omega,Nat.pow_add];generalize 2 ^ (8*i)=q at *;have:(R.sumP i).2.byte.1.toNat*q+q≤256*q:=by
   have:=Nat.mul_le_mul_right q (show (R.sumP i).2.byte.1.toNat+1≤256 by omega);rw [Nat.add_mul,Nat.one_mul] at this;exact this
  rw [Nat.mul_comm q];show _<256*q;omega
theorem or_shift (n b i:Nat) (hn:n<2 ^ (8*i)) (hb:b<256) (hi:i<8) :
  bits BinOp.or IntKind.u64 (n:Int) (IntKind.u64.wrap (IntKind.u64.wrap (b:Int)*2 ^ (8*i)))=((n+b*2 ^ (8*i):Nat):Int):=by
 have h1:b*2 ^ (8*i)<18446744073709551616:=by
  have h2:(2:Nat) ^ (8*i)≤2 ^ 56:=Nat.pow_le_pow_right (by omega) (by omega);have h3:=Nat.mul_le_mul (show b≤255 by omega) h2;have h4:255*(2:Nat) ^ 56<18446744073709551616:=by decide
  omega
 have h5:n<18446744073709551616:=by
  have h2:(2:Nat) ^ (8*i)≤2 ^ 56:=Nat.pow_le_pow_right (by omega) (by omega);have h4:(2:Nat) ^ 56<18446744073709551616:=by decide
  omega
 have hw1:IntKind.u64.wrap (b:Int)=(b:Int):=by rw [IntKind.wrap_u64];omega
 have hc:((b:Int)*2 ^ (8*i))=((b*2 ^ (8*i):Nat):Int):=by rw [Int.natCast_mul,Int.natCast_pow];rfl
 have hw2:IntKind.u64.wrap ((b*2 ^ (8*i):Nat):Int)=((b*2 ^ (8*i):Nat):Int):=by
  generalize b*2 ^ (8*i)=q at *;rw [IntKind.wrap_u64];omega
 rw [hw1,hc,hw2];have h:=or_bv (BitVec.ofNat 64 n) (BitVec.ofNat 64 (b*2 ^ (8*i)));have e1:(BitVec.ofNat 64 n).toNat=n:=by simp;omega
 have e2:(BitVec.ofNat 64 (b*2 ^ (8*i))).toNat=b*2 ^ (8*i):=by
  generalize b*2 ^ (8*i)=q at *;simp;omega
 rw [BitVec.toNat_or,e1,e2] at h;rw [h];congr 1
 have hk:=Nat.two_pow_add_eq_or_of_lt hn b;rw [Nat.or_comm,Nat.mul_comm b, ← hk,Nat.add_comm]
set_option maxHeartbeats 8000000 in
theorem takeSum_any (R:RdV) (g:Nat) (w:World) (h:RdAt w g R) :
  Calls Tryz.prog 94 #[.pointer (some ⟨g,0,none⟩)] w fun e w'=>e=.returned (.int .u64 ((R.sumP 8).1:Int))∧RdAt w' g (R.sumP 8).2∧Only g w w':=by
 have H:=Lib.hid h;clear h
 go_enter Tryz.func94,Tryz.ntmps94
 go_wp2_with fail;go_loopw [3,5] (fun s3 s5 wr=>∃ i:Nat,i≤8∧s5=.int .i64 (i:Int)∧s3=.int .u64 ((R.sumP i).1:Int)∧RdAt wr g (R.sumP i).2∧Only g w wr) (fun _ s5 _=>8 - (intOf s5).toNat)
 case atStart=>exact ⟨0,by omega,rfl,rfl,H.out,Only.refl _ _⟩
 case round =>
  obtain ⟨i,hi,rfl,rfl,hr,ho⟩:=hrel;clear H;have Ho:=Lib.hid ho;clear ho
  by_cases hlt:i<8
  ·
   have hlt':(i:Int)<8:=by omega
   have hsucc:=tsucc (n:=i) (by omega);have Hb:=Lib.hid (byte_any (R.sumP i).2 g wr hr);clear hr
   go_wp2_with ((with_reducible refine Hb.out.mono ?_);rintro e w2 ⟨rfl,h2⟩;have H2:=Lib.hid h2;clear h2 Hb);have hor:=or_shift (R.sumP i).1 (R.sumP i).2.byte.1.toNat i (sumP_lt R i) (R.sumP i).2.byte.1.toNat_lt hlt;refine ⟨⟨i+1,hlt,by simp,?_,H2.out.1,Ho.out.trans H2.out.2⟩,by simp [intOf];omega⟩;rw [hor];rfl
  ·
   have hlt' : ¬ (i:Int)<8:=by omega
   have he:i=8:=by omega
   subst he;go_wp2_with fail;go_ret;exact ⟨rfl,hr,Ho.out⟩
def RdV.chgK (R:RdV) (last:ByteArray):ByteArray × RdV:=(⟨(R.str 16).1.toArray⟩,if slt last ⟨(R.str 16).1.toArray⟩=true then (R.str 16).2 else (R.str 16).2.fail 4)
def RdV.chgV (R:RdV):(Bool × ByteArray) × RdV:=if (R.below 2).1=1 then ((true,⟨((R.below 2).2.str 64).1.toArray⟩),((R.below 2).2.str 64).2) else ((false,ByteArray.empty),(R.below 2).2)
def applyD (S:Sh) (k:ByteArray) (b:Bool) (v:ByteArray):Sh:=if b=true then putSh k v S (S.look k) else delSh k S (S.look k)
def RdV.keysPD:Nat→Sh→ByteArray→RdV→Sh × RdV
 | 0,S,_,R=>(S,R)
 | n+1,S,last,R=>if (R.chgK last).2.chgV.2.e=0 then RdV.keysPD n (applyD S (R.chgK last).1 (R.chgK last).2.chgV.1.1 (R.chgK last).2.chgV.1.2) (R.chgK last).1 (R.chgK last).2.chgV.2 else (.nil,(R.chgK last).2.chgV.2)
def RdV.keysD (R:RdV) (S:Sh):Sh × RdV:=RdV.keysPD (R.below 513).1 S ByteArray.empty (R.below 513).2
theorem takeKeysD_any (R:RdV) (T0:Tr) (hc0:T0.cnt≤1000000) (g:Nat) (w:World) (h:RdAt w g R) (h0:TreeAt w T0) :
  Calls Tryz.prog 101 #[.pointer (some ⟨g,0,none⟩),.pointer T0.ptr] w fun e w'=>∃ X,e=.returned (.pointer X.ptr)∧TreeAt w' X∧X.sh=(R.keysD T0.sh).1∧X.cnt≤T0.cnt+513∧RdAt w' g (R.keysD T0.sh).2∧But g w.heap.size w w':=by
 have hbl:Calls Tryz.prog 153 #[.pointer (some ⟨g,0,none⟩),.int .u64 513] w fun e w'=>e=.returned (.int .u64 ((R.below 513).1:Int))∧RdAt w' g (R.below 513).2∧Only g w w':=rbelow_any R 513 g w h
 have hlt:=below_lt R 513 (by omega);have hg:=h.lt;unfold RdV.keysD;generalize R.below 513=X at *;obtain ⟨n,R1⟩:=X;simp only at hbl hlt ⊢;obtain ⟨F,hF⟩:∃ F,RdV.keysPD n T0.sh ByteArray.empty R1=F:=⟨_,rfl⟩;rw [hF];have HF:=Lib.hid hF;clear hF
 have Hg:=Lib.hid hg;clear hg
 have Hbl:=Lib.hid hbl;clear hbl
 have H0:=Lib.hid (And.intro h h0);clear h h0
 obtain ⟨P0,hP0⟩:∃ P,T0.ptr=P:=⟨_,rfl⟩;rw [hP0];have HP0:=Lib.hid hP0;clear hP0
 go_enter Tryz.func101,Tryz.ntmps101
 go_wp2_with ((with_reducible refine Hbl.out.mono ?_);rintro e w2 ⟨rfl,h2⟩;have H2:=Lib.hid h2;clear h2 Hbl);go_loopw [1,5,11] (fun s1 s5 s11 wr=>∃ (i:Nat) (T:Tr) (last:ByteArray) (S:RdV),i≤n∧s11=.int .u64 (i:Int)∧s1=.pointer T.ptr∧s5=.string last∧TreeAt wr T∧T.cnt≤T0.cnt+i∧RdAt wr g S∧But g w.heap.size w wr∧RdV.keysPD (n - i) T.sh last S=F) (fun _ _ s11 _=>n - (intOf s11).toNat)
 case atStart=>exact ⟨0,T0,ByteArray.empty,R1,by omega,rfl,by rw [HP0.out],rfl,TreeAt.only H0.out.1 H2.out.1 H2.out.2 H0.out.2,Nat.le_refl _,H2.out.1,H2.out.2.but _,HF.out⟩
 case round =>
  obtain ⟨i,T,last,S,hi,rfl,rfl,rfl,hat,hcnt,hr,hbut,hfin⟩:=hrel;clear H2 HF H0 HP0;have Hat:=Lib.hid hat;clear hat
  have Hr:=Lib.hid hr;clear hr
  have Hbut:=Lib.hid (And.intro hbut hcnt);clear hbut hcnt
  by_cases hlt2:i<n
  ·
   have hlt':(i:Int)<(n:Int):=by omega
   have hsucc:=tsucc_u (n:=i) (by omega);rw [show n - i=(n - (i+1))+1 by omega] at hfin;unfold RdV.keysPD at hfin;obtain ⟨XP,hXP⟩:∃ x,S.chgK last=x:=⟨_,rfl⟩;rw [hXP] at hfin;have Hfin:=Lib.hid hfin;clear hfin
   unfold RdV.chgK at hXP;have h16:Calls Tryz.prog 88 #[.pointer (some ⟨g,0,none⟩),.int .i64 16] wr fun e w'=>e=.returned (.string ⟨(S.str 16).1.toArray⟩)∧RdAt w' g (S.str 16).2∧Only g wr w':=rstr2_any S 16 g (by omega) wr Hr.out
   have hk16:(S.str 16).1.length≤16:=str_most S 16;generalize S.str 16=X at *;obtain ⟨kl,S1⟩:=X;simp only at h16 hXP hk16;have H16:=Lib.hid h16;clear h16
   have hks:(⟨kl.toArray⟩:ByteArray).size≤maxLen:=by rw [bs_size];unfold maxLen;omega
   obtain ⟨k,hk⟩:∃ k:ByteArray,⟨kl.toArray⟩=k:=⟨_,rfl⟩;rw [hk] at H16 hXP hks;clear hk hk16;have HXP:=Lib.hid hXP;clear hXP
   have Hks:=Lib.hid hks;clear hks
   have Hbad:=Lib.hid (fun (y:World) (hy:RdAt y g S1)=>bad_any S1 g y hy);go_upto_region 5 with ((with_reducible refine H16.out.mono ?_);rintro e w3 ⟨rfl,h3⟩;have H4:=Lib.hid h3;clear h3 H16)
   obtain ⟨sb,hsb⟩:∃ b,slt last k=b:=⟨_,rfl⟩;have hle:(Op.bytesLess k.toList last.toList || k.toList == last.toList) = !sb:=by
    rw [← hsb];exact sle_not k last
   have hqx:=HXP.out;rw [hsb] at hqx;clear hsb;go_upto_if 17 with fail
   go_cut [17] (fun _ wx=>RdAt wx g XP.2∧Only g wr wx)
   case first =>
    cases sb with
    | true =>
     simp only [Bool.not_true] at hle;simp only [if_true] at hqx;go_wp2_with fail;go_meet
     rw [← hqx];exact H4.out
    | false =>
     simp only [Bool.not_false] at hle;simp only [Bool.false_eq_true,if_false] at hqx;go_wp2_with ((with_reducible refine (Hbad.out _ H4.out.1).mono ?_);rintro e w5 ⟨rfl,h5⟩;have H5:=Lib.hid (And.intro h5.1 (H4.out.2.trans h5.2));clear h5);go_meet
     rw [← hqx];exact H5.out
   case rest =>
   obtain ⟨hc1,hc2⟩:=hcut;generalize wc=w5 at *;have hx1:XP.1=k:=by rw [← HXP.out]
   have hfin:=Hfin.out;rw [hx1] at hfin;obtain ⟨XK,RX⟩:=XP;simp only at hfin hc1;have Hc1:=Lib.hid (And.intro hc1 hc2);clear hc1 hc2
   clear hx1 H4 Hbad hqx hle Hfin HXP;obtain ⟨V,hV⟩:∃ V,RX.chgV=V:=⟨_,rfl⟩;rw [hV] at hfin;unfold RdV.chgV at hV;have hbl:Calls Tryz.prog 153 #[.pointer (some ⟨g,0,none⟩),.int .u64 2] w5 fun e w'=>e=.returned (.int .u64 ((RX.below 2).1:Int))∧RdAt w' g (RX.below 2).2∧Only g w5 w':=rbelow_any RX 2 g w5 Hc1.out.1
   generalize RX.below 2=X at *;obtain ⟨hn,R2⟩:=X;simp only at hbl hV;have Hbl:=Lib.hid hbl;clear hbl
   have Hfin:=Lib.hid hfin;clear hfin
   by_cases h1:hn=1
   ·
    have h1':((hn:Int) == 1)=true:=by simp [h1]
    rw [if_pos h1] at hV;clear h1;have H64:=Lib.hid (fun (y:World) (hy:RdAt y g R2)=>(show Calls Tryz.prog 88 #[.pointer (some ⟨g,0,none⟩),.int .i64 64] y fun e w'=>e=.returned (.string ⟨(R2.str 64).1.toArray⟩)∧RdAt w' g (R2.str 64).2∧Only g y w' from rstr2_any R2 64 g (by omega) y hy));generalize R2.str 64=X at *;obtain ⟨vl,R3⟩:=X;simp only at H64 hV;obtain ⟨v,hv⟩:∃ k:ByteArray,⟨vl.toArray⟩=k:=⟨_,rfl⟩;rw [hv] at H64 hV;clear hv;subst hV;simp only at Hfin;by_cases he:R3.e=0
    ·
     have he':((R3.e:Int) != 0)=false:=by simp [he]
     have hfin:=Hfin.out;rw [if_pos he] at hfin;have Hfn:=Lib.hid hfin;clear hfin he Hfin
     have Hput:=Lib.hid (fun (w8:World) (h8:TreeAt w8 T)=>putT_any k v Hks.out T w8.heap.size w8 (Nat.le_refl _) h8.lo h8 (by have:=Hbut.out.2;omega));go_wp2_with (first
      | ((with_reducible refine Hbl.out.mono ?_);rintro e w6 ⟨rfl,h6⟩;have H6:=Lib.hid (And.intro h6.1 (Hc1.out.2.trans h6.2));clear h6)
      | ((with_reducible refine (H64.out _ H6.out.1).mono ?_);rintro e w7 ⟨rfl,h7⟩;have H7:=Lib.hid (And.intro h7.1 (H6.out.2.trans h7.2));clear h7)
      | ((with_reducible refine (err_any R3 g _ H7.out.1).mono ?_);rintro e w' ⟨rfl,rfl⟩)
      | ((with_reducible refine (Hput.out _ (TreeAt.only Hr.out H7.out.1 H7.out.2 Hat.out)).mono ?_);rintro e w9 ⟨X,rfl,hX⟩;have HX:=Lib.hid hX;clear hX))
     have hbz:=Hbut.out.1.trans (H7.out.2.but _);go_roundw
     case rel=>exact ⟨i+1,X,k,R3,hlt2,rfl,rfl,rfl,HX.out.at_,by have:=HX.out.num;have:=Hbut.out.2;omega,H7.out.1.below HX.out.bel,hbz.trans (but_of (HX.out.bel.mono hbz.size) g),by rw [HX.out.shp,sh_look];exact Hfn.out⟩
     case measure=>simp [intOf];omega
    ·
     have he':((R3.e:Int) != 0)=true:=by rw [bne_iff_ne];omega
     have hfin:=Hfin.out;rw [if_neg he] at hfin;have Hfn:=Lib.hid hfin;clear hfin he Hfin
     go_wp2_with (first
      | ((with_reducible refine Hbl.out.mono ?_);rintro e w6 ⟨rfl,h6⟩;have H6:=Lib.hid (And.intro h6.1 (Hc1.out.2.trans h6.2));clear h6)
      | ((with_reducible refine (H64.out _ H6.out.1).mono ?_);rintro e w7 ⟨rfl,h7⟩;have H7:=Lib.hid (And.intro h7.1 (H6.out.2.trans h7.2));clear h7)
      | ((with_reducible refine (err_any R3 g _ H7.out.1).mono ?_);rintro e w' ⟨rfl,rfl⟩))
     go_ret;exact ⟨.nil,rfl,trivial,by rw [← Hfn.out];rfl,Nat.zero_le _,by rw [← Hfn.out];exact H7.out.1,Hbut.out.1.trans (H7.out.2.but _)⟩
   ·
    have h1':((hn:Int) == 1)=false:=by simp;omega
    rw [if_neg h1] at hV;clear h1;subst hV;obtain ⟨R3,hR3⟩:∃ R3,R3=R2:=⟨_,rfl⟩;subst hR3;simp only at Hfin;by_cases he:R3.e=0
    ·
     have he':((R3.e:Int) != 0)=false:=by simp [he]
     have hfin:=Hfin.out;rw [if_pos he] at hfin;have Hfn:=Lib.hid hfin;clear hfin he Hfin
     have Hput:=Lib.hid (fun (w8:World) (h8:TreeAt w8 T)=>delT_any k T w8.heap.size w8 (Nat.le_refl _) h8.lo h8 (by have:=Hbut.out.2;omega));go_wp2_with (first
      | ((with_reducible refine Hbl.out.mono ?_);rintro e w6 ⟨rfl,h6⟩;have H6:=Lib.hid (And.intro h6.1 (Hc1.out.2.trans h6.2));clear h6)
      | ((with_reducible refine (err_any R3 g _ H6.out.1).mono ?_);rintro e w' ⟨rfl,rfl⟩)
      | ((with_reducible refine (Hput.out _ (TreeAt.only Hr.out H6.out.1 H6.out.2 Hat.out)).mono ?_);rintro e w9 ⟨X,rfl,hX⟩;have HX:=Lib.hid hX;clear hX))
     have hbz:=Hbut.out.1.trans (H6.out.2.but _);go_roundw
     case rel=>exact ⟨i+1,X,k,R3,hlt2,rfl,rfl,rfl,HX.out.at_,by have:=HX.out.num;have:=Hbut.out.2;omega,H6.out.1.below HX.out.bel,hbz.trans (but_of (HX.out.bel.mono hbz.size) g),by rw [HX.out.shp,sh_look];exact Hfn.out⟩
     case measure=>simp [intOf];omega
    ·
     have he':((R3.e:Int) != 0)=true:=by rw [bne_iff_ne];omega
     have hfin:=Hfin.out;rw [if_neg he] at hfin;have Hfn:=Lib.hid hfin;clear hfin he Hfin
     go_wp2_with (first
      | ((with_reducible refine Hbl.out.mono ?_);rintro e w6 ⟨rfl,h6⟩;have H6:=Lib.hid (And.intro h6.1 (Hc1.out.2.trans h6.2));clear h6)
      | ((with_reducible refine (err_any R3 g _ H6.out.1).mono ?_);rintro e w' ⟨rfl,rfl⟩))
     go_ret;exact ⟨.nil,rfl,trivial,by rw [← Hfn.out];rfl,Nat.zero_le _,by rw [← Hfn.out];exact H6.out.1,Hbut.out.1.trans (H6.out.2.but _)⟩
  ·
   have hlt' : ¬ (i:Int)<(n:Int):=by omega
   rw [show n - i=0 by omega] at hfin;have Hfin:=Lib.hid hfin;clear hfin
   go_wp2_with fail;go_ret;exact ⟨T,rfl,Hat.out,by rw [← Hfin.out];rfl,by have:=Hbut.out.2;omega,by rw [← Hfin.out];exact Hr.out,Hbut.out.1⟩
def RdV.clientsP (R:RdV) (mask:Nat) (t:TabV):Nat→TabV × RdV
 | 0=>(t,R)
 | c+1=>if mask / 2 ^ c % 2=0 then R.clientsP mask t c else ((R.clientsP mask t c).1.put c (R.clientsP mask t c).2.lastP.1,(R.clientsP mask t c).2.lastP.2)
def RdV.clients (R:RdV) (t:TabV):TabV × RdV:=RdV.clientsP (if R.byte.1.toNat<16 then R.byte.2 else R.byte.2.fail 4) R.byte.1.toNat t 4
structure TcI (w0:World) (g:Nat) (R:RdV) (t:TabV) (w:World):Prop where
 r:RdAt w g R
 z:TabAt w (w0.heap.size+1) tabNone
 t:TabAt w w0.heap.size t
 but:But g w0.heap.size w0 w
 lt:g<w0.heap.size
theorem TcI.only {w0 w w':World} {g:Nat} {R R':RdV} {t:TabV} (h:TcI w0 g R t w) (hr:RdAt w' g R') (ho:Only g w w'):TcI w0 g R' t w' :=
 ⟨hr,(ho.block _ (by have:=h.lt;omega)).trans h.z,(ho.block _ (by have:=h.lt;omega)).trans h.t,h.but.trans (ho.but _),h.lt⟩
theorem TcI.below {w0 w w':World} {g:Nat} {R:RdV} {t:TabV} (h:TcI w0 g R t w) (hb:Below w.heap.size w w'):TcI w0 g R t w' :=
 ⟨h.r.below hb,(hb.block _ (Array.getElem?_eq_some_iff.1 h.z).1).trans h.z,(hb.block _ (Array.getElem?_eq_some_iff.1 h.t).1).trans h.t,h.but.trans (but_of (hb.mono h.but.size) g),h.lt⟩
theorem TcI.set {w0 w:World} {g q i:Nat} {R:RdV} {t:TabV} {v:Value} (h:TcI w0 g R t w) (hq:w0.heap.size+1<q):TcI w0 g R t (w.setCell ⟨q,i,none⟩ v) :=
 ⟨h.r.set (by have:=h.lt;omega),h.z.other (by omega),h.t.other (by omega),h.but.trans (but_of (below_setV (b:=q) (Below.refl w0.heap.size w) (by omega)) g),h.lt⟩
theorem TcI.put {w0 w:World} {g i:Nat} {R:RdV} {t:TabV} (h:TcI w0 g R t w) (hi:i<4) (x:LastV):TcI w0 g R (t.put i x) (lastSt w w0.heap.size i x) :=
 ⟨((h.r.set (by have:=h.lt;omega)).set (by have:=h.lt;omega)).set (by have:=h.lt;omega),((h.z.other (by omega)).other (by omega)).other (by omega),lastSt_at h.t hi x,
  h.but.trans (but_of (below_setV (b:=w0.heap.size) (below_setV (b:=w0.heap.size) (below_setV (b:=w0.heap.size) (Below.refl w0.heap.size w) (by omega)) (by omega)) (by omega)) g),h.lt⟩
theorem and8_one:∀ q:Fin 256,bits BinOp.and IntKind.u8 ((q.val:Nat):Int) 1=((q.val % 2:Nat):Int):=by decide +kernel
theorem takeClients_any (R:RdV) (t:TabV) (g:Nat) (w:World) (h:RdAt w g R) :
  Calls Tryz.prog 99 #[.pointer (some ⟨g,0,none⟩),.agg (tabCells t).toArray] w fun e w'=>e=.returned (.agg (tabCells (R.clients t).1).toArray)∧RdAt w' g (R.clients t).2∧But g w.heap.size w w':=by
 have hI:TcI w g R t ((w.alloc (.cells (tabCells t).toArray 31)).alloc (.cells (tabCells tabNone).toArray 31)):=by
  have s0:(w.alloc (.cells (tabCells t).toArray 31)).heap.size=w.heap.size+1:=by simp
  have b1:=(Below.refl w.heap.size w).alloc (Nat.le_refl _) (.cells (tabCells t).toArray 31);have t0:TabAt (w.alloc (.cells (tabCells t).toArray 31)) w.heap.size t:=heap_alloc_new _ _;have b2:=(Below.refl _ (w.alloc (.cells (tabCells t).toArray 31))).alloc (Nat.le_refl _) (.cells (tabCells tabNone).toArray 31);exact ⟨(h.below b1).below b2,by rw [← s0];exact heap_alloc_new _ _,(b2.block _ (Array.getElem?_eq_some_iff.1 t0).1).trans t0,but_of (b1.trans (b2.mono b1.size)) g,h.lt⟩
 have hby:=fun (y:World) (hy:RdAt y g R)=>byte_any R g y hy
 unfold RdV.clients;obtain ⟨⟨m,R1⟩,hX⟩:∃ x,R.byte=x:=⟨_,rfl⟩;rw [hX] at hby ⊢;simp only at hby ⊢;have hm8:=m.toNat_lt;have Hby:=Lib.hid hby;clear hby hX h
 have HI:=Lib.hid hI;clear hI
 have Hbad:=Lib.hid (fun (y:World) (hy:RdAt y g R1)=>bad_any R1 g y hy);obtain ⟨mn,hmn⟩:∃ n,m.toNat=n:=⟨_,rfl⟩;rw [hmn] at Hby hm8 ⊢;clear hmn;obtain ⟨R2,hR2⟩:∃ q,(if mn<16 then R1 else R1.fail 4)=q:=⟨_,rfl⟩;rw [hR2];have HR2:=Lib.hid hR2;clear hR2
 obtain ⟨E,hE⟩:∃ E,R2.clientsP mn t 4=E:=⟨_,rfl⟩;rw [hE];have HE:=Lib.hid hE;clear hE
 rw [tab_eta];go_enter Tryz.func99,Tryz.ntmps99
 go_upto_region 1 with fail;change Code.wp _ _ _ _ ((w.alloc (.cells (tabCells t).toArray 31)).alloc (.cells (tabCells tabNone).toArray 31));generalize (w.alloc (.cells (tabCells t).toArray 31)).alloc (.cells (tabCells tabNone).toArray 31)=w1 at *;go_upto_if 12 with ((with_reducible refine (Hby.out _ HI.out.r).mono ?_);rintro e w2 ⟨rfl,h2⟩;have H2:=Lib.hid (HI.out.only h2.1 h2.2);clear h2 HI Hby)
 go_cut [12] (fun _ wx=>TcI w g R2 t wx)
 case first =>
  by_cases h16:mn<16
  ·
   have h16':((mn:Int) / 16 != 0)=false:=by
    have:(mn:Int) / 16=0:=by omega
    rw [this];rfl
   have hq:=HR2.out;rw [if_pos h16] at hq;clear h16;go_wp2_with fail;go_meet
   rw [← hq];exact H2.out
  ·
   have h16':((mn:Int) / 16 != 0)=true:=by
    rw [bne_iff_ne];omega
   have hq:=HR2.out;rw [if_neg h16] at hq;clear h16;go_wp2_with ((with_reducible refine (Hbad.out _ H2.out.r).mono ?_);rintro e w3 ⟨rfl,h3⟩;have H3:=Lib.hid (H2.out.only h3.1 h3.2);clear h3);go_meet
   rw [← hq];exact H3.out
 case rest =>
 have HI:=Lib.hid hcut;clear hcut H2 HR2 Hbad
 generalize wc=w3 at *;go_wp2_with fail;go_loopw [15] (fun s15 wr=>∃ i:Nat,i≤4∧s15=.int .i64 (i:Int)∧TcI w g (R2.clientsP mn t i).2 (R2.clientsP mn t i).1 wr) (fun s15 _=>4 - (intOf s15).toNat)
 case atStart=>exact ⟨0,by omega,rfl,HI.out⟩
 case round =>
  clear HI;obtain ⟨i,hi,rfl,hI⟩:=hrel;by_cases hlt:i<4
  ·
   have hlt':(i:Int)<4:=by omega
   have hsucc:=tsucc (n:=i) (by omega);have HI:=Lib.hid hI;clear hI
   have hq256:mn / 2 ^ i<256:=Nat.lt_of_le_of_lt (Nat.div_le_self _ _) hm8;have hdiv:((mn:Int) / 2 ^ i)=((mn / 2 ^ i:Nat):Int):=by rw [Int.natCast_ediv,Int.natCast_pow];rfl
   have hbit:(bits BinOp.and IntKind.u8 ((mn:Int) / 2 ^ i) 1 == 0)=decide (mn / 2 ^ i % 2=0):=by
    rw [hdiv,and8_one ⟨mn / 2 ^ i,hq256⟩];by_cases h0:mn / 2 ^ i % 2=0
    ·
     simp [h0]
    ·
     have:mn / 2 ^ i % 2=1:=by omega
     simp [this]
   clear hdiv hq256;have hnx:R2.clientsP mn t (i+1)=if mn / 2 ^ i % 2=0 then R2.clientsP mn t i else ((R2.clientsP mn t i).1.put i (R2.clientsP mn t i).2.lastP.1,(R2.clientsP mn t i).2.lastP.2):=rfl
   generalize R2.clientsP mn t i=X at *;have Hnx:=Lib.hid hnx;clear hnx
   by_cases hb0:mn / 2 ^ i % 2=0
   ·
    rw [decide_eq_true hb0] at hbit;have hq:=Hnx.out;rw [if_pos hb0] at hq;have Hq:=Lib.hid hq;clear hq hb0 Hnx
    go_wp2_with fail;go_roundw
    case rel=>exact ⟨i+1,hlt,rfl,by rw [Hq.out];exact HI.out⟩
    case measure=>simp [intOf];omega
   ·
    rw [decide_eq_false hb0] at hbit;have hq:=Hnx.out;rw [if_neg hb0] at hq;have Hq0:=Lib.hid hq;clear hq hb0 Hnx
    obtain ⟨t1,S⟩:=X;simp only at Hq0 HI;have hbl:Calls Tryz.prog 153 #[.pointer (some ⟨g,0,none⟩),.int .u64 4294967296] wr fun e w'=>e=.returned (.int .u64 ((S.below 4294967296).1:Int))∧RdAt w' g (S.below 4294967296).2∧Only g wr w':=rbelow_any S 4294967296 g wr HI.out.r
    have hbl2:=below_lt S 4294967296 (by omega);obtain ⟨XP,hXP⟩:∃ x,S.lastP=x:=⟨_,rfl⟩;have hXP0:=hXP;unfold RdV.lastP at hXP;generalize S.below 4294967296=X at *;obtain ⟨n,R1⟩:=X;simp only at hbl hbl2 hXP;have hw32:IntKind.u32.wrap (n:Int)=(n:Int):=by rw [IntKind.wrap_u32];omega
    have h32:(BitVec.ofNat 32 n).toNat=n:=by simp;omega
    have Hbl:=Lib.hid hbl;clear hbl hbl2
    have HXP:=Lib.hid hXP;clear hXP
    have HXP0:=Lib.hid hXP0;clear hXP0
    go_upto_region 9 with ((with_reducible refine Hbl.out.mono ?_);rintro e w2 ⟨rfl,h2⟩;have H2:=Lib.hid (HI.out.only h2.1 h2.2);clear h2 HI)
    have hrow:LastRow (w2.alloc (.cells (lastCells ⟨BitVec.ofNat 32 n,0,ByteArray.empty⟩).toArray 29)) w2.heap.size ⟨BitVec.ofNat 32 n,0,ByteArray.empty⟩:=heap_alloc_new _ _;have HJ:=Lib.hid (H2.out.below ((Below.refl _ _).alloc (Nat.le_refl _) (.cells (lastCells ⟨BitVec.ofNat 32 n,0,ByteArray.empty⟩).toArray 29)));have hgl:w.heap.size+1<w2.heap.size:=(Array.getElem?_eq_some_iff.1 H2.out.z).1;have eta:(lastCells ⟨BitVec.ofNat 32 n,0,ByteArray.empty⟩).toArray=#[.int .u32 (n:Int),.int .u8 0,.string ByteArray.empty]:=by show #[Value.int .u32 ((BitVec.ofNat 32 n).toNat:Int),.int .u8 0,.string ByteArray.empty]=_;rw [h32]
    rw [eta] at hrow HJ;change Code.wp _ _ _ _ (w2.alloc (.cells #[.int .u32 (n:Int),.int .u8 0,.string ByteArray.empty] 29));clear H2 eta;generalize w2.alloc (.cells #[.int .u32 (n:Int),.int .u8 0,.string ByteArray.empty] 29)=w3 at *
    generalize w2.heap.size=gl at *;have Hgl:=Lib.hid hgl;clear hgl
    have Hrow:=Lib.hid hrow;clear hrow
    obtain ⟨f0,f1,f2⟩:=Hrow.out.cells;simp only at f0 f1 f2;rw [h32] at f0;go_upto_if 29 with fail
    go_cut [29] (fun _ wx=>LastRow wx gl XP.1∧TcI w g XP.2 t1 wx)
    case first =>
     by_cases hn:n=0
     ·
      have hn':((n:Int) != 0)=false:=by simp [hn]
      have hq:=HXP.out;rw [if_pos hn] at hq;have Hn:=Lib.hid hn;clear hn
      go_wp2_with fail;go_meet
      rw [← hq];refine ⟨?_,HJ.out⟩;have h:=Hrow.out;rw [Hn.out] at h;exact h
     ·
      have hn':((n:Int) != 0)=true:=by rw [bne_iff_ne];omega
      have hq:=HXP.out;rw [if_neg hn] at hq;clear hn;have Hby:=Lib.hid (byte_any R1 g w3 HJ.out.r);generalize R1.byte=X at *;obtain ⟨b,R2⟩:=X;simp only at Hby hq;have Hst:=Lib.hid (fun (y:World) (hy:RdAt y g R2)=>(show Calls Tryz.prog 88 #[.pointer (some ⟨g,0,none⟩),.int .i64 64] y fun e w'=>e=.returned (.string ⟨(R2.str 64).1.toArray⟩)∧RdAt w' g (R2.str 64).2∧Only g y w' from rstr2_any R2 64 g (by omega) y hy));generalize R2.str 64=X at *;obtain ⟨tx,R3⟩:=X;simp only at Hst hq;have Hq:=Lib.hid hq;clear hq
      have hne:gl≠g:=by have:=Hgl.out;have:=HJ.out.lt;omega
      go_upto_region 11 with ((with_reducible refine Hby.out.mono ?_);rintro e w4 ⟨rfl,h4⟩;have H4:=Lib.hid (And.intro (HJ.out.only h4.1 h4.2) (Hrow.out.only hne h4.2));clear h4 f0 f1 f2;obtain ⟨f0,f1,f2⟩:=H4.out.2.cells;have e1:=H4.out.2.thawed 1)
      change Code.wp _ _ _ _ (w4.setCell ⟨gl,1,none⟩ (.int .u8 (b.toNat:Int)));have HJ5:=Lib.hid (H4.out.1.set (i:=1) (v:=.int .u8 (b.toNat:Int)) Hgl.out);have Hr5:=Lib.hid (H4.out.2.code b.toNat);clear H4 Hrow HJ Hby f0 f1 f2 e1;generalize w4.setCell ⟨gl,1,none⟩ (.int .u8 (b.toNat:Int))=w5 at *
      obtain ⟨f0,f1,f2⟩:=Hr5.out.cells;go_wp2_with ((with_reducible refine (Hst.out _ HJ5.out.r).mono ?_);rintro e w6 ⟨rfl,h6⟩;have H6:=Lib.hid (And.intro (HJ5.out.only h6.1 h6.2) (Hr5.out.only hne h6.2));clear h6 f0 f1 f2;obtain ⟨f0,f1,f2⟩:=H6.out.2.cells;have e2:=H6.out.2.thawed 2);go_meet
      rw [← Hq.out];exact ⟨H6.out.2.text _,H6.out.1.set Hgl.out⟩
    case rest =>
    obtain ⟨hcr,hct⟩:=hcut;generalize wc=w4 at *;clear f0 f1 f2 HJ Hrow HXP;have Hcr:=Lib.hid hcr;clear hcr
    have Hct:=Lib.hid hct;clear hct
    obtain ⟨x,R3⟩:=XP;simp only at Hcr Hct;have hxx:=HXP0.out;rw [hxx] at Hq0;obtain ⟨f0,f1,f2⟩:=Hcr.out.cells;obtain ⟨t0,t1',t2⟩:=tab_cell Hct.out.t hlt;have y0:=Hct.out.t.thawed (i*3);have y1:=Hct.out.t.thawed (i*3+1);have y2:=Hct.out.t.thawed (i*3+2);have HL:=Lib.hid (Hct.out.put hlt x);have hgi:w.heap.size≠gl:=by have:=Hgl.out;omega
    clear hxx HXP0;go_wp2_with fail;refine ⟨⟨i+1,hlt,by simp,by rw [Hq0.out];exact HL.out⟩,by simp [intOf];omega⟩
  ·
   have hlt' : ¬ (i:Int)<4:=by omega
   have hi4:i=4:=by omega
   subst hi4;rw [HE.out] at hI;have HI:=Lib.hid hI;clear hI HE
   obtain ⟨⟨z0,z1,z2⟩,⟨z3,z4,z5⟩,⟨z6,z7,z8⟩,⟨z9,z10,z11⟩⟩:=HI.out.z.cells;have y0:=HI.out.z.thawed 0;have y1:=HI.out.z.thawed 1;have y2:=HI.out.z.thawed 2;have y3:=HI.out.z.thawed 3;have y4:=HI.out.z.thawed 4;have y5:=HI.out.z.thawed 5;have y6:=HI.out.z.thawed 6;have y7:=HI.out.z.thawed 7;have y8:=HI.out.z.thawed 8;have y9:=HI.out.z.thawed 9;have y10:=HI.out.z.thawed 10;have y11:=HI.out.z.thawed 11;obtain ⟨⟨k0,k1,k2⟩,⟨k3,k4,k5⟩,⟨k6,k7,k8⟩,⟨k9,k10,k11⟩⟩:=HI.out.t.cells;have hzr:w.heap.size+1≠g:=by have:=HI.out.lt;omega
   have HT5:=Lib.hid (show TabAt (rowSt wr (w.heap.size+1) 0 (tabCells E.1)) (w.heap.size+1) E.1∧RdAt (rowSt wr (w.heap.size+1) 0 (tabCells E.1)) g E.2∧But g w.heap.size w (rowSt wr (w.heap.size+1) 0 (tabCells E.1)) from
    ⟨tabSt_at HI.out.z E.1,⟨(rowSt_other (Ne.symm hzr) _ _ _).trans HI.out.r.row,HI.out.r.len⟩,HI.out.but.trans (but_of (rowSt_below (Nat.le_succ _) (tabCells E.1) 0 _ (Below.refl _ _)) g)⟩)
   go_wp2_with fail;change bodyPost _ _ _ _ _ (rowSt wr (w.heap.size+1) 0 (tabCells E.1));clear z0 y0 k0 z1 y1 k1 z2 y2 k2 z3 y3 k3 z4 y4 k4 z5 y5 k5 z6 y6 k6 z7 y7 k7 z8 y8 k8 z9 y9 k9 z10 y10 k10 z11 y11 k11 HI;generalize rowSt wr (w.heap.size+1) 0 (tabCells E.1)=w5 at *;obtain ⟨⟨a0,a1,a2⟩,⟨b0,b1,b2⟩,⟨c0,c1,c2⟩,⟨d0,d1,d2⟩⟩:=HT5.out.1.cells;refine bodyPost_ret (v:=.agg (tabCells E.1).toArray) (by rw [tab_eta];simp [results,Tryz.results99,go_sem,a0,a1,a2,b0,b1,b2,c0,c1,c2,d0,d1,d2] <;> rfl) rfl ?_;exact ⟨rfl,HT5.out.2⟩
theorem sumP_app (x:Nat):∀ (i:Nat) (r:List UInt8),(RdV.mk 0 (leB x i++r)).sumP i=(x % 2 ^ (8*i),⟨0,r⟩)
 | 0,r=>by
  show (0,RdV.mk 0 ([]++r))=_;simp [Nat.mod_one]
 | i+1,r=>by
  have h:=sumP_app x i (UInt8.ofNat (x / 256 ^ i)::r);unfold leB RdV.sumP;rw [List.append_assoc,List.singleton_append,h,byte_app];simp only [Prod.mk.injEq,and_true];have hp:(256:Nat) ^ i=2 ^ (8*i):=by rw [Nat.pow_mul]
  have e:(UInt8.ofNat (x / 256 ^ i)).toNat=x / 2 ^ (8*i) % 256:=by rw [hp];simp
  rw [e,show 8*(i+1)=8*i+8 by omega,Nat.pow_add,Nat.mod_mul];rw [Nat.mul_comm (2 ^ (8*i))]
theorem sum8_app {x:Nat} (hx:x<18446744073709551616) (r:List UInt8):(RdV.mk 0 (leB x 8++r)).sumP 8=(x,⟨0,r⟩):=by
 rw [sumP_app x 8 r,Nat.mod_eq_of_lt (by omega)]
theorem lastP_app {x:LastV} (hx:LastFit x) (r:List UInt8):(RdV.mk 0 (lastB x++r)).lastP=(x,⟨0,r⟩):=by
 have h:=last_app hx r;unfold RdV.last at h;simp only [Prod.mk.injEq] at h;obtain ⟨h1,h2⟩:=h;rw [if_neg (by rw [h1];have:=hx.code;omega)] at h2;exact Prod.ext h1 h2
def tmix (s t:TabV):Nat→TabV
 | 0=>s
 | n+1=>(tmix s t n).put n (t.at_ n)
theorem tmix_all (s t:TabV):tmix s t 4=t:=by cases s;cases t;rfl
theorem tmix_at (s t:TabV):∀ (n m:Nat),n≤m→m<4→(tmix s t n).at_ m=s.at_ m
 | 0,_,_,_=>rfl
 | n+1,m,h,hm=>by
  unfold tmix;rw [TabV.put_at (by omega) hm,if_neg (by omega)];exact tmix_at s t n m (by omega) hm
theorem put_self {t:TabV} {n:Nat} {x:LastV} (hn:n<4) (h:t.at_ n=x):t.put n x=t:=by
 subst h;cases t
 have:n=0∨n=1∨n=2∨n=3:=by omega
 rcases this with rfl | rfl | rfl | rfl <;> rfl
theorem bit4:∀ (a b c d:Bool) (n:Fin 4),((((0+if a then 0 else 2 ^ 0)+if b then 0 else 2 ^ 1)+if c then 0 else 2 ^ 2)+if d then 0 else 2 ^ 3) / 2 ^ n.val % 2=if (match n.val with | 0=>a | 1=>b | 2=>c | _=>d) then 0 else 1:=by decide
theorem cliM_bit (s t:TabV) (n:Nat) (hn:n<4):cliM s t 4 / 2 ^ n % 2=if lastE (t.at_ n) (s.at_ n) then 0 else 1:=by
 have h:=bit4 (lastE (t.at_ 0) (s.at_ 0)) (lastE (t.at_ 1) (s.at_ 1)) (lastE (t.at_ 2) (s.at_ 2)) (lastE (t.at_ 3) (s.at_ 3)) ⟨n,hn⟩;have hc:n=0∨n=1∨n=2∨n=3:=by omega
 rcases hc with rfl | rfl | rfl | rfl <;> exact h
theorem clientsP_app {s t:TabV} (ht:∀ n,LastFit (t.at_ n)):∀ (n:Nat) (r:List UInt8),n≤4→(RdV.mk 0 (cliB s t n++r)).clientsP (cliM s t 4) s n=(tmix s t n,⟨0,r⟩)
 | 0,_,_=>rfl
 | n+1,r,hn=>by
  have hb:=cliM_bit s t n (by omega);unfold cliB RdV.clientsP;rw [List.append_assoc];by_cases he:lastE (t.at_ n) (s.at_ n)=true
  ·
   rw [if_pos he] at hb ⊢;rw [if_pos hb,List.nil_append,clientsP_app ht n r (by omega)];have e:(tmix s t n).at_ n=t.at_ n:=by rw [tmix_at s t n n (Nat.le_refl _) (by omega)];exact (lastE_iff.1 he).symm
   show _=((tmix s t n).put n (t.at_ n),_);rw [put_self (by omega) e]
  ·
   rw [if_neg he] at hb ⊢;rw [if_neg (by omega),clientsP_app ht n (lastB (t.at_ n)++r) (by omega)];simp only [lastP_app (ht n)];rfl
theorem clients_app {s t:TabV} (ht:∀ n,LastFit (t.at_ n)) (r:List UInt8):(RdV.mk 0 (clientsB s t++r)).clients s=(t,⟨0,r⟩):=by
 have hm:=cliM_lt s t 4;have e:(UInt8.ofNat (cliM s t 4)).toNat=cliM s t 4:=by simp;omega
 unfold RdV.clients clientsB;rw [List.cons_append,byte_app];simp only [e];rw [if_pos hm,clientsP_app ht 4 r (Nat.le_refl _),tmix_all]
def chgL (A:Prs) (c:Chg):Prs:=if c.has=true then insL A c.key c.new else rmL A c.key
theorem apply_kv {S:Sh} (h:Asc S.kv) (c:Chg):(applyD S c.key c.has c.new).kv=chgL S.kv c:=by
 unfold applyD chgL;split
 ·
  exact put_kv' h _ _
 ·
  exact del_kv' h _
theorem filt_mid {P M A:Prs} {k:ByteArray} (hP:∀ p ∈ P,slt p.1 k=true) (hA:∀ p ∈ A,slt k p.1=true) (hM:∀ p ∈ M,p.1=k):(P++(M++A)).filter (ltB k)=P∧(P++(M++A)).filter (gtB k)=A:=by
 have e1:P.filter (ltB k)=P:=filter_all hP;have e2:P.filter (gtB k)=[]:=filter_no fun p hp=>slt_asymm (hP p hp)
 have e3:A.filter (gtB k)=A:=filter_all hA;have e4:A.filter (ltB k)=[]:=filter_no fun p hp=>slt_asymm (hA p hp)
 have e5:M.filter (ltB k)=[]:=filter_no fun p hp=>by show slt p.1 k=false;rw [hM p hp];exact slt_irrefl _
 have e6:M.filter (gtB k)=[]:=filter_no fun p hp=>by show slt k p.1=false;rw [hM p hp];exact slt_irrefl _
 simp [List.filter_append,e1,e2,e3,e4,e5,e6]
theorem ins_mid {P M A:Prs} {k v:ByteArray} (hP:∀ p ∈ P,slt p.1 k=true) (hA:∀ p ∈ A,slt k p.1=true) (hM:∀ p ∈ M,p.1=k):insL (P++(M++A)) k v=(P++[(k,v)])++A:=by
 unfold insL;obtain ⟨h1,h2⟩:=filt_mid hP hA hM;rw [h1,h2,List.append_assoc];rfl
theorem rm_mid {P M A:Prs} {k:ByteArray} (hP:∀ p ∈ P,slt p.1 k=true) (hA:∀ p ∈ A,slt k p.1=true) (hM:∀ p ∈ M,p.1=k):rmL (P++(M++A)) k=P++A:=by
 unfold rmL;obtain ⟨h1,h2⟩:=filt_mid hP hA hM;rw [h1,h2]
theorem diff_leads:∀ (n:Nat) {P A B:Prs},A.length+B.length≤n→Asc A→Asc B→(∀ p ∈ P,(∀ q ∈ A,slt p.1 q.1=true)∧∀ q ∈ B,slt p.1 q.1=true)→(diffL A B).foldl chgL (P++A)=P++B
 | n,P,[],[],_,_,_,_=>by rw [diff_nil_nil];rfl
 | 0,_,p::A,_,h,_,_,_=>by simp at h
 | 0,_,[],q::B,h,_,_,_=>by simp at h
 | n+1,P,p::A,[],h,hA,hB,hP=>by
  obtain ⟨h1,h2⟩:=asc_cons hA;rw [diff_cons_nil];have e:chgL (P++p::A) (cDel p)=P++A:=rm_mid (M:=[p]) (fun x hx=>(hP x hx).1 p (by simp)) h1 (fun x hx=>by rw [List.mem_singleton.1 hx];rfl);show (diffL A []).foldl chgL (chgL (P++p::A) (cDel p))=_;rw [e];exact diff_leads n (by simp at h ⊢; omega) h2 hB (fun x hx=>⟨fun y hy=>(hP x hx).1 y (by simp [hy]),fun y hy=>by simp at hy⟩)
 | n+1,P,[],q::B,h,hA,hB,hP=>by
  obtain ⟨h1,h2⟩:=asc_cons hB;rw [diff_nil_cons];have e:chgL (P++[]) (cAdd q)=(P++[q])++[]:=ins_mid (M:=[]) (A:=[]) (fun x hx=>(hP x hx).2 q (by simp)) (fun x hx=>by simp at hx) (fun x hx=>by simp at hx);show (diffL [] B).foldl chgL (chgL (P++[]) (cAdd q))=_;rw [e,diff_leads n (by simp at h ⊢; omega) hA h2 (fun x hx=>?_)]
  ·
   rw [List.append_assoc];rfl
  ·
   refine ⟨fun y hy=>by simp at hy,fun y hy=>?_⟩;rcases List.mem_append.1 hx with hx | hx
   ·
    exact (hP x hx).2 y (by simp [hy])
   ·
    rw [List.mem_singleton.1 hx];exact h1 y hy
 | n+1,P,p::A,q::B,h,hA,hB,hP=>by
  simp only [List.length_cons] at h;obtain ⟨h1,h2⟩:=asc_cons hA;obtain ⟨g1,g2⟩:=asc_cons hB;rw [diff_cons_cons];by_cases hpq:slt p.1 q.1=true
  ·
   rw [if_pos hpq];have e:chgL (P++p::A) (cDel p)=P++A:=rm_mid (M:=[p]) (fun x hx=>(hP x hx).1 p (by simp)) h1 (fun x hx=>by rw [List.mem_singleton.1 hx];rfl);show (diffL A (q::B)).foldl chgL (chgL (P++p::A) (cDel p))=_;rw [e];exact diff_leads n (by simp;omega) h2 hB (fun x hx=>⟨fun y hy=>(hP x hx).1 y (by simp [hy]),(hP x hx).2⟩)
  rw [if_neg hpq];by_cases hqp:slt q.1 p.1=true
  ·
   rw [if_pos hqp];have hall:∀ x ∈ p::A,slt q.1 x.1=true:=fun x hx=>by
    rcases List.mem_cons.1 hx with rfl | hx
    ·
     exact hqp
    ·
     exact slt_trans hqp (h1 x hx)
   have e:chgL (P++p::A) (cAdd q)=(P++[q])++(p::A):=ins_mid (M:=[]) (fun x hx=>(hP x hx).2 q (by simp)) hall (fun x hx=>by simp at hx);show (diffL (p::A) B).foldl chgL (chgL (P++p::A) (cAdd q))=_;rw [e,diff_leads n (by simp;omega) hA g2 (fun x hx=>?_)]
   ·
    rw [List.append_assoc];rfl
   ·
    rcases List.mem_append.1 hx with hx | hx
    ·
     exact ⟨(hP x hx).1,fun y hy=>(hP x hx).2 y (by simp [hy])⟩
    ·
     rw [List.mem_singleton.1 hx];exact ⟨hall,g1⟩
  rw [if_neg hqp];have he:p.1=q.1:=slt_or hpq hqp;have hP2:∀ x ∈ P++[q],(∀ y ∈ A,slt x.1 y.1=true)∧∀ y ∈ B,slt x.1 y.1=true:=fun x hx=>by
   rcases List.mem_append.1 hx with hx | hx
   ·
    exact ⟨fun y hy=>(hP x hx).1 y (by simp [hy]),fun y hy=>(hP x hx).2 y (by simp [hy])⟩
   ·
    rw [List.mem_singleton.1 hx];exact ⟨by rw [← he];exact h1,g1⟩
  have ih:=diff_leads n (P:=P++[q]) (by omega) h2 g2 hP2;have hend:(P++[q])++B=P++q::B:=by rw [List.append_assoc];rfl
  rw [hend] at ih;by_cases hv:p.2=q.2
  ·
   rw [if_pos hv];have e:p=q:=Prod.ext he hv;have e2:P++p::A=(P++[q])++A:=by rw [e,List.append_assoc];rfl
   rw [e2];exact ih
  ·
   rw [if_neg hv];have e:chgL (P++p::A) ⟨p.1,p.2,q.2,true,true⟩=(P++[(p.1,q.2)])++A:=ins_mid (M:=[p]) (fun x hx=>(hP x hx).1 p (by simp)) h1 (fun x hx=>by rw [List.mem_singleton.1 hx]);have e2:(p.1,q.2)=q:=by rw [he]
   rw [e2] at e;show (diffL A B).foldl chgL (chgL (P++p::A) ⟨p.1,p.2,q.2,true,true⟩)=_;rw [e];exact ih
theorem applyM_ok {S:Sh} (h:Asc S.kv∧S.Heap) (k:ByteArray) (b:Bool) (v:ByteArray):Asc (applyD S k b v).kv∧(applyD S k b v).Heap:=by
 unfold applyD;split
 ·
  exact ⟨asc_put h.1 _ _ _,putSh_heap h.2 h.1 _ _⟩
 ·
  exact ⟨asc_del h.1 _ _,delSh_heap h.2 h.1 _⟩
def ChgFit (c:Chg):Prop:=c.key.size≤16∧c.new.size≤64
theorem chgV_app {c:Chg} (h:ChgFit c) (r:List UInt8):(RdV.mk 0 ((if c.has then numL 1++strL c.new else numL 0)++r)).chgV=((c.has,if c.has then c.new else ByteArray.empty),⟨0,r⟩):=by
 unfold RdV.chgV;cases hc:c.has with
 | true =>
  simp only [if_true];rw [List.append_assoc,below_app (by omega) (by omega)];simp only [if_true];rw [str_back h.2 (by omega)]
 | false =>
  simp only [Bool.false_eq_true,if_false];rw [below_app (by omega) (by omega)];simp
theorem chgK_app {c:Chg} {last:ByteArray} (h:ChgFit c) (hl:slt last c.key=true) (r:List UInt8):(RdV.mk 0 (strL c.key++r)).chgK last=(c.key,⟨0,r⟩):=by
 unfold RdV.chgK;rw [str_back h.1 (by omega)];simp only [str_mk];rw [if_pos hl]
theorem keysPD_app:∀ (D:List Chg) (S:Sh) (last:ByteArray) (r:List UInt8),(Asc S.kv∧S.Heap)→D.Pairwise (fun c d=>slt c.key d.key=true)→(∀ c ∈ D,ChgFit c∧slt last c.key=true) →
  ∃ S2,RdV.keysPD D.length S last ⟨0,chgsB D++r⟩=(S2,⟨0,r⟩)∧S2.kv=D.foldl chgL S.kv∧S2.Heap
 | [],S,_,r,hS,_,_=>⟨S,rfl,rfl,hS.2⟩
 | c::D,S,last,r,hS,hD,hc=>by
  obtain ⟨hf,hl⟩:=hc c (by simp);obtain ⟨d1,d2⟩:=List.pairwise_cons.1 hD;have e1:(RdV.mk 0 (chgsB (c::D)++r)).chgK last=(c.key,⟨0,(if c.has then numL 1++strL c.new else numL 0)++(chgsB D++r)⟩):=by
   have e:chgsB (c::D)++r=strL c.key++((if c.has then numL 1++strL c.new else numL 0)++(chgsB D++r)):=by
    show (strL c.key++if c.has then numL 1++strL c.new else numL 0)++chgsB D++r=_;simp only [List.append_assoc]
   rw [e];exact chgK_app hf hl _
  have e2:=chgV_app hf (chgsB D++r);have e3:applyD S c.key c.has (if c.has then c.new else ByteArray.empty)=applyD S c.key c.has c.new:=by
   unfold applyD;cases c.has <;> simp
  obtain ⟨S2,h1,h2,h3⟩:=keysPD_app D (applyD S c.key c.has c.new) c.key r (applyM_ok hS _ _ _) d2 (fun d hd=>⟨(hc d (by simp [hd])).1,d1 d hd⟩);refine ⟨S2,?_,by rw [h2,apply_kv hS.1];rfl,h3⟩;show RdV.keysPD (D.length+1) S last _=_;unfold RdV.keysPD;rw [e1];simp only;rw [e2];simp only [if_true];rw [e3];exact h1
theorem slt_nil {k:ByteArray} (h:1≤k.size):slt ByteArray.empty k=true:=by
 unfold slt;have hne:k.toList≠[]:=by
  intro e;have h9:k.toList.length=k.size:=by rw [ByteArray.toList_eq];exact str_len k
  rw [e] at h9;simp at h9;omega
 cases hx:k.toList with
 | nil=>exact absurd hx hne
 | cons a l=>rw [ByteArray.toList_eq];rfl
theorem keysD_app {S U:Sh} (hS:Asc S.kv∧S.Heap) (hU:Asc U.kv∧U.Heap) (fS:∀ p ∈ S.kv,1≤p.1.size∧p.1.size≤16) (fU:∀ p ∈ U.kv,(1≤p.1.size∧p.1.size≤16)∧p.2.size≤64) (nS:S.cnt≤256) (nU:U.cnt≤256) (r:List UInt8) :
  (RdV.mk 0 (keysDB (diffL S.kv U.kv)++r)).keysD S=(U,⟨0,r⟩):=by
 have hn:=diff_len _ (Nat.le_refl _) (A:=S.kv) (B:=U.kv);have c1:=cnt_kv S;have c2:=cnt_kv U;obtain ⟨he,hp⟩:=diff_elem _ (Nat.le_refl _) hS.1 hU.1;have hfit:∀ c ∈ diffL S.kv U.kv,ChgFit c∧slt ByteArray.empty c.key=true:=fun c hc=>by
  have e:=he c hc;have hk:1≤c.key.size∧c.key.size≤16:=by
   rcases diff_keys _ (Nat.le_refl _) hc with ⟨v,h1⟩ | ⟨v,h1⟩
   ·
    exact fS _ h1
   ·
    exact (fU _ h1).1
  refine ⟨⟨hk.2,?_⟩,slt_nil hk.1⟩;rcases e.b with ⟨_,h2⟩ | ⟨_,h2,_⟩
  ·
   exact (fU _ h2).2
  ·
   rw [h2];decide
 obtain ⟨S2,k1,k2,k3⟩:=keysPD_app (diffL S.kv U.kv) S ByteArray.empty r hS hp hfit;have hl:=diff_leads _ (P:=[]) (Nat.le_refl _) hS.1 hU.1 (fun p hp=>by simp at hp);simp only [List.nil_append] at hl;rw [hl] at k2;have e2:S2=U:=One.shape_uniq k3 hU.2 k2;unfold RdV.keysD keysDB;rw [List.append_assoc,below_app (by omega) (by omega)];simp only;rw [k1,e2]
end Go.Proofs.YtbckjgageofldaaGreat
