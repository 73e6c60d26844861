/- Chains: the document's bases: a base's text, a chain's tail. Condition: the chain lies there. -/
import Derived.Test.YtbckjgageofldaaGreatZLearnPlays18
import Derived.Test.YtbckjgageofldaaGreatZLearnPlays19
import Derived.Test.YtbckjgageofldaaGreatZLearnPlays17
import Derived.Test.YtbckjgageofldaaGreatZLearnPlays14
import Derived.Test.YtbckjgageofldaaGreatZLearnPlays22
import Derived.Test.YtbckjgageofldaaGreatZLearnPlays8
import Derived.Deep.MidRow
import Derived.Test.YtbckjgageofldaaGreatZLearnPlays16
set_option maxRecDepth 100000
set_option maxHeartbeats 16000000
namespace Go.Proofs.YtbckjgageofldaaGreat
open Go.RowKit
structure RbV where
 s:Nat
 t:List UInt8
 r:RefM
 M:MacV
def rbCells (b:RbV):List Value:=[.int .u64 (b.s:Int),.string ⟨b.t.toArray⟩]++(refCells b.r++[])
def rbV (b:RbV):Value:=.agg (rbCells b).toArray
def rb0:RbV:=⟨0,[],refNone,macNone⟩
theorem rb_len (b:RbV):(rbCells b).length=6:=rfl
theorem rb_one (b:RbV):∀ u ∈ rbCells b,u.oneCell'=true:=by
 intro u hu;simp only [rbCells,refCells,List.cons_append,List.nil_append,List.mem_cons,List.not_mem_nil,or_false] at hu;rcases hu with rfl | rfl | rfl | rfl | rfl | rfl <;> rfl
theorem rfm_size:(Tryz.prog.info? 43).map (·.size)=some 4:=by kernel_rfl
theorem infoRb:(Tryz.prog.info? 86).map (fun i=>(i.zero,i.size,i.bytes))=some (some (rbV rb0),6,80):=by kernel_rfl
theorem rb_size (b:RbV):(Tryz.prog.info? 86).map (·.size)=some (rbCells b).length:=(by kernel_rfl:(Tryz.prog.info? 86).map (·.size)=some 6)
theorem rb_new (w:World) (b:RbV):SliceAt 6 rbCells (w.alloc (.cells (rbCells b).toArray 86)) (some ⟨w.heap.size,0,none⟩) 1 [b]:=by
 refine ⟨rfl,by decide,fun i x hx=>?_⟩;cases i with
 | zero =>
  simp at hx;subst hx;refine ⟨w.heap.size,0,rfl,by simp,fun j v hj=>?_⟩;have h:=range_row (heap_alloc_new w (.cells (rbCells b).toArray 86)) j v hj;rw [Nat.zero_mul,Nat.zero_add];exact h
 | succ i=>simp at hx
def RbAt (w:World) (g:Nat) (b:RbV):Prop:=w.heap[g]?=some (.cells (rbCells b).toArray 86 (0,0))
theorem RbAt.lt {w:World} {g:Nat} {b:RbV} (h:RbAt w g b):g<w.heap.size:=(Array.getElem?_eq_some_iff.1 h).1
theorem RbAt.below {w w':World} {g:Nat} {b:RbV} (h:RbAt w g b) (hb:Below w.heap.size w w'):RbAt w' g b:=(hb.block g h.lt).trans h
theorem RbAt.text {w:World} {g:Nat} {b:RbV} (h:RbAt w g b):w.cell? ⟨g,1,none⟩=some (.string ⟨b.t.toArray⟩):=cell_of_row _ _ _ _ _ _ h
theorem RbAt.slot {w:World} {g:Nat} {b:RbV} (h:RbAt w g b):w.cell? ⟨g,0,none⟩=some (.int .u64 (b.s:Int)):=cell_of_row _ _ _ _ _ _ h
theorem RbAt.ref {w:World} {g:Nat} {b:RbV} (h:RbAt w g b):(Instr.loadAt 43 (.pointer (some ⟨g,2,none⟩))).run Tryz.prog w=.ok (.agg (refCells b.r).toArray) w :=
 mid_loadAt (P:=Tryz.prog) (pre:=[.int .u64 (b.s:Int),.string ⟨b.t.toArray⟩]) (cs:=refCells b.r) (post:=[]) h Tryz.underlying43 rfl rfm_size
theorem rtext24_any (b:RbV) (z:List KeptV) (hM:MacFit b.M) (ht:b.t.length≤3) (w:World) (h:RefAt w b.r b.M z) :
  Calls Tryz.prog 24 #[rbV b] w fun e w'=>e=.returned (.string ⟨(textB b.t b.M).toArray⟩)∧Below w.heap.size w w':=by
 have hb1:=(Below.refl w.heap.size w).alloc (Nat.le_refl _) (.cells (rbCells b).toArray 86);have hr1:RbAt (w.alloc (.cells (rbCells b).toArray 86)) w.heap.size b:=heap_alloc_new _ _;have hst:∀ y:World,Calls Tryz.prog 61 #[.string ⟨b.t.toArray⟩] y fun e w'=>e=.returned (.string ⟨(numL b.t.length++b.t).toArray⟩)∧Below y.heap.size y w':=fun y=>by
  have q:=rstr_any ⟨b.t.toArray⟩ (by show b.t.toArray.size≤_;rw [List.size_toArray];omega) y;have e:strL ⟨b.t.toArray⟩=numL b.t.length++b.t:=by
   unfold strL;show numL b.t.toArray.size++b.t.toArray.toList=_;rw [List.size_toArray]
  rw [e] at q;exact q
 have hcap : ¬ 9223372036854775807<(numL b.t.length).length+b.t.length+(macB b.M).length:=by
  have q:=textB_len hM ht;unfold textB at q;rw [List.length_append,List.length_append] at q;omega
 have HS:=Lib.hid hst;have HM:=Lib.hid (fun (y:World) (hy:Below w.heap.size w y)=>rbytes_any b.r b.M z (macFit_by hM) y (h.below hy));have Hr1:=Lib.hid hr1;have Hb1:=Lib.hid hb1;clear hb1 hr1 hst hM ht h;unfold rbV;go_enter Tryz.func24,Tryz.ntmps24
 go_upto_region 1 with fail;change Code.wp _ _ _ _ (w.alloc (.cells (rbCells b).toArray 86));generalize w.alloc (.cells (rbCells b).toArray 86)=w1 at *;refine (wpIn_wide (n:=1)).1 ?_;refine RegJ.wpIn_region_plan (F:=Fence.wide) (KeptW w1) (.step 0 0 (.step 1 0 (.step 3 0 (.step 4 0 (.step 2 1 (.step 5 1 (.step 6 0 (.step 7 0 .nil)))))))) (by kernel_rfl) (by kernel_rfl) (by kernel_rfl) (fun _ _ d _ _ h=>by cases d <;> exact h) ⟨rfl,rfl,rfl,Nat.le_refl _,fun _ _=>rfl⟩ ?_;dsimp only [RegJ.pickJ,List.getElem?_cons_zero,List.getElem?_cons_succ];change RegJ.Can _ _ _ _ _ _ _ _ w1.drew;have hkd:KeptW w1 w1.drew:=⟨rfl,rfl,rfl,Nat.le_refl _,fun _ _=>rfl⟩;generalize w1.drew=v1 at *;refine RegJ.reads ?_;intro K hK;go_simp;(first | refine ⟨_,fun _ _=>rfl,hK _ ?_⟩ | refine hK _ ?_);clear hK K
 refine RegJ.reads ?_;intro K hK;go_simp;refine ⟨.string ⟨b.t.toArray⟩,fun y hy=>?_,hK _ ?_⟩
 ·
  have f1:=(Hr1.out.below (KeptW.bel hy)).text;go_simp
 clear hK K;refine RegJ.reads ?_;intro K hK;go_simp;(first | refine ⟨_,fun _ _=>rfl,hK _ ?_⟩ | refine hK _ ?_);clear hK K
 refine RegJ.reads ?_;intro K hK;rw [if_pos (by first | (simp [Region.wanted];done) | (go_simp;done))];refine ⟨.agg (refCells b.r).toArray,fun y hy=>exec_load rfl rfl ((Hr1.out.below (KeptW.bel hy)).ref),hK _ ?_⟩;clear hK K;go_simp;refine RegJ.turns (fun _=>trivial) ?_;intro K K0 hK hK0;go_simp;refine ⟨trivial,?_⟩;refine (callsIn_wide.2 (HS.out v1)).mono ?_;rintro e v2 ⟨rfl,hb7⟩;have v2k:KeptW w1 v2:=KeptW.mono hkd hb7;refine hK _ _ _ (fun _ h=>h) v2k ?_;clear hK K hK0 K0;refine RegJ.turns (fun _=>trivial) ?_;intro K K0 hK hK0;go_simp;refine ⟨trivial,?_⟩;refine (callsIn_wide.2 (HM.out v2 (Hb1.out.trans ((KeptW.bel v2k).mono Hb1.out.size)))).mono ?_;rintro e v3 ⟨rfl,hb7⟩;have v3k:KeptW w1 v3:=KeptW.mono v2k hb7;refine hK _ _ _ (fun _ h=>h) v3k ?_;clear hK K hK0 K0;iterate 2 (refine RegJ.reads ?_;intro K hK;go_simp;(first | refine ⟨_,fun _ _=>rfl,hK _ ?_⟩ | refine hK _ ?_);clear hK K)
 refine RegJ.nil ?_;go_wp2_with fail;go_ret;refine ⟨?_,Hb1.out.trans ((KeptW.bel v3k).mono Hb1.out.size)⟩;unfold textB;rw [str_app];rfl
theorem rtail_any (Dl:List UInt8) (v:Value) (hD:0<Dl.length) (hl:Dl.length≤1000000) (base:Nat) (w:World) (h:OwnB w base 5 v Dl) :
  Calls Tryz.prog 60 #[.agg #[.int .u64 0,v]] w fun e w'=>e=.returned (.string ⟨(Dl.drop (Dl.length - 3)).toArray⟩)∧Below w.heap.size w w':=by
 have hcap:=fun a n c (e:v=.slice a n c)=>OwnB.cap (e ▸ h)
 obtain ⟨a,n,c,rfl⟩:=h.read.slice;have hn:=h.len;subst hn;have hc:=hcap a _ c rfl;clear hcap;obtain ⟨k,hk⟩:∃ k,Dl.length - 3=k:=⟨_,rfl⟩;rw [hk];have hb1:=(Below.refl w.heap.size w).alloc (Nat.le_refl _) (.cells #[.int .u64 0,.slice a Dl.length c] 46);have hrd:=((h.read.below hb1).drop hc (k:=k) (by omega)).conv Tryz.underlying44 Tryz.underlying5 Tryz.underlying9;unfold sliced at hrd;have hck : ¬ c=k:=by omega
 rw [if_neg hck,Nat.mul_one] at hrd;have Hb1:=Lib.hid hb1;by_cases h3:3<Dl.length
 ·
  have h3':(3:Int)<(Dl.length:Int):=by omega
  have hw1:IntKind.i64.wrap ((Dl.length:Int) - 3)=(k:Int):=by rw [IntKind.wrap_i64];omega
  have hk1:(0:Int)≤(k:Int):=by omega
  have hk2:(k:Int)≤(Dl.length:Int):=by omega
  clear hb1 h hl h3 hc hk hD;go_enter Tryz.func60,Tryz.ntmps60
  go_wp2_with fail;go_ret;exact ⟨rfl,Hb1.out⟩
 ·
  have h3' : ¬ (3:Int)<(Dl.length:Int):=by omega
  have hk0:k=0:=by omega
  subst hk0;rw [List.drop_zero];clear hrd;have hrd:=(h.read.below hb1).conv Tryz.underlying44 Tryz.underlying5 Tryz.underlying9;clear hb1 h hl h3 hc hk hD;go_enter Tryz.func60,Tryz.ntmps60
  go_wp2_with fail;go_ret;exact ⟨rfl,Hb1.out⟩
theorem chat_new (w:World) (n:Nat):ChAt (w.alloc (.cells #[.int .u64 (n:Int),.slice none 0 0] 124)) w.heap.size w.heap.size (.slice none 0 0) ⟨n,[]⟩:=⟨heap_alloc_new w _,⟨rfl,.inl ⟨rfl,rfl⟩⟩⟩
theorem chat_app {w w1 w':World} {base p x:Nat} {v:Value} {C:ChV} {a4:Option Addr} {n4 c4:Nat} (h:ChAt w base p v C) (hb:Below w.heap.size w w1) (hg:w1.grownBy w' v.ownBlock) (ho:OwnB w' base 24 (.slice a4 n4 c4) (C.D++[UInt8.ofNat x])) :
  ChAt (w'.setCell ⟨p,1,none⟩ (.slice a4 n4 c4)) base p (.slice a4 n4 c4) (C.push (UInt8.ofNat x)):=by
 have hr:=grown_row h hb hg;refine ⟨?_,OwnB.setNe ho (own_ne ho hr)⟩;rw [heap_setCell_same _ _ _ _ _ _ hr];rfl
theorem chof_bad (top:Nat) (t:List UInt8) (htop:top<18446744073709551616) (hlen:t.length≤1000000) (hbad : ¬ (top≤4611686018427387904∧t.length=min (top+1) 3)) (w:World) :
  Calls Tryz.prog 90 #[.int .u64 (top:Int),.string ⟨t.toArray⟩] w fun e w'=>e=.returned (.tuple #[.pointer none,.int .i64 2])∧Below w.heap.size w w':=by
 by_cases h1:top≤4611686018427387904
 ·
  have h1':((4611686018427387904:Int)<(top:Int))=False:=by rw [eq_iff_iff,iff_false];omega
  have h2:t.length≠min (top+1) 3:=fun e=>hbad ⟨h1,e⟩
  have hw1:IntKind.u64.wrap ((top:Int)+1)=(top:Int)+1:=by rw [IntKind.wrap_u64];omega
  have hw2:IntKind.u64.wrap (t.length:Int)=(t.length:Int):=by rw [IntKind.wrap_u64];omega
  have hmn:((t.length:Int) != min ((top:Int)+1) 3)=true:=by rw [bne_iff_ne];omega
  have hlit:t.toArray.size=t.length:=rfl;clear h1 h2 hbad htop hlen;go_enter Tryz.func90,Tryz.ntmps90
  go_wp2_with fail;refine bodyPost_ret (v:=.tuple #[.pointer none,.int .i64 2]) (by simp [results,Tryz.results90,go_sem]) rfl ?_;exact ⟨rfl,Below.refl _ _⟩
 ·
  have h1':((4611686018427387904:Int)<(top:Int))=True:=by rw [eq_iff_iff,iff_true];omega
  clear h1 hbad htop hlen;go_enter Tryz.func90,Tryz.ntmps90
  go_wp2_with fail;refine bodyPost_ret (v:=.tuple #[.pointer none,.int .i64 2]) (by simp [results,Tryz.results90,go_sem]) rfl ?_;exact ⟨rfl,Below.refl _ _⟩
def OfP (w:World) (low:Nat) (t:List UInt8) (e:Ending) (w':World):Prop:=Below w.heap.size w w'∧(t.all dirOk=true→∃ p v,e=.returned (.tuple #[.pointer (some ⟨p,0,none⟩),.int .i64 0])∧ChAt w' w.heap.size p v ⟨low,t⟩∧w.heap.size≤p)∧(t.all dirOk=false→e=.returned (.tuple #[.pointer none,.int .i64 2]))
theorem all_take {t:List UInt8} {i:Nat} (hi:i<t.length):(t.take (i+1)).all dirOk=((t.take i).all dirOk && dirOk t[i]):=by
 rw [List.take_succ_eq_append_getElem hi,List.all_append];simp
theorem chof_good (top:Nat) (t:List UInt8) (h1:top≤4611686018427387904) (h2:t.length=min (top+1) 3) (w:World) :
  Calls Tryz.prog 90 #[.int .u64 (top:Int),.string ⟨t.toArray⟩] w fun e w'=>OfP w (top+1 - t.length) t e w':=by
 obtain ⟨i0,hi00,hz0,hs0,hb0⟩:=info_parts infoSet;have h1':((4611686018427387904:Int)<(top:Int))=False:=by rw [eq_iff_iff,iff_false];omega
 have hw1:IntKind.u64.wrap ((top:Int)+1)=(top:Int)+1:=by rw [IntKind.wrap_u64];omega
 have hw2:IntKind.u64.wrap (t.length:Int)=(t.length:Int):=by rw [IntKind.wrap_u64];omega
 have hmn:((t.length:Int) != min ((top:Int)+1) 3)=false:=by rw [bne_eq_false_iff_eq];omega
 have hw3:IntKind.u64.wrap ((top:Int)+1 - (t.length:Int))=((top+1 - t.length:Nat):Int):=by rw [IntKind.wrap_u64];omega
 have Hl3:=Lib.hid (show t.length≤3 by omega);have hc0:=Lib.hid (chat_new w (top+1 - t.length));clear h1 h2;generalize top+1 - t.length=low at *;go_enter Tryz.func90,Tryz.ntmps90
 go_wp2_with fail;change Code.wp _ _ _ _ (w.alloc (.cells #[.int .u64 (low:Int),.slice none 0 0] 124));have Hb1:=Lib.hid ((Below.refl w.heap.size w).alloc (Nat.le_refl _) (.cells #[.int .u64 (low:Int),.slice none 0 0] 124));clear h1' hw1 hw2 hw3 hmn;generalize w.alloc (.cells #[.int .u64 (low:Int),.slice none 0 0] 124)=w1 at *
 go_loopw [7,8,30] (fun _ _ s30 wr=>∃ (i:Nat) (v:Value),i≤t.length∧s30=.int .i64 (i:Int)∧(t.take i).all dirOk=true∧ChAt wr w.heap.size w.heap.size v ⟨low,t.take i⟩∧Below w.heap.size w wr) (fun _ _ s30 _=>t.length - (intOf s30).toNat)
 case atStart=>exact ⟨0,_,by omega,rfl,rfl,hc0.out,Hb1.out⟩
 case round =>
  obtain ⟨i,v,hi,rfl,hall,hc,hb⟩:=hrel;have Hall:=Lib.hid hall;clear hall
  have Hc:=Lib.hid hc;have Hb:=Lib.hid hb;clear hb
  by_cases hlt:i<t.length
  ·
   have hlt':(i:Int)<(t.length:Int):=by omega
   have hi0 : ¬ (i:Int)<0:=by omega
   have hsucc:=tsucc (n:=i) (by have:=Hl3.out;omega);obtain ⟨x,hx⟩:∃ x,(⟨t.toArray⟩:ByteArray)[i]'hlt=x:=⟨_,rfl⟩;have hx2:t[i]=x:=hx;have hx8:UInt8.ofNat x.toNat=x:=by simp
   have hd:=fun y:World=>directory_any x.toNat x.toNat_lt y
   rw [hx8] at hd;have hstep:=all_take hlt;have htk:t.take (i+1)=t.take i++[t[i]]:=(List.take_append_getElem hlt).symm;rw [hx2] at hstep htk;rw [Hall.out,Bool.true_and] at hstep;by_cases hok:dirOk x=true
   ·
    rw [hok] at hd hstep;have Hd:=Lib.hid hd;clear hd
    have f1:=hc.cells.2;have e1:=hc.thawed 1;have Htk:=Lib.hid (And.intro htk hstep);clear htk hstep hx2 hok
    have hone:=fun y:World=>ReadB.one y x 24
    have Hone:=Lib.hid hone;clear hone
    have Hln:=Lib.hid (show (t.take i).length≤3 by rw [List.length_take];have:=Hl3.out;omega);clear hc;go_wp2_with (first
     | ((with_reducible refine (Hd.out _).mono ?_);rintro e w2 ⟨rfl,rfl⟩)
     | (at_builtin;refine wpList_append_read rfl _ _ 122 rfl w.heap.size 24 i0 (.int .u8 0) Tryz.underlying122 hi00 hz0 hs0 hb0 rfl _ _ _ rfl (World.ownsRow.alloc Hc.out.own _) _ _ rfl (Hone.out _) (by show (t.take i).length+1≤_;have:=Hln.out;omega) (by simp;have:=Hb.out.size;omega) ?_;intro v4 w4 ho4 hg4;have ho5:=OwnB.of (l:=t.take i) (k:=[x]) ho4 rfl rfl;clear ho4;obtain ⟨a4,n4,c4,rfl⟩:=ho5.read.slice;have hr4:=grown_row Hc.out ((Below.refl _ wr).alloc (Nat.le_refl _) _) hg4;clear f1 e1;have f1:=cell_of_row _ _ 1 _ _ _ hr4;have e1:=thawed_row 1 hr4;have H4:=Lib.hid (And.intro hr4 (And.intro ho5 hg4));clear hr4 ho5 hg4))
    go_roundw
    case rel =>
     obtain ⟨hr4,ho4,hg4⟩:=H4.out;refine ⟨i+1,.slice a4 n4 c4,hlt,rfl,Htk.out.2,?_,?_⟩
     ·
      have h:=chat_app (x:=x.toNat) Hc.out ((Below.refl _ wr).alloc (Nat.le_refl _) _) hg4 (by rw [hx8];exact ho4);unfold ChV.push at h;rw [hx8] at h;rw [Htk.out.1];exact h
     ·
      exact below_setV (below_grown hg4 (Hb.out.alloc Hb.out.size _) (by simp;have:=Hb.out.size;omega) (fun q hq=>(World.ownsRow.lt Hc.out.own q hq).1)) (Nat.le_refl _)
    case measure=>simp [intOf];omega
   ·
    rw [Bool.not_eq_true] at hok;rw [hok] at hd;have Hd:=Lib.hid hd;clear hd
    have hno : ¬ t.all dirOk=true:=by
     intro ha;rw [List.all_eq_true] at ha;have:=ha t[i] (List.getElem_mem hlt);rw [hx2,hok] at this;cases this
    have Hno:=Lib.hid hno;clear hno
    clear hstep htk hx2 hok hc;go_wp2_with ((with_reducible refine (Hd.out _).mono ?_);rintro e w2 ⟨rfl,rfl⟩);refine bodyPost_ret (v:=.tuple #[.pointer none,.int .i64 2]) (by simp [results,Tryz.results90,go_sem]) rfl ?_;exact ⟨Hb.out,fun h=>absurd h Hno.out,fun _=>rfl⟩
  ·
   have hlt' : ¬ (i:Int)<(t.length:Int):=by omega
   have hi7:i=t.length:=by omega
   subst hi7;have hall:=Hall.out;have hc:=Hc.out;rw [List.take_length] at hc hall;have Hc:=Lib.hid hc;have Ha:=Lib.hid hall;clear hc hall;clear Hall Hl3;go_wp2_with fail;refine bodyPost_ret (v:=.tuple #[.pointer (some ⟨w.heap.size,0,none⟩),.int .i64 0]) (by simp [results,Tryz.results90,go_sem]) rfl ?_;exact ⟨Hb.out,fun _=>⟨_,_,rfl,Hc.out,Nat.le_refl _⟩,fun h=>absurd (h.symm.trans Ha.out) (by decide)⟩
theorem chof_any (top:Nat) (t:List UInt8) (htop:top<18446744073709551616) (hlen:t.length≤1000000) (w:World) :
  Calls Tryz.prog 90 #[.int .u64 (top:Int),.string ⟨t.toArray⟩] w fun e w'=>Below w.heap.size w w'∧match chOf top t with
   | some C=>∃ p v,e=.returned (.tuple #[.pointer (some ⟨p,0,none⟩),.int .i64 0])∧ChAt w' w.heap.size p v C∧w.heap.size≤p
   | none=>e=.returned (.tuple #[.pointer none,.int .i64 2]):=by
 unfold chOf;by_cases h:top≤4611686018427387904∧t.length=min (top+1) 3
 ·
  refine (chof_good top t h.1 h.2 w).mono ?_;rintro e w' ⟨hb,h2⟩;refine ⟨hb,?_⟩;by_cases ha:t.all dirOk=true
  ·
   rw [if_pos ⟨h,ha⟩];exact h2.1 ha
  ·
   rw [if_neg (fun q=>ha q.2)];exact h2.2 (by simpa using ha)
 ·
  refine (chof_bad top t htop hlen h w).mono ?_;rintro e w' ⟨rfl,hb⟩;refine ⟨hb,?_⟩;rw [if_neg (fun q=>h q.1)]
theorem diff_calls {A B:MacV} (hA:MacAll A) (hB:MacAll B) (hall:A.all=B.all) {X Y:Tr} {w:World} (hX:TreeAt w X) (hY:TreeAt w Y) (hsX:X.sh=A.sh) (hsY:Y.sh=B.sh) :
  Calls Tryz.prog 76 #[macV A X.ptr,macV B Y.ptr] w fun e w'=>e=.returned (.tuple #[.string ⟨(diffM A B).toArray⟩,.int .i64 0])∧Below w.heap.size w w':=by
 have h:=ddiff_any A B X Y hA.fit hB.fit w hX hY hsX hsY;rw [if_pos hall,if_pos hall] at h;exact h
set_option maxHeartbeats 4000000 in
theorem left_any (s:List UInt8) (g:Nat) (w:World) (h:RdAt w g ⟨0,s⟩) :
  Calls Tryz.prog 91 #[.pointer (some ⟨g,0,none⟩)] w fun e w'=>e=.returned (.int .i64 (s.length:Int))∧w=w':=by
 have hf:Calls Tryz.prog 151 #[.pointer (some ⟨g,0,none⟩)] w fun e w'=>e=.returned (.bool false)∧w=w':=by simpa using failed_any ⟨0,s⟩ g w h
 have Hf:=Lib.hid hf;clear hf
 have f1:=h.cells.2;clear h;go_enter Tryz.func91,Tryz.ntmps91
 go_wp2_with ((with_reducible refine Hf.out.mono ?_);rintro e w2 ⟨rfl,rfl⟩);go_ret;exact ⟨rfl,rfl⟩
def endsB (t:List UInt8) (d:Nat):Bool:=t.getLast?.any (fun b=>decide (b.toNat=d))
set_option maxHeartbeats 4000000 in
theorem ends_any (t:List UInt8) (ht:t.length≤1000000) (d:Nat) (w:World) :
  Calls Tryz.prog 43 #[.string ⟨t.toArray⟩,.int .u8 (d:Int)] w fun e w'=>e=.returned (.bool (endsB t d))∧w'=w:=by
 by_cases h0:t=[]
 ·
  subst h0;go_enter Tryz.func43,Tryz.ntmps43
  go_wp2_with fail;go_ret;exact ⟨rfl,rfl⟩
 ·
  have hl:0<t.length:=List.length_pos_iff.2 h0;have hlt:t.length - 1<t.length:=by omega
  obtain ⟨x,hx⟩:∃ x,(⟨t.toArray⟩:ByteArray)[t.length - 1]'hlt=x:=⟨_,rfl⟩;have hx2:t[t.length - 1]=x:=hx;have hE:endsB t d=decide (x.toNat=d):=by
   unfold endsB;rw [List.getLast?_eq_getElem?,List.getElem?_eq_getElem hlt,hx2];rfl
  rw [hE];have hne:t.isEmpty=false:=by simpa using h0
  have heq:((x.toNat:Int) == (d:Int))=decide (x.toNat=d):=by rw [Bool.eq_iff_iff,beq_iff_eq,decide_eq_true_iff];omega
  have hix:IntKind.i64.wrap ((t.length:Int) - 1)=((t.length - 1:Nat):Int):=by rw [IntKind.wrap_i64];omega
  clear hE hx2;go_enter Tryz.func43,Tryz.ntmps43
  go_wp2_with fail;go_ret;exact ⟨rfl,rfl⟩
structure BsV where
 M:MacV
 P:Option Addr
 top:Nat
 t:List UInt8
def bsCells (b:BsV):List Value:=macCells b.M b.P++[.int .u64 (b.top:Int),.string ⟨b.t.toArray⟩]
def bsV (b:BsV):Value:=.agg (bsCells b).toArray
def BsAt (w:World) (g:Nat) (b:BsV):Prop:=w.heap[g]?=some (.cells (bsCells b).toArray 110 (0,0))
theorem bs_eta (b:BsV):(bsCells b).toArray=#[.int .u8 (b.M.all:Int),.int .u8 (b.M.mem:Int),.int .u32 (b.M.tab.a.seq.toNat:Int),.int .u8 (b.M.tab.a.code:Int),.string b.M.tab.a.text,.int .u32 (b.M.tab.b.seq.toNat:Int),.int .u8 (b.M.tab.b.code:Int),.string b.M.tab.b.text,.int .u32 (b.M.tab.c.seq.toNat:Int),.int .u8 (b.M.tab.c.code:Int),.string b.M.tab.c.text,.int .u32 (b.M.tab.d.seq.toNat:Int),.int .u8 (b.M.tab.d.code:Int),.string b.M.tab.d.text,.pointer b.P,.int .u64 (b.top:Int),.string ⟨b.t.toArray⟩]:=rfl
theorem BsAt.lt {w:World} {g:Nat} {b:BsV} (h:BsAt w g b):g<w.heap.size:=(Array.getElem?_eq_some_iff.1 h).1
theorem BsAt.below {w w':World} {g:Nat} {b:BsV} (h:BsAt w g b) (hb:Below w.heap.size w w'):BsAt w' g b:=(hb.block g h.lt).trans h
theorem BsAt.cells {w:World} {g:Nat} {b:BsV} (h:BsAt w g b):w.cell? ⟨g,0,none⟩=some (.int .u8 (b.M.all:Int))∧w.cell? ⟨g,1,none⟩=some (.int .u8 (b.M.mem:Int))∧w.cell? ⟨g,2,none⟩=some (.int .u32 (b.M.tab.a.seq.toNat:Int))∧w.cell? ⟨g,3,none⟩=some (.int .u8 (b.M.tab.a.code:Int))∧w.cell? ⟨g,4,none⟩=some (.string b.M.tab.a.text)∧w.cell? ⟨g,5,none⟩=some (.int .u32 (b.M.tab.b.seq.toNat:Int))∧w.cell? ⟨g,6,none⟩=some (.int .u8 (b.M.tab.b.code:Int))∧w.cell? ⟨g,7,none⟩=some (.string b.M.tab.b.text)∧w.cell? ⟨g,8,none⟩=some (.int .u32 (b.M.tab.c.seq.toNat:Int))∧w.cell? ⟨g,9,none⟩=some (.int .u8 (b.M.tab.c.code:Int))∧w.cell? ⟨g,10,none⟩=some (.string b.M.tab.c.text)∧w.cell? ⟨g,11,none⟩=some (.int .u32 (b.M.tab.d.seq.toNat:Int))∧w.cell? ⟨g,12,none⟩=some (.int .u8 (b.M.tab.d.code:Int))∧w.cell? ⟨g,13,none⟩=some (.string b.M.tab.d.text)∧w.cell? ⟨g,14,none⟩=some (.pointer b.P)∧w.cell? ⟨g,15,none⟩=some (.int .u64 (b.top:Int))∧w.cell? ⟨g,16,none⟩=some (.string ⟨b.t.toArray⟩) :=
 ⟨cell_of_row _ _ _ _ _ _ h,cell_of_row _ _ _ _ _ _ h,cell_of_row _ _ _ _ _ _ h,cell_of_row _ _ _ _ _ _ h,cell_of_row _ _ _ _ _ _ h,cell_of_row _ _ _ _ _ _ h,cell_of_row _ _ _ _ _ _ h,cell_of_row _ _ _ _ _ _ h,cell_of_row _ _ _ _ _ _ h,cell_of_row _ _ _ _ _ _ h,cell_of_row _ _ _ _ _ _ h,cell_of_row _ _ _ _ _ _ h,cell_of_row _ _ _ _ _ _ h,cell_of_row _ _ _ _ _ _ h,cell_of_row _ _ _ _ _ _ h,cell_of_row _ _ _ _ _ _ h,cell_of_row _ _ _ _ _ _ h⟩
theorem base_size:(Tryz.prog.info? 110).map (·.size)=some 17:=by kernel_rfl
theorem bs_loadVar {y:World} {g:Nat} {b:BsV} (h:BsAt y g b):(loadVar 110 ⟨g,0,none⟩).run Tryz.prog y=.ok (bsV b) y :=
 run_loadVar_row y g _ _ (bsCells b).toArray (0,0) _ h Tryz.underlying110 rfl base_size
theorem bs_loadMid {y:World} {g o:Nat} {b:BsV} (h:y.rangeAt g o (bsCells b)):(loadVar 110 ⟨g,o,none⟩).run Tryz.prog y=.ok (bsV b) y :=
 run_loadVar_mid y g o _ (bsCells b) _ h Tryz.underlying110 rfl base_size
set_option maxHeartbeats 8000000 in
theorem btext_any (b:BsV) (T:Tr) (hM:MacFit b.M) (ht:b.t.length≤1000000) (hP:b.P=T.ptr) (w:World) (hat:TreeAt w T) (hsh:T.sh=b.M.sh) :
  Calls Tryz.prog 41 #[bsV b] w fun e w'=>e=.returned (.string ⟨(textB b.t b.M).toArray⟩)∧Below w.heap.size w w':=by
 have hb1:=(Below.refl w.heap.size w).alloc (Nat.le_refl _) (.cells (bsCells b).toArray 110);have hm1:BsAt (w.alloc (.cells (bsCells b).toArray 110)) w.heap.size b:=heap_alloc_new _ _;have hB:∀ y:World,Below w.heap.size w y→Calls Tryz.prog 19 #[macV b.M b.P] y fun e w'=>e=.returned (.string ⟨(macB b.M).toArray⟩)∧Below y.heap.size y w':=fun y hy=>by
  rw [hP];exact mbytes_any b.M T (macFit_by hM) y (hat.below hy) hsh
 have HB:=Lib.hid hB;have Ht:=Lib.hid ht;have hE:(textB b.t b.M)=strL ⟨b.t.toArray⟩++macB b.M:=by
  unfold textB strL;rfl
 have HE:=Lib.hid hE;have hlim : ¬ 9223372036854775807<(strL ⟨b.t.toArray⟩).length+(macB b.M).length:=by
  have h1:=strL_len ⟨b.t.toArray⟩;have h2:(⟨b.t.toArray⟩:ByteArray).size=b.t.length:=rfl;have h3:=macHead_len (macFit_by hM);have h4:=pairsB_len b.M.sh.kv (macFit_by hM).kv;have h5:=hM.kv.num;rw [cnt_kv] at h5;unfold macB;rw [List.length_append];omega
 clear hB ht hE hM hP hat hsh;unfold bsV;rw [bs_eta] at hb1 hm1 ⊢;go_enter Tryz.func41,Tryz.ntmps41
 go_upto_region 1 with fail;have Hm1:=Lib.hid (show BsAt _ _ _ from hm1);have Hb1:=Lib.hid hb1;rw [← bs_eta] at Hm1 Hb1;clear hm1 hb1;simp only [← bs_eta];change Code.wp _ _ _ _ (w.alloc (.cells (bsCells b).toArray 110));generalize w.alloc (.cells (bsCells b).toArray 110)=w1 at *;refine (wpIn_wide (n:=1)).1 ?_;refine RegJ.wpIn_region_plan (F:=Fence.wide) (KeptW w1) (.step 0 0 (.step 1 0 (.step 4 0 (.step 5 0 (.step 2 1 (.step 3 0 (.step 6 1 (.step 7 0 (.step 8 0 .nil))))))))) (by kernel_rfl) (by kernel_rfl) (by kernel_rfl) (fun _ _ d _ _ h=>by cases d <;> exact h) ⟨rfl,rfl,rfl,Nat.le_refl _,fun _ _=>rfl⟩ ?_;dsimp only [RegJ.pickJ,List.getElem?_cons_zero,List.getElem?_cons_succ];change RegJ.Can _ _ _ _ _ _ _ _ w1.drew;have hkd:KeptW w1 w1.drew:=⟨rfl,rfl,rfl,Nat.le_refl _,fun _ _=>rfl⟩;have hkp:=hkd;generalize w1.drew=v1 at *;refine RegJ.reads ?_;intro K hK;go_simp;(first | refine ⟨_,fun _ _=>rfl,hK _ ?_⟩ | refine hK _ ?_);clear hK K;refine RegJ.reads ?_;intro K hK;go_simp;refine ⟨.string ⟨b.t.toArray⟩,fun y hy=>?_,hK _ ?_⟩
 ·
  have f0:y.cell? ⟨w.heap.size,16,none⟩=some (.string ⟨b.t.toArray⟩):=cell_of_row _ _ _ _ _ _ (Hm1.out.below (KeptW.bel hy));go_simp
 clear hK K;refine RegJ.reads ?_;intro K hK;go_simp;(first | refine ⟨_,fun _ _=>rfl,hK _ ?_⟩ | refine hK _ ?_);clear hK K;refine RegJ.reads ?_;intro K hK;go_simp;refine ⟨macV b.M b.P,fun y hy=>?_,hK _ ?_⟩
 ·
  unfold macV;rw [mac_eta];obtain ⟨m0,m1,m2,m3,m4,m5,m6,m7,m8,m9,m10,m11,m12,m13,m14,m15,m16⟩:=(Hm1.out.below (KeptW.bel hy)).cells;go_simp
 clear hK K;refine RegJ.turns (fun _=>trivial) ?_;intro K K0 hK hK0;go_simp;refine ⟨trivial,?_⟩;refine (callsIn_wide.2 (str_any _ [] ⟨b.t.toArray⟩ (by show 0+b.t.length≤_;have:=Ht.out;omega) v1 (ReadB.nil _))).mono ?_;rintro e x1 ⟨v2,rfl,ho2,hb7⟩;have x1k:KeptW w1 x1:=KeptW.mono hkd hb7;have x1p:KeptW w1 x1:=KeptW.mono hkp hb7;refine hK (KeptW x1) _ x1 (fun y hy=>KeptW.mono x1p (KeptW.bel hy)) (KeptW.refl x1) ?_;clear hK K hK0 K0 hb7;have Hro:=Lib.hid ho2.read;clear ho2;obtain ⟨a2,n2,c2,rfl⟩:=Hro.out.slice;have x1r:=KeptW.refl x1;refine RegJ.reads ?_;intro K hK;go_simp;refine ⟨.string ⟨(strL ⟨b.t.toArray⟩).toArray⟩,fun y hy=>?_,hK _ ?_⟩
 ·
  have hcv:=(Hro.out.below (KeptW.bel hy)).conv Tryz.underlying44 Tryz.underlying5 Tryz.underlying9;rw [List.nil_append] at hcv;go_simp
 clear hK K;refine RegJ.turns (fun _=>trivial) ?_;intro K K0 hK hK0;go_simp;refine ⟨trivial,?_⟩;refine (callsIn_wide.2 (HB.out _ (Hb1.out.trans ((KeptW.bel x1k).mono Hb1.out.size)))).mono ?_;rintro e x2 ⟨rfl,hb7⟩;have x2k:KeptW w1 x2:=KeptW.mono x1k hb7;have x2p:KeptW x1 x2:=KeptW.mono x1r hb7;refine hK (KeptW x2) _ x2 (fun y hy=>KeptW.mono x2p (KeptW.bel hy)) (KeptW.refl x2) ?_;clear hK K hK0 K0 hb7;have x2r:=KeptW.refl x2;refine RegJ.reads ?_;intro K hK;go_simp;(first | refine ⟨_,fun _ _=>rfl,hK _ ?_⟩ | refine hK _ ?_);clear hK K;refine RegJ.reads ?_;intro K hK;go_simp;(first | refine ⟨_,fun _ _=>rfl,hK _ ?_⟩ | refine hK _ ?_);clear hK K;refine RegJ.nil ?_;go_wp2_with fail;go_ret;refine ⟨?_,Hb1.out.trans ((KeptW.bel x2k).mono Hb1.out.size)⟩;rw [HE.out];exact congrArg (fun s=>Ending.returned (Value.string s)) (str_app _ _)
theorem ltext_any (M:MacV) (P:Option Addr) (T:Tr) (hM:MacFit M) (hP:P=T.ptr) (base p:Nat) (v:Value) (C:ChV) (hD:0<C.D.length) (hsz:C.D.length≤1000000) (w:World) (hc:ChAt w base p v C) (hat:TreeAt w T) (hsh:T.sh=M.sh) :
  Calls Tryz.prog 25 #[.pointer (some ⟨p,0,none⟩),macV M P] w fun e w'=>e=.returned (.string ⟨(textB C.tail M).toArray⟩)∧Below w.heap.size w w':=by
 have hb1:=(Below.refl w.heap.size w).alloc (Nat.le_refl _) (.cells (macCells M P).toArray 38);have hm1:MacAt (w.alloc (.cells (macCells M P).toArray 38)) w.heap.size M P:=heap_alloc_new _ _;have htl:C.tail.length≤1000000:=by have:=tail_len C;omega
 have hB:∀ y:World,Below w.heap.size w y→Calls Tryz.prog 41 #[bsV ⟨M,P,0,C.tail⟩] y fun e w'=>e=.returned (.string ⟨(textB C.tail M).toArray⟩)∧Below y.heap.size y w':=fun y hy =>
  btext_any ⟨M,P,0,C.tail⟩ T hM htl hP y (hat.below hy) hsh
 have hT:∀ y:World,Below w.heap.size w y→Calls Tryz.prog 42 #[.pointer (some ⟨p,0,none⟩)] y fun e w'=>e=.returned (.string ⟨C.tail.toArray⟩)∧Below y.heap.size y w':=fun y hy=>chtail_any base p v C hD hsz y (hc.below hy)
 have HB:=Lib.hid hB;have HT:=Lib.hid hT;clear hB hT htl hM hP hat hsh hc hD hsz;generalize C.tail=tl at *;unfold macV;rw [mac_eta] at hb1 hm1 ⊢;go_enter Tryz.func25,Tryz.ntmps25
 go_upto_region 1 with fail;rw [← mac_eta] at hm1 hb1;have Hm1:=Lib.hid hm1;have Hb1:=Lib.hid hb1;clear hm1 hb1;simp only [← mac_eta];change Code.wp _ _ _ _ (w.alloc (.cells (macCells M P).toArray 38));generalize w.alloc (.cells (macCells M P).toArray 38)=w1 at *;refine (wpIn_wide (n:=1)).1 ?_;refine RegJ.wpIn_region_plan (F:=Fence.wide) (KeptW w1) (.step 0 0 (.step 1 0 (.step 2 1 (.step 3 0 (.step 4 1 (.step 5 0 .nil)))))) (by kernel_rfl) (by kernel_rfl) (by kernel_rfl) (fun _ _ d _ _ h=>by cases d <;> exact h) ⟨rfl,rfl,rfl,Nat.le_refl _,fun _ _=>rfl⟩ ?_;dsimp only [RegJ.pickJ,List.getElem?_cons_zero,List.getElem?_cons_succ];change RegJ.Can _ _ _ _ _ _ _ _ w1.drew;have hkd:KeptW w1 w1.drew:=⟨rfl,rfl,rfl,Nat.le_refl _,fun _ _=>rfl⟩;generalize w1.drew=v1 at *;refine RegJ.reads ?_;intro K hK;go_simp;refine ⟨.agg #[.int .u8 (M.all:Int),.int .u8 (M.mem:Int),.int .u32 (M.tab.a.seq.toNat:Int),.int .u8 (M.tab.a.code:Int),.string M.tab.a.text,.int .u32 (M.tab.b.seq.toNat:Int),.int .u8 (M.tab.b.code:Int),.string M.tab.b.text,.int .u32 (M.tab.c.seq.toNat:Int),.int .u8 (M.tab.c.code:Int),.string M.tab.c.text,.int .u32 (M.tab.d.seq.toNat:Int),.int .u8 (M.tab.d.code:Int),.string M.tab.d.text,.pointer P],fun y hy=>?_,hK _ ?_⟩
 ·
  obtain ⟨⟨m0,m1,m14⟩,⟨m2,m3,m4⟩,⟨m5,m6,m7⟩,⟨m8,m9,m10⟩,⟨m11,m12,m13⟩⟩:=(Hm1.out.below (KeptW.bel hy)).cells;go_simp
 clear hK K;refine RegJ.reads ?_;intro K hK;go_simp;(first | refine ⟨_,fun _ _=>rfl,hK _ ?_⟩ | refine hK _ ?_);clear hK K
 refine RegJ.turns (fun _=>trivial) ?_;intro K K0 hK hK0;go_simp;refine ⟨trivial,?_⟩;refine (callsIn_wide.2 (HT.out v1 (Hb1.out.trans ((KeptW.bel hkd).mono Hb1.out.size)))).mono ?_;rintro e v2 ⟨rfl,hb7⟩;have v2k:KeptW w1 v2:=KeptW.mono hkd hb7;refine hK _ _ _ (fun _ h=>h) v2k ?_;clear hK K hK0 K0;refine RegJ.reads ?_;intro K hK;go_simp;(first | refine ⟨_,fun _ _=>rfl,hK _ ?_⟩ | refine hK _ ?_);clear hK K
 refine RegJ.turns (fun _=>trivial) ?_;intro K K0 hK hK0;go_simp;refine ⟨trivial,?_⟩;refine (callsIn_wide.2 ((show Calls Tryz.prog 41 #[bsV ⟨M,P,0,tl⟩] _ _ from HB.out v2 (Hb1.out.trans ((KeptW.bel v2k).mono Hb1.out.size))))).mono ?_;rintro e v3 ⟨rfl,hb7⟩;have v3k:KeptW w1 v3:=KeptW.mono v2k hb7;refine hK _ _ _ (fun _ h=>h) v3k ?_;clear hK K hK0 K0;refine RegJ.reads ?_;intro K hK;go_simp;(first | refine ⟨_,fun _ _=>rfl,hK _ ?_⟩ | refine hK _ ?_);clear hK K
 refine RegJ.nil ?_;go_wp2_with fail;go_ret;exact ⟨rfl,Hb1.out.trans ((KeptW.bel v3k).mono Hb1.out.size)⟩
theorem bs_len (b:BsV):(bsCells b).length=17:=rfl
theorem bs_one (b:BsV):∀ u ∈ bsCells b,u.oneCell'=true:=by
 intro u hu;have e:bsCells b=(bsCells b).toArray.toList:=rfl;rw [e,bs_eta] at hu;simp only [List.mem_cons,List.not_mem_nil,or_false] at hu;rcases hu with rfl | rfl | rfl | rfl | rfl | rfl | rfl | rfl | rfl | rfl | rfl | rfl | rfl | rfl | rfl | rfl | rfl <;> rfl
theorem BsAt.thawed {w:World} {g:Nat} {b:BsV} (h:BsAt w g b) (j:Nat):w.frozen? ⟨g,j,none⟩=false:=by
 unfold BsAt at h;unfold World.frozen?;rw [h];rfl
theorem bsSt_at {y:World} {g:Nat} {b0:BsV} (h:BsAt y g b0) (b:BsV):BsAt (rowSt y g 0 (bsCells b)) g b:=rowSt_row (bsCells b) [] (bsCells b0) y h rfl
def bs0:BsV:=⟨macNone,none,0,[]⟩
structure ShAt (w:World) (base p:Nat) (v:Value) (L:List BsV):Prop where
 row:w.heap[p]?=some (.cells #[v] 114 (0,0))
 own:w.ownsRow base 110 17 v L.length (flat bsCells L)
theorem ShAt.lt {w:World} {base p:Nat} {v:Value} {L:List BsV} (h:ShAt w base p v L):p<w.heap.size:=(Array.getElem?_eq_some_iff.1 h.row).1
theorem ShAt.get {w:World} {base p:Nat} {v:Value} {L:List BsV} (h:ShAt w base p v L):w.cell? ⟨p,0,none⟩=some v:=cell_of_row _ _ _ _ _ _ h.row
theorem ShAt.below {w w':World} {base p:Nat} {v:Value} {L:List BsV} (h:ShAt w base p v L) (hb:Below w.heap.size w w'):ShAt w' base p v L:=by
 refine ⟨(hb.block p h.lt).trans h.row,h.own.1,?_⟩;rcases h.own.2 with h2 | ⟨g,cap,cur,e,h3,hg,h4⟩
 ·
  exact .inl h2
 ·
  exact .inr ⟨g,cap,cur,e,h3,(hb.block g (Array.getElem?_eq_some_iff.1 hg).1).trans hg,h4⟩
theorem ShAt.at_ {w:World} {base p:Nat} {v:Value} {L:List BsV} (h:ShAt w base p v L) {J:Nat} {b:BsV} (hb:L[J]?=some b):∃ B c,v=.slice (some ⟨B,0,none⟩) L.length c∧∀ y:World,Below w.heap.size w y→y.rangeAt B (J*17) (bsCells b):=by
 have hJ:J<L.length:=(List.getElem?_eq_some_iff.1 hb).1;rcases h.own.2 with ⟨_,h3⟩ | ⟨g,cap,cur,e,_,hg,_,_,_,ht⟩
 ·
  omega
 ·
  refine ⟨g,cap,e,fun y hy=>?_⟩;have hy2:=(hy.block g (Array.getElem?_eq_some_iff.1 hg).1).trans hg;have key:∀ r u,(bsCells b)[r]?=some u→y.cell? ⟨g,J*17+r,none⟩=some u:=by
   intro r u hu;have e1:=flat_at bs_len L J r b u hb hu;have hlt:J*17+r<L.length*17:=by
    have:=(List.getElem?_eq_some_iff.1 e1).1;rwa [flat_len bs_len] at this
   rw [← ht,List.getElem?_take,if_pos hlt,Array.getElem?_toList] at e1;simp only [World.cell?,hy2];simpa using e1
  exact key
theorem bs_loads (ρ:Operand→Value) (o:Oper) (a:Operand) (h:o.op=.load 110 a) {g off:Nat} {b:BsV} (ha:ρ a=.pointer (some ⟨g,off,none⟩)) {y:World} (hm:y.rangeAt g off (bsCells b)) :
  (execOp ρ o).run Tryz.prog y=.ok (.value (bsV b)) y:=by
 simp only [execOp,h,ha,Instr.loadAt,Instr.sureAddr,Sem.run_bind,Sem.run_pure,Result.andThen_ok,bs_loadMid hm]
theorem newest_last (base p:Nat) (v:Value) (L:List BsV) (b:BsV) (hL:L[L.length - 1]?=some b) (hsz:L.length≤1000000) (w:World) (h:ShAt w base p v L) :
  Calls Tryz.prog 39 #[.pointer (some ⟨p,0,none⟩)] w fun e w'=>e=.returned (bsV b)∧Below w.heap.size w w':=by
 have hb1:=(Below.refl w.heap.size w).alloc (Nat.le_refl _) (.cells (bsCells bs0).toArray 110);have hm1:BsAt (w.alloc (.cells (bsCells bs0).toArray 110)) w.heap.size bs0:=heap_alloc_new _ _;have hn0:0<L.length:=by
  have:=(List.getElem?_eq_some_iff.1 hL).1;omega
 obtain ⟨B,c,rfl,hat⟩:=h.at_ hL;have H:=Lib.hid (h.below hb1);have Hat:=Lib.hid (fun (y:World) (hy:Below (w.alloc (.cells (bsCells bs0).toArray 110)).heap.size (w.alloc (.cells (bsCells bs0).toArray 110)) y)=>hat y (hb1.trans (hy.mono hb1.size)));clear hat hL h;generalize hn:L.length=n at *
 obtain ⟨g,hg⟩:∃ g,w.heap.size=g:=⟨_,rfl⟩;rw [hg] at hm1;have hne:((n:Int) == 0)=false:=by rw [beq_eq_false_iff_ne];omega
 have hw1:IntKind.i64.wrap ((n:Int) - 1)=((n - 1:Nat):Int):=by rw [IntKind.wrap_i64];omega
 have hj1:((n - 1:Nat):Int)<(n:Int):=by omega
 have hj0 : ¬ ((n - 1:Nat):Int)<0:=by omega
 clear hn0 hsz;generalize n - 1=J at *;go_enter Tryz.func39,Tryz.ntmps39
 go_upto_region 1 with fail;change Code.wp _ _ _ _ (w.alloc (.cells (bsCells bs0).toArray 110));generalize w.alloc (.cells (bsCells bs0).toArray 110)=w1 at *;have Hm1:=Lib.hid hm1;have Hbel:=Lib.hid hb1;have Hg:=Lib.hid (Nat.le_of_eq hg);have f0:=H.out.get;clear hm1 hb1 hg;go_upto_region 3 with fail;refine (wpIn_wide (n:=1)).1 ?_;refine RegK.wpIn_region_can (F:=Fence.wide) (KeptW w1) [(0,0),(1,0),(2,0),(3,0),(4,0),(5,0),(6,0),(7,0),(8,0),(9,0),(10,0),(11,0),(12,3)] (by kernel_rfl) (by kernel_rfl) (by kernel_rfl) (fun _ _ d _ _ h=>by cases d <;> exact h) ⟨rfl,rfl,rfl,Nat.le_refl _,fun _ _=>rfl⟩ ?_;dsimp only [RegK.pick,List.getElem?_cons_zero,List.getElem?_cons_succ];change RegK.Can _ _ _ _ _ _ _ _ w1.drew;have hkd:KeptW w1 w1.drew:=⟨rfl,rfl,rfl,Nat.le_refl _,fun _ _=>rfl⟩;generalize w1.drew=v1 at *;iterate 3 (refine RegK.can_reads ?_;intro K hK;go_simp;(first | refine ⟨_,fun _ _=>rfl,hK _ ?_⟩ | refine hK _ ?_);clear hK K)
 refine RegK.can_reads ?_;intro K hK;go_simp;refine ⟨.slice (some ⟨B,0,none⟩) n c,fun y hy=>?_,hK _ ?_⟩
 ·
  have f0:y.cell? ⟨p,0,none⟩=some (.slice (some ⟨B,0,none⟩) n c):=(H.out.below (KeptW.bel hy)).get;go_simp
 clear hK K;iterate 3 (refine RegK.can_reads ?_;intro K hK;go_simp;(first | refine ⟨_,fun _ _=>rfl,hK _ ?_⟩ | refine hK _ ?_);clear hK K)
 refine RegK.can_reads ?_;intro K hK;go_simp;refine ⟨.slice (some ⟨B,0,none⟩) n c,fun y hy=>?_,hK _ ?_⟩
 ·
  have f0:y.cell? ⟨p,0,none⟩=some (.slice (some ⟨B,0,none⟩) n c):=(H.out.below (KeptW.bel hy)).get;go_simp
 clear hK K;iterate 3 (refine RegK.can_reads ?_;intro K hK;go_simp;(first | refine ⟨_,fun _ _=>rfl,hK _ ?_⟩ | refine hK _ ?_);clear hK K)
 refine RegK.can_reads ?_;intro K hK;rw [if_pos (by simp [Region.wanted])];refine ⟨bsV b,fun y hy=>?_,hK _ ?_⟩
 ·
  exact bs_loads _ _ _ rfl rfl (Hat.out y (KeptW.bel hy))
 clear hK K;go_simp;have Hm2:=Lib.hid (Hm1.out.below (KeptW.bel hkd));have Hbel2:=Lib.hid (Hbel.out.trans ((KeptW.bel hkd).mono Hbel.out.size));clear Hm1 Hbel f0;rename_i xx
 unfold bsV;rw [bs_eta];obtain ⟨o0,o1,o2,o3,o4,o5,o6,o7,o8,o9,o10,o11,o12,o13,o14,o15,o16⟩:=Hm2.out.cells;have q0:=Hm2.out.thawed 0;have q1:=Hm2.out.thawed 1;have q2:=Hm2.out.thawed 2;have q3:=Hm2.out.thawed 3;have q4:=Hm2.out.thawed 4;have q5:=Hm2.out.thawed 5;have q6:=Hm2.out.thawed 6;have q7:=Hm2.out.thawed 7;have q8:=Hm2.out.thawed 8;have q9:=Hm2.out.thawed 9;have q10:=Hm2.out.thawed 10;have q11:=Hm2.out.thawed 11;have q12:=Hm2.out.thawed 12;have q13:=Hm2.out.thawed 13;have q14:=Hm2.out.thawed 14;have q15:=Hm2.out.thawed 15;have q16:=Hm2.out.thawed 16;refine RegK.can_frees (fun _=>trivial) ?_;intro K K0 hK hK0;go_simp;refine hK (fun _=>True) _ _ trivial ?_;clear hK K hK0 K0;refine RegK.can_nil ?_;change Exit.then _ _ _ _ (rowSt v1 g 0 (bsCells b));have HZ:=Lib.hid (bsSt_at Hm2.out b);have Hbz:=Lib.hid (rowSt_below Hg.out (bsCells b) 0 _ Hbel2.out);clear o0 o1 o2 o3 o4 o5 o6 o7 o8 o9 o10 o11 o12 o13 o14 o15 o16 q0 q1 q2 q3 q4 q5 q6 q7 q8 q9 q10 q11 q12 q13 q14 q15 q16;generalize rowSt v1 g 0 (bsCells b)=w9 at *;go_wp2_with fail;refine bodyPost_ret (v:=bsV b) (by simp [results,Tryz.results39];exact bs_loadVar HZ.out) rfl ?_;exact ⟨rfl,Hbz.out⟩
set_option maxHeartbeats 4000000 in
theorem lnew_any (w:World):Calls Tryz.prog 13 #[] w fun e w'=>e=.returned (.pointer (some ⟨w.heap.size,0,none⟩))∧ShAt w' w.heap.size w.heap.size (.slice none 0 0) []∧Below w.heap.size w w':=by
 have hr:=heap_alloc_new w (.cells #[.slice none 0 0] 114);have Hs:=Lib.hid (show ShAt (w.alloc (.cells #[.slice none 0 0] 114)) w.heap.size w.heap.size (.slice none 0 0) [] from ⟨hr,rfl,.inl ⟨rfl,rfl⟩⟩);have Hb:=Lib.hid ((Below.refl w.heap.size w).alloc (Nat.le_refl _) (.cells #[.slice none 0 0] 114));clear hr;go_enter Tryz.func13,Tryz.ntmps13
 go_wp2_with fail;go_ret;exact ⟨rfl,Hs.out,Hb.out⟩
theorem newest_empty (base p:Nat) (v:Value) (w:World) (h:ShAt w base p v []) :
  Calls Tryz.prog 39 #[.pointer (some ⟨p,0,none⟩)] w fun e w'=>e=.returned (bsV bs0)∧Below w.heap.size w w':=by
 have hb1:=(Below.refl w.heap.size w).alloc (Nat.le_refl _) (.cells (bsCells bs0).toArray 110);have hm1:BsAt (w.alloc (.cells (bsCells bs0).toArray 110)) w.heap.size bs0:=heap_alloc_new _ _;obtain ⟨A,c,rfl⟩:=own_slice_of h.own;have H:=Lib.hid (h.below hb1);clear h;obtain ⟨g,hg⟩:∃ g,w.heap.size=g:=⟨_,rfl⟩;rw [hg] at hm1;go_enter Tryz.func39,Tryz.ntmps39
 go_upto_region 1 with fail;change Code.wp _ _ _ _ (w.alloc (.cells (bsCells bs0).toArray 110));generalize w.alloc (.cells (bsCells bs0).toArray 110)=w1 at *;have Hm1:=Lib.hid hm1;have Hbel:=Lib.hid hb1;have Hg:=Lib.hid (Nat.le_of_eq hg);have f0:w1.cell? ⟨p,0,none⟩=some (.slice A 0 c):=H.out.get;clear hm1 hb1 hg H;obtain ⟨o0,o1,o2,o3,o4,o5,o6,o7,o8,o9,o10,o11,o12,o13,o14,o15,o16⟩:=Hm1.out.cells;have q0:=Hm1.out.thawed 0;have q1:=Hm1.out.thawed 1;have q2:=Hm1.out.thawed 2;have q3:=Hm1.out.thawed 3;have q4:=Hm1.out.thawed 4;have q5:=Hm1.out.thawed 5;have q6:=Hm1.out.thawed 6;have q7:=Hm1.out.thawed 7;have q8:=Hm1.out.thawed 8;have q9:=Hm1.out.thawed 9;have q10:=Hm1.out.thawed 10;have q11:=Hm1.out.thawed 11;have q12:=Hm1.out.thawed 12;have q13:=Hm1.out.thawed 13;have q14:=Hm1.out.thawed 14;have q15:=Hm1.out.thawed 15;have q16:=Hm1.out.thawed 16;go_wp2_with fail;change bodyPost _ _ _ _ _ (rowSt w1 g 0 (bsCells bs0));have HZ:=Lib.hid (bsSt_at Hm1.out bs0);have Hbz:=Lib.hid (rowSt_below Hg.out (bsCells bs0) 0 _ Hbel.out);clear f0 o0 o1 o2 o3 o4 o5 o6 o7 o8 o9 o10 o11 o12 o13 o14 o15 o16 q0 q1 q2 q3 q4 q5 q6 q7 q8 q9 q10 q11 q12 q13 q14 q15 q16;generalize rowSt w1 g 0 (bsCells bs0)=w9 at *;refine bodyPost_ret (v:=bsV bs0) (by simp [results,Tryz.results39];exact bs_loadVar HZ.out) rfl ?_;exact ⟨rfl,Hbz.out⟩
theorem lnewest_zero (P:Option Addr) (b:BsV) (ht:b.top=0) (w:World) (hN:Calls Tryz.prog 39 #[.pointer P] w fun e w'=>e=.returned (bsV b)∧Below w.heap.size w w') :
  Calls Tryz.prog 10 #[.pointer P] w fun e w'=>e=.returned (.tuple #[.int .u64 0,.string ByteArray.empty])∧Below w.heap.size w w':=by
 have Ht:=Lib.hid ht;clear ht
 have HN:=Lib.hid (show Calls Tryz.prog 39 #[.pointer P] w fun e w'=>e=.returned (.agg #[.int .u8 (b.M.all:Int),.int .u8 (b.M.mem:Int),.int .u32 (b.M.tab.a.seq.toNat:Int),.int .u8 (b.M.tab.a.code:Int),.string b.M.tab.a.text,.int .u32 (b.M.tab.b.seq.toNat:Int),.int .u8 (b.M.tab.b.code:Int),.string b.M.tab.b.text,.int .u32 (b.M.tab.c.seq.toNat:Int),.int .u8 (b.M.tab.c.code:Int),.string b.M.tab.c.text,.int .u32 (b.M.tab.d.seq.toNat:Int),.int .u8 (b.M.tab.d.code:Int),.string b.M.tab.d.text,.pointer b.P,.int .u64 (b.top:Int),.string ⟨b.t.toArray⟩])∧Below w.heap.size w w' from hN);clear hN;go_enter Tryz.func10,Tryz.ntmps10
 go_upto_region 2 with ((with_reducible refine HN.out.mono ?_);rintro e w2 ⟨rfl,h2⟩)
 change Code.wp _ _ _ _ (w2.alloc (.cells (bsCells b).toArray 110));have Hm1:=Lib.hid (show BsAt (w2.alloc (.cells (bsCells b).toArray 110)) w2.heap.size b from heap_alloc_new _ _);have Hb1:=Lib.hid (h2.trans (((Below.refl w2.heap.size w2).alloc (Nat.le_refl _) (.cells (bsCells b).toArray 110)).mono h2.size));clear h2 HN;generalize w2.alloc (.cells (bsCells b).toArray 110)=w1 at *;generalize w2.heap.size=g at *;obtain ⟨_,_,_,_,_,_,_,_,_,_,_,_,_,_,_,f15,_⟩:=Hm1.out.cells;rw [Ht.out] at f15;go_wp2_with fail;refine bodyPost_ret (v:=.tuple #[.int .u64 0,.string ByteArray.empty]) (by simp [results,Tryz.results10,go_sem] <;> rfl) rfl ?_;exact ⟨rfl,Hb1.out⟩
theorem lnewest_some (P:Option Addr) (b:BsV) (T:Tr) (ht:0<b.top) (hM:MacFit b.M) (hl:b.t.length≤1000000) (hP:b.P=T.ptr) (hsh:T.sh=b.M.sh) (w:World) (hat:TreeAt w T) (hN:Calls Tryz.prog 39 #[.pointer P] w fun e w'=>e=.returned (bsV b)∧Below w.heap.size w w') :
  Calls Tryz.prog 10 #[.pointer P] w fun e w'=>e=.returned (.tuple #[.int .u64 (b.top:Int),.string ⟨(textB b.t b.M).toArray⟩])∧Below w.heap.size w w':=by
 have HT:=Lib.hid (fun (y:World) (hy:Below w.heap.size w y)=>btext_any b T hM hl hP y (hat.below hy) hsh);have hne:((b.top:Int) == 0)=false:=by rw [beq_eq_false_iff_ne];omega
 clear ht hM hl hP hsh hat;have HN:=Lib.hid (show Calls Tryz.prog 39 #[.pointer P] w fun e w'=>e=.returned (.agg #[.int .u8 (b.M.all:Int),.int .u8 (b.M.mem:Int),.int .u32 (b.M.tab.a.seq.toNat:Int),.int .u8 (b.M.tab.a.code:Int),.string b.M.tab.a.text,.int .u32 (b.M.tab.b.seq.toNat:Int),.int .u8 (b.M.tab.b.code:Int),.string b.M.tab.b.text,.int .u32 (b.M.tab.c.seq.toNat:Int),.int .u8 (b.M.tab.c.code:Int),.string b.M.tab.c.text,.int .u32 (b.M.tab.d.seq.toNat:Int),.int .u8 (b.M.tab.d.code:Int),.string b.M.tab.d.text,.pointer b.P,.int .u64 (b.top:Int),.string ⟨b.t.toArray⟩])∧Below w.heap.size w w' from hN);clear hN;go_enter Tryz.func10,Tryz.ntmps10
 go_upto_region 2 with ((with_reducible refine HN.out.mono ?_);rintro e w2 ⟨rfl,h2⟩)
 change Code.wp _ _ _ _ (w2.alloc (.cells (bsCells b).toArray 110));have Hm1:=Lib.hid (show BsAt (w2.alloc (.cells (bsCells b).toArray 110)) w2.heap.size b from heap_alloc_new _ _);have Hb1:=Lib.hid (h2.trans (((Below.refl w2.heap.size w2).alloc (Nat.le_refl _) (.cells (bsCells b).toArray 110)).mono h2.size));clear h2 HN;generalize w2.alloc (.cells (bsCells b).toArray 110)=w1 at *;generalize w2.heap.size=g at *;obtain ⟨_,_,_,_,_,_,_,_,_,_,_,_,_,_,_,f15,_⟩:=Hm1.out.cells;go_upto_region 4 with fail;refine (wpIn_wide (n:=1)).1 ?_;refine RegJ.wpIn_region_plan (F:=Fence.wide) (KeptW w1) (.step 0 0 (.step 1 0 (.step 2 0 (.step 3 1 (.step 4 0 (.step 5 0 .nil)))))) (by kernel_rfl) (by kernel_rfl) (by kernel_rfl) (fun _ _ d _ _ h=>by cases d <;> exact h) ⟨rfl,rfl,rfl,Nat.le_refl _,fun _ _=>rfl⟩ ?_;dsimp only [RegJ.pickJ,List.getElem?_cons_zero,List.getElem?_cons_succ];change RegJ.Can _ _ _ _ _ _ _ _ w1.drew;have hkd:KeptW w1 w1.drew:=⟨rfl,rfl,rfl,Nat.le_refl _,fun _ _=>rfl⟩;generalize w1.drew=v1 at *;refine RegJ.reads ?_;intro K hK;go_simp;(first | refine ⟨_,fun _ _=>rfl,hK _ ?_⟩ | refine hK _ ?_);clear hK K
 refine RegJ.reads ?_;intro K hK;go_simp;refine ⟨.int .u64 (b.top:Int),fun y hy=>?_,hK _ ?_⟩
 ·
  have f0:y.cell? ⟨g,15,none⟩=some (.int .u64 (b.top:Int)):=cell_of_row _ _ _ _ _ _ (Hm1.out.below (KeptW.bel hy));go_simp
 clear hK K;refine RegJ.reads ?_;intro K hK;rw [if_pos (by simp [Region.wanted])];refine ⟨bsV b,fun y hy=>?_,hK _ ?_⟩
 ·
  exact bs_loads _ _ _ rfl rfl (fun j u hj=>by rw [Nat.zero_add];exact (cell_of_row _ _ _ _ _ _ (Hm1.out.below (KeptW.bel hy))).trans (by simpa using hj))
 clear hK K;go_simp;refine RegJ.turns (fun _=>trivial) ?_;intro K K0 hK hK0;go_simp;refine ⟨trivial,?_⟩;refine (callsIn_wide.2 (HT.out v1 (Hb1.out.trans ((KeptW.bel hkd).mono Hb1.out.size)))).mono ?_;rintro e v2 ⟨rfl,hb7⟩;have v2k:KeptW w1 v2:=KeptW.mono hkd hb7;refine hK _ _ _ (fun _ h=>h) v2k ?_;clear hK K hK0 K0;iterate 2 (refine RegJ.reads ?_;intro K hK;go_simp;(first | refine ⟨_,fun _ _=>rfl,hK _ ?_⟩ | refine hK _ ?_);clear hK K)
 refine RegJ.nil ?_;go_wp2_with fail;refine bodyPost_ret (v:=.tuple #[.int .u64 (b.top:Int),.string ⟨(textB b.t b.M).toArray⟩]) (by simp [results,Tryz.results10,go_sem]) rfl ?_;exact ⟨rfl,Hb1.out.trans ((KeptW.bel v2k).mono Hb1.out.size)⟩
structure LmV where
 k:Nat
 f:Nat
 s:Nat
 x:List UInt8
def lmCells (m:LmV):List Value:=[.int .u8 (m.k:Int),.int .u64 0,.int .u8 0,.int .u64 (m.f:Int),.int .u64 (m.s:Int),.int .u8 0,.string ⟨m.x.toArray⟩,.slice none 0 0,.slice none 0 0,.int .u8 0,.int .u32 0,.int .u8 0,.string ByteArray.empty,.string ByteArray.empty,.string ByteArray.empty,.int .u8 0,.int .u8 0,.string ByteArray.empty]
def lmV (m:LmV):Value:=.agg (lmCells m).toArray
def lm0:LmV:=⟨0,0,0,[]⟩
def LmAt (w:World) (g:Nat) (m:LmV):Prop:=w.heap[g]?=some (.cells (lmCells m).toArray 58 (0,0))
theorem LmAt.lt {w:World} {g:Nat} {m:LmV} (h:LmAt w g m):g<w.heap.size:=(Array.getElem?_eq_some_iff.1 h).1
theorem LmAt.below {w w':World} {g:Nat} {m:LmV} (h:LmAt w g m) (hb:Below w.heap.size w w'):LmAt w' g m:=(hb.block g h.lt).trans h
theorem LmAt.thawed {w:World} {g:Nat} {m:LmV} (h:LmAt w g m) (j:Nat):w.frozen? ⟨g,j,none⟩=false:=by
 unfold LmAt at h;unfold World.frozen?;rw [h];rfl
theorem LmAt.cells {w:World} {g:Nat} {m:LmV} (h:LmAt w g m):w.cell? ⟨g,0,none⟩=some (.int .u8 (m.k:Int))∧w.cell? ⟨g,1,none⟩=some (.int .u64 0)∧w.cell? ⟨g,2,none⟩=some (.int .u8 0)∧w.cell? ⟨g,3,none⟩=some (.int .u64 (m.f:Int))∧w.cell? ⟨g,4,none⟩=some (.int .u64 (m.s:Int))∧w.cell? ⟨g,5,none⟩=some (.int .u8 0)∧w.cell? ⟨g,6,none⟩=some (.string ⟨m.x.toArray⟩)∧w.cell? ⟨g,7,none⟩=some (.slice none 0 0)∧w.cell? ⟨g,8,none⟩=some (.slice none 0 0)∧w.cell? ⟨g,9,none⟩=some (.int .u8 0)∧w.cell? ⟨g,10,none⟩=some (.int .u32 0)∧w.cell? ⟨g,11,none⟩=some (.int .u8 0)∧w.cell? ⟨g,12,none⟩=some (.string ByteArray.empty)∧w.cell? ⟨g,13,none⟩=some (.string ByteArray.empty)∧w.cell? ⟨g,14,none⟩=some (.string ByteArray.empty)∧w.cell? ⟨g,15,none⟩=some (.int .u8 0)∧w.cell? ⟨g,16,none⟩=some (.int .u8 0)∧w.cell? ⟨g,17,none⟩=some (.string ByteArray.empty) :=
 ⟨cell_of_row _ _ _ _ _ _ h,cell_of_row _ _ _ _ _ _ h,cell_of_row _ _ _ _ _ _ h,cell_of_row _ _ _ _ _ _ h,cell_of_row _ _ _ _ _ _ h,cell_of_row _ _ _ _ _ _ h,cell_of_row _ _ _ _ _ _ h,cell_of_row _ _ _ _ _ _ h,cell_of_row _ _ _ _ _ _ h,cell_of_row _ _ _ _ _ _ h,cell_of_row _ _ _ _ _ _ h,cell_of_row _ _ _ _ _ _ h,cell_of_row _ _ _ _ _ _ h,cell_of_row _ _ _ _ _ _ h,cell_of_row _ _ _ _ _ _ h,cell_of_row _ _ _ _ _ _ h,cell_of_row _ _ _ _ _ _ h,cell_of_row _ _ _ _ _ _ h⟩
theorem lmSt_at {y:World} {g:Nat} {m0:LmV} (h:LmAt y g m0) (m:LmV):LmAt (rowSt y g 0 (lmCells m)) g m:=rowSt_row (lmCells m) [] (lmCells m0) y h rfl
theorem lm_size:(Tryz.prog.info? 58).map (·.size)=some 18:=by kernel_rfl
theorem lm_loadVar {y:World} {g:Nat} {m:LmV} (h:LmAt y g m):(loadVar 58 ⟨g,0,none⟩).run Tryz.prog y=.ok (lmV m) y :=
 run_loadVar_row y g _ _ (lmCells m).toArray (0,0) _ h Tryz.underlying58 rfl lm_size
theorem lead_none (P:Option Addr) (b:BsV) (n:Nat) (hn:b.top≤n) (w:World) (hN:∀ y:World,Below w.heap.size w y→Calls Tryz.prog 39 #[.pointer P] y fun e w'=>e=.returned (bsV b)∧Below y.heap.size y w') :
  Calls Tryz.prog 9 #[.pointer P,.int .u64 (n:Int)] w fun e w'=>e=.returned (.tuple #[lmV lm0,.bool false])∧Below w.heap.size w w':=by
 have hb1:=(Below.refl w.heap.size w).alloc (Nat.le_refl _) (.cells (lmCells lm0).toArray 58);have hm1:LmAt (w.alloc (.cells (lmCells lm0).toArray 58)) w.heap.size lm0:=heap_alloc_new _ _;have HN:=Lib.hid (show Calls Tryz.prog 39 #[.pointer P] (w.alloc (.cells (lmCells lm0).toArray 58)) fun e w'=>e=.returned (.agg #[.int .u8 (b.M.all:Int),.int .u8 (b.M.mem:Int),.int .u32 (b.M.tab.a.seq.toNat:Int),.int .u8 (b.M.tab.a.code:Int),.string b.M.tab.a.text,.int .u32 (b.M.tab.b.seq.toNat:Int),.int .u8 (b.M.tab.b.code:Int),.string b.M.tab.b.text,.int .u32 (b.M.tab.c.seq.toNat:Int),.int .u8 (b.M.tab.c.code:Int),.string b.M.tab.c.text,.int .u32 (b.M.tab.d.seq.toNat:Int),.int .u8 (b.M.tab.d.code:Int),.string b.M.tab.d.text,.pointer b.P,.int .u64 (b.top:Int),.string ⟨b.t.toArray⟩])∧Below (w.alloc (.cells (lmCells lm0).toArray 58)).heap.size (w.alloc (.cells (lmCells lm0).toArray 58)) w' from hN _ hb1);have hge:(b.top:Int)≤(n:Int):=by omega
 clear hN hn;obtain ⟨g,hg⟩:∃ g,w.heap.size=g:=⟨_,rfl⟩;rw [hg] at hm1;go_enter Tryz.func9,Tryz.ntmps9
 go_upto_region 1 with fail;change Code.wp _ _ _ _ (w.alloc (.cells (lmCells lm0).toArray 58));generalize w.alloc (.cells (lmCells lm0).toArray 58)=w1 at *;have Hm0:=Lib.hid hm1;have Hb0:=Lib.hid hb1;have Hg:=Lib.hid (Nat.le_of_eq hg);clear hm1 hb1 hg;go_upto_region 2 with ((with_reducible refine HN.out.mono ?_);rintro e w2 ⟨rfl,h2⟩)
 change Code.wp _ _ _ _ (w2.alloc (.cells (bsCells b).toArray 110));have hb3:=((Below.refl w2.heap.size w2).alloc (Nat.le_refl _) (.cells (bsCells b).toArray 110));have Hm2:=Lib.hid (show BsAt (w2.alloc (.cells (bsCells b).toArray 110)) w2.heap.size b from heap_alloc_new _ _);have Hm1:=Lib.hid ((Hm0.out.below h2).below hb3);have Hbel:=Lib.hid (Hb0.out.trans ((h2.trans (hb3.mono h2.size)).mono Hb0.out.size));clear h2 HN hb3 Hm0 Hb0;generalize w2.alloc (.cells (bsCells b).toArray 110)=w3 at *;generalize w2.heap.size=gb at *;obtain ⟨_,_,_,_,_,_,_,_,_,_,_,_,_,_,_,f15,_⟩:=Hm2.out.cells;obtain ⟨o0,o1,o2,o3,o4,o5,o6,o7,o8,o9,o10,o11,o12,o13,o14,o15,o16,o17⟩:=Hm1.out.cells;have q0:=Hm1.out.thawed 0;have q1:=Hm1.out.thawed 1;have q2:=Hm1.out.thawed 2;have q3:=Hm1.out.thawed 3;have q4:=Hm1.out.thawed 4;have q5:=Hm1.out.thawed 5;have q6:=Hm1.out.thawed 6;have q7:=Hm1.out.thawed 7;have q8:=Hm1.out.thawed 8;have q9:=Hm1.out.thawed 9;have q10:=Hm1.out.thawed 10;have q11:=Hm1.out.thawed 11;have q12:=Hm1.out.thawed 12;have q13:=Hm1.out.thawed 13;have q14:=Hm1.out.thawed 14;have q15:=Hm1.out.thawed 15;have q16:=Hm1.out.thawed 16;have q17:=Hm1.out.thawed 17;go_wp2_with fail;change bodyPost _ _ _ _ _ (rowSt w3 g 0 (lmCells lm0));have HZ:=Lib.hid (lmSt_at Hm1.out lm0);have Hbz:=Lib.hid (rowSt_below Hg.out (lmCells lm0) 0 _ Hbel.out);clear f15 o0 o1 o2 o3 o4 o5 o6 o7 o8 o9 o10 o11 o12 o13 o14 o15 o16 o17 q0 q1 q2 q3 q4 q5 q6 q7 q8 q9 q10 q11 q12 q13 q14 q15 q16 q17;generalize rowSt w3 g 0 (lmCells lm0)=w9 at *;refine bodyPost_ret (v:=.tuple #[lmV lm0,.bool false]) (by simp [results,Tryz.results9,show (asAddr (Value.pointer (some ⟨g,0,none⟩))).run Tryz.prog w9=.ok ⟨g,0,none⟩ w9 from rfl,lm_loadVar HZ.out]) rfl ?_;exact ⟨rfl,Hbz.out⟩
end Go.Proofs.YtbckjgageofldaaGreat
