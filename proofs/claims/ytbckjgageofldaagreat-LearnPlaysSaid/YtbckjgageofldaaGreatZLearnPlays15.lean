/- Machines: tableMay. No condition. -/
import Derived.Test.YtbckjgageofldaaGreatZLearnPlays11
import Derived.Test.YtbckjgageofldaaGreatZLearnPlays14
import Derived.Test.YtbckjgageofldaaGreatZLearnPlays12
import Derived.Test.YtbckjgageofldaaGreatZLearnPlays9
import Derived.Test.YtbckjgageofldaaGreatZLearnPlays6
import Derived.Deep.DeepCutAuto
import Derived.Test.YtbckjgageofldaaGreatZLearnPlays13
import Derived.Test.YtbckjgageofldaaGreatZLearnPlays8
import Derived.Test.YtbckjgageofldaaGreatZLearnPlays3
import Derived.Test.YtbckjgageofldaaGreatZLearnPlays7
set_option maxRecDepth 100000
set_option maxHeartbeats 16000000
namespace Go.Proofs.YtbckjgageofldaaGreat
open Go.RowKit
def lastOkB (x:LastV):Bool:=decide (x.code≤3) && decide (x.text.size≤64) && (decide (x.seq.toNat≠0) || lastE x lastNone)
def tabOkB (t:TabV):Nat→Bool
 | 0=>true
 | n+1=>tabOkB t n && lastOkB (t.at_ n)
theorem tabOkB_no {t:TabV}:∀ {n m:Nat},n<m→lastOkB (t.at_ n)=false→tabOkB t m=false
 | n,0,h,_=>by omega
 | n,m+1,h,hl=>by
  unfold tabOkB;by_cases e:n=m
  ·
   subst e;rw [hl,Bool.and_false]
  ·
   rw [tabOkB_no (show n<m by omega) hl,Bool.false_and]
set_option maxHeartbeats 8000000 in
theorem tableMay_any (M:MacV) (P:Option Addr) (w:World) :
  Calls Tryz.prog 158 #[.agg (macCells M P).toArray] w fun e w'=>e=.returned (.bool (tabOkB M.tab 4))∧Below w.heap.size w w':=by
 have hb1:=(Below.refl w.heap.size w).alloc (Nat.le_refl _) (.cells (macCells M P).toArray 36);have hp1:PartAt (w.alloc (.cells (macCells M P).toArray 36)) w.heap.size M P:=heap_alloc_new _ _;have hidx:=fun (i:Nat) (hi:i<4) (y:World)=>tab_index M.tab i hi y
 obtain ⟨V,hV⟩:∃ V:Value,.agg (tabCells M.tab).toArray=V:=⟨_,rfl⟩;rw [hV] at hidx;rw [tab_eta] at hV;have Hidx:=Lib.hid hidx;clear hidx
 obtain ⟨rb,hrb⟩:∃ b,tabOkB M.tab 4=b:=⟨_,rfl⟩;rw [hrb];have Hrb:=Lib.hid hrb;clear hrb
 rw [mac_eta];go_enter Tryz.func158,Tryz.ntmps158
 go_upto_region 1 with fail;change Code.wp _ _ _ _ (w.alloc (.cells (macCells M P).toArray 36));generalize w.alloc (.cells (macCells M P).toArray 36)=w1 at *;obtain ⟨p2,p3,p4,p5,p6,p7,p8,p9,p10,p11,p12,p13⟩:=hp1.tabs;have Hb1:=Lib.hid hb1;clear hb1 hp1
 go_wp2_with fail;clear p2 p3 p4 p5 p6 p7 p8 p9 p10 p11 p12 p13 hV;go_loopw [7] (fun s7 wr=>∃ (i:Nat),i≤4∧s7=.int .i64 (i:Int)∧tabOkB M.tab i=true∧Below w.heap.size w wr) (fun s7 _=>4 - (intOf s7).toNat)
 case atStart=>exact ⟨0,by omega,rfl,rfl,Hb1.out⟩
 case round =>
  clear Hb1;obtain ⟨i,hi,rfl,hok,hbel⟩:=hrel;have Hbel:=Lib.hid hbel;clear hbel
  have Hok:=Lib.hid hok;clear hok
  by_cases hi4:i<4
  ·
   have hi4':(i:Int)<4:=by omega
   have hix:=Hidx.out i hi4;have hno:=tabOkB_no (t:=M.tab) hi4;have hstep:tabOkB M.tab (i+1)=(tabOkB M.tab i && lastOkB (M.tab.at_ i)):=rfl;rw [Hok.out,Bool.true_and] at hstep;obtain ⟨x,hx⟩:∃ x,M.tab.at_ i=x:=⟨_,rfl⟩;rw [hx] at hix hno hstep;clear hx;rw [Hrb.out] at hno;have Hno:=Lib.hid hno;clear hno
   have Hstep:=Lib.hid hstep;clear hstep
   have hixA:∀ y,(Instr.index 31 V (.int .i64 (i:Int))).run Tryz.prog y=.ok (.agg #[.int .u32 (x.seq.toNat:Int),.int .u8 (x.code:Int),.string x.text]) y:=hix;clear hix;have hL:=LastCells.new wr x;have hba:=Hbel.out.alloc Hbel.out.size (.cells (lastCells x).toArray 29);have hisu:=tsucc (n:=i) (by omega);have hlk:lastOkB x=(decide (x.code≤3) && decide (x.text.size≤64) && (decide (x.seq.toNat≠0) || lastE x lastNone)):=rfl;go_upto_region 4 with fail;change Code.wp _ _ _ _ (wr.alloc (.cells (lastCells x).toArray 29));generalize wr.alloc (.cells (lastCells x).toArray 29)=w2 at *;have Hba:=Lib.hid hba;clear hba
   obtain ⟨l0,l1,l2⟩:=hL;clear hixA;by_cases c1:x.code≤3
   ·
    have c1' : ¬ (3:Int)<(x.code:Int):=by omega
    by_cases c2:x.text.size≤64
    ·
     have c2' : ¬ (64:Int)<(x.text.size:Int):=by omega
     rw [decide_eq_true c1,decide_eq_true c2,Bool.true_and,Bool.true_and] at hlk;by_cases c3:x.seq.toNat=0
     ·
      have c3':((x.seq.toNat:Int) == 0)=true:=by simp [c3]
      rw [show decide (x.seq.toNat≠0)=false by simp [c3],Bool.false_or] at hlk;have hbe:lastE x lastNone=(decide (x.code=0) && decide (x.text.toList=[])):=by
       unfold lastE;rw [show (lastNone.seq.toNat)=0 from rfl,show lastNone.code=0 from rfl,show lastNone.text.toList=[] by rw [show lastNone.text=ByteArray.empty from rfl,ByteArray.toList_eq];rfl,c3];simp
      rw [hbe] at hlk;have Hlk:=Lib.hid hlk;clear hlk hbe
      clear c1 c2 c3;by_cases d1:x.code=0
      ·
       by_cases d2:x.text.toList=[]
       ·
        have hk:lastOkB x=true:=by rw [Hlk.out];simp [d1,d2]
        have Hk:=Lib.hid hk;clear hk Hlk
        go_wp2_with fail;go_roundw
        case rel=>exact ⟨i+1,hi4,rfl,by rw [Hstep.out,Hk.out],Hba.out⟩
        case measure=>simp [intOf];omega
       ·
        have hk:lastOkB x=false:=by rw [Hlk.out];simp [d2]
        have Hk:=Lib.hid hk;clear hk Hlk
        go_wp2_with fail;go_ret;exact ⟨by rw [Hno.out Hk.out];rfl,Hba.out⟩
      ·
       have hk:lastOkB x=false:=by rw [Hlk.out];simp [d1]
       have Hk:=Lib.hid hk;clear hk Hlk
       go_wp2_with fail;go_ret;exact ⟨by rw [Hno.out Hk.out];rfl,Hba.out⟩
     ·
      have c3':((x.seq.toNat:Int) == 0)=false:=by simp;omega
      rw [show decide (x.seq.toNat≠0)=true by simp [c3],Bool.true_or] at hlk;have Hlk:=Lib.hid hlk;clear hlk
      clear c1 c2 c3;go_wp2_with fail;go_roundw
      case rel=>exact ⟨i+1,hi4,rfl,by rw [Hstep.out,Hlk.out],Hba.out⟩
      case measure=>simp [intOf];omega
    ·
     have c2':(64:Int)<(x.text.size:Int):=by omega
     rw [decide_eq_false c2,Bool.and_false,Bool.false_and] at hlk;have Hlk:=Lib.hid hlk;clear hlk
     clear c1 c2;go_wp2_with fail;go_ret;exact ⟨by rw [Hno.out Hlk.out];rfl,Hba.out⟩
   ·
    have c1':(3:Int)<(x.code:Int):=by omega
    rw [decide_eq_false c1,Bool.false_and,Bool.false_and] at hlk;have Hlk:=Lib.hid hlk;clear hlk
    clear c1;go_wp2_with fail;go_ret;exact ⟨by rw [Hno.out Hlk.out];rfl,Hba.out⟩
  ·
   have hi4' : ¬ (i:Int)<4:=by omega
   have he:i=4:=by omega
   subst he;have hr:rb=true:=by rw [← Hrb.out,Hok.out]
   subst hr;go_wp2_with fail;go_ret;exact ⟨rfl,Hbel.out⟩
open Go.RowKit Go.Shelf
attribute [local go_sem] Oper.semAt_some
def pairOkB (p:ByteArray × ByteArray):Bool:=decide (p.1.toList≠[]) && decide (p.1.size≤16) && decide (p.2.size≤64)
def kvAll (l:Prs):Bool:=l.all pairOkB
theorem kvAll_app (a b:Prs):kvAll (a++b)=(kvAll a && kvAll b):=List.all_append
theorem kvAll_one (p:ByteArray × ByteArray):kvAll [p]=pairOkB p:=by simp [kvAll]
def keysOkB (S:Sh):Bool:=decide (S.cnt≤256) && kvAll S.kv
structure KmI (w0 w:World) (M:MacV) (P:Option Addr):Prop where
 p:PartAt w w0.heap.size M P
 r:BoxAt w (w0.heap.size+1) (.bool false) 4
 bel:Below w0.heap.size w0 w
theorem KmI.below {w0 w w':World} {M:MacV} {P:Option Addr} (h:KmI w0 w M P) (hb:Below w.heap.size w w'):KmI w0 w' M P:=⟨(hb.block _ (Array.getElem?_eq_some_iff.1 h.p).1).trans h.p,h.r.below hb,h.bel.trans (hb.mono h.bel.size)⟩
theorem km_start (w:World) (M:MacV) (P:Option Addr):KmI w ((w.alloc (.cells (macCells M P).toArray 36)).alloc (.cells #[.bool false] 4)) M P:=by
 have b1:=(Below.refl w.heap.size w).alloc (Nat.le_refl _) (.cells (macCells M P).toArray 36);have s1:(w.alloc (.cells (macCells M P).toArray 36)).heap.size=w.heap.size+1:=by simp
 have v1:PartAt (w.alloc (.cells (macCells M P).toArray 36)) w.heap.size M P:=heap_alloc_new _ _;have v3:=BoxAt.new (w.alloc (.cells (macCells M P).toArray 36)) (.bool false) 4;have b2:=(Below.refl _ (w.alloc (.cells (macCells M P).toArray 36))).alloc (Nat.le_refl _) (.cells #[.bool false] 4);rw [s1] at v3;exact ⟨(b2.block _ (Array.getElem?_eq_some_iff.1 v1).1).trans v1,v3,b1.trans (b2.mono b1.size)⟩
structure KmR (w0 w:World):Prop where
 r:BoxAt w (w0.heap.size+1) (.bool false) 4
 bel:Below w0.heap.size w0 w
theorem KmR.own {w0 W W':World} {row:Option Nat} {B:Nat} (h:KmR w0 W) (hg:W.grownBy W' row) (hr:∀ r,row=some r→B≤r∧∃ o:Obj,W.heap[r]?=some o∧o.isCells=false) (hB:w0.heap.size≤B):KmR w0 W' :=
 ⟨BoxAt.own (f:=fun _:Unit=>.bool false) () W W' row h.r hg hr,below_own hB h.bel hg hr⟩
theorem keysMay_in (M:MacV) (T:Tr) (w:World) (hT:TreeAt w T) (hsM:T.sh=M.sh) (hcnt:T.cnt≤1000000) (mm:Nat) (hmm:3≤mm) :
  CallsIn Fence.wide mm Tryz.prog 159 #[.agg (macCells M T.ptr).toArray] w fun e w'=>e=.returned (.bool (keysOkB M.sh))∧Below w.heap.size w w':=by
 obtain ⟨rb,hrb⟩:∃ b,keysOkB M.sh=b:=⟨_,rfl⟩;have hrb0:(decide (T.cnt≤256) && kvAll T.kvs)=rb:=by
  rw [← hrb, ← hsM];unfold keysOkB;rw [← sh_cnt];rfl
 rw [hrb];clear hrb hsM;have Hrb:=Lib.hid hrb0;clear hrb0
 have hS:=km_start w M T.ptr;have HT:=Lib.hid hT;clear hT
 have htr:=fun (P:Option Addr) (y:World)=>tree_any P y
 have Htr:=Lib.hid htr;clear htr
 obtain ⟨P,hP⟩:∃ P,T.ptr=P:=⟨_,rfl⟩;rw [hP] at hS ⊢;have hlen:=fun (y:World) (hy:TreeAt y T)=>len_any T y hy
 rw [hP] at hlen;have Hlen:=Lib.hid hlen;clear hlen
 have HP:=Lib.hid hP;clear hP
 rw [mac_eta M P];refine callsIn_of_wp_marks Tryz.func159 rfl trivial ?_ rfl;simp only [Tryz.ntmps159,List.size_toArray,List.length_cons,List.length_nil,Nat.reduceAdd,Nat.reduceSub,Array.replicate_succ,Array.replicate_zero,List.push_toArray,List.append_toArray,List.nil_append,List.cons_append];refine wpIn_wide.2 ?_;go_upto_region 1 with fail;change Code.wp _ _ _ _ ((w.alloc (.cells (macCells M P).toArray 36)).alloc (.cells #[.bool false] 4));generalize (w.alloc (.cells (macCells M P).toArray 36)).alloc (.cells #[.bool false] 4)=w1 at *;have HS:=Lib.hid hS;clear hS
 obtain ⟨p0,p1,p14⟩:=HS.out.p.cells;by_cases hc:T.cnt≤256
 ·
  have hc' : ¬ (256:Int)<(T.cnt:Int):=by omega
  rw [decide_eq_true hc,Bool.true_and] at Hrb;go_wp2_with (first
   | ((with_reducible refine (Htr.out _ _).mono ?_);rintro e w2 ⟨rfl,hb2⟩;have HS2:=Lib.hid (HS.out.below hb2);have HT2:=Lib.hid (HT.out.below (HS2.out.bel));clear hb2 HS p0 p1 p14)
   | ((with_reducible refine (Hlen.out _ HT2.out).mono ?_);rintro e w' ⟨rfl,rfl⟩)
   | ((with_reducible refine (callsIn_wide.1 (all_in 1 _ _)).mono ?_);rintro e w9 ⟨rfl,rfl⟩))
  have hba:=(Below.refl w2.heap.size w2).alloc (Nat.le_refl _) (.cells #[.pointer P] 32);have HS3:=Lib.hid (HS2.out.below hba);have HT3:=Lib.hid (HT2.out.below hba);have hlo:T.Lo w2.heap.size:=HT2.out.lo;have hbt:=BoxAt.new w2 (.pointer P) 32;have hsz:(w2.alloc (.cells #[.pointer P] 32)).heap.size=w2.heap.size+1:=by simp
  generalize w2.alloc (.cells #[.pointer P] 32)=w3 at *;have hg2:w.heap.size+1<w2.heap.size:=HS2.out.r.lt;generalize w2.heap.size=g2 at *;clear HS2 HT2 hba Htr Hlen;have hstops:=all_stops (mm - 1) g2 g2 (g2+1) T w3 (by omega) (by omega) (by omega) (by rw [HP.out];exact hbt.cell) HT3.out hlo;have Hstops:=Lib.hid hstops;clear hstops hlo hbt HT3
  have Hsz:=Lib.hid hsz;clear hsz
  have Hg2:=Lib.hid hg2;clear hg2
  refine (wpIn_wide (n:=mm)).1 ?_;refine Range.wpIn_range (F:=Fence.wide) rfl (by omega) (gf:=108) (lb:=#[.pointer (some ⟨g2,0,none⟩)]) rfl trivial (enters_of Tryz.func108 (by kernel_rfl) rfl)
   Hstops.out (fun h k=>h.trans k) (keepC_b (by have:=Hsz.out;omega)) (Below.refl _ _) (fun _=>rfl)
   (fun s W=>kvAll s=true∧Below w3.heap.size w3 W) (fun c s W=>c=.ret∧kvAll s=false∧KmR w W) (fun s W W' row hs hg hr=>⟨hs.1,below_own (Nat.le_refl _) hs.2 hg hr⟩) (fun c s W W' row hs hg hr=>⟨hs.1,hs.2.1,hs.2.2.own hg hr HS3.out.bel.size⟩) ⟨rfl,Below.refl _ _⟩ ?round ?done ?stop
  case round =>
   rintro l pre x V2 ⟨hpre,hi⟩ hlen;clear Hstops hlen;obtain ⟨xk,xv⟩:=x;have hsn:kvAll (pre++[(xk,xv)])=pairOkB (xk,xv):=by rw [kvAll_app,hpre,kvAll_one,Bool.true_and]
   have Hsn:=Lib.hid hsn;clear hsn hpre
   have Hi:=Lib.hid hi;clear hi
   gi_wp2
   refine ⟨KeepsFrom.refl _ _,KeepC.refl _ _ _,fun W2 hT=>?_⟩;have hi2:=Hi.out.trans (turned_below (Nat.le_refl _) hT);have HL:=Lib.hid (HS3.out.below hi2);have Hi2:=Lib.hid hi2;clear hi2 hT Hi
   have z0:=HL.out.r.cell;have z1:=HL.out.r.frozen;by_cases c1:xk.toList=[]
   ·
    have c1':(xk.toList == [])=true:=by rw [c1];rfl
    have hno:pairOkB (xk,xv)=false:=by unfold pairOkB;simp [c1]
    have Hno:=Lib.hid hno;clear hno c1
    gi_wp2
    exact ⟨keepsFrom_set (KeepsFrom.refl _ _),rfl,by rw [Hsn.out,Hno.out],HL.out.r.set,below_set HL.out.bel (by omega)⟩
   ·
    have c1':(xk.toList == [])=false:=by simpa using c1
    by_cases c2:xk.size≤16
    ·
     have c2' : ¬ (16:Int)<(xk.size:Int):=by omega
     by_cases c3:xv.size≤64
     ·
      have c3' : ¬ (64:Int)<(xv.size:Int):=by omega
      have hyes:pairOkB (xk,xv)=true:=by unfold pairOkB;simp [c1,c2,c3]
      have Hyes:=Lib.hid hyes;clear hyes c1 c2 c3
      gi_wp2
      exact ⟨KeepsFrom.refl _ _,KeepC.refl _ _ _,by rw [Hsn.out,Hyes.out],Hi2.out⟩
     ·
      have c3':(64:Int)<(xv.size:Int):=by omega
      have hno:pairOkB (xk,xv)=false:=by unfold pairOkB;simp [c3]
      have Hno:=Lib.hid hno;clear hno c1 c2 c3
      gi_wp2
      exact ⟨keepsFrom_set (KeepsFrom.refl _ _),rfl,by rw [Hsn.out,Hno.out],HL.out.r.set,below_set HL.out.bel (by omega)⟩
    ·
     have c2':(16:Int)<(xk.size:Int):=by omega
     have hno:pairOkB (xk,xv)=false:=by unfold pairOkB;simp [c2]
     have Hno:=Lib.hid hno;clear hno c1 c2
     gi_wp2
     exact ⟨keepsFrom_set (KeepsFrom.refl _ _),rfl,by rw [Hsn.out,Hno.out],HL.out.r.set,below_set HL.out.bel (by omega)⟩
  case stop =>
   rintro E c pre V2 hE hpre ⟨rfl,hno,hR⟩ hk;have hrb:rb=false:=by
    rw [← Hrb.out];obtain ⟨s,hs⟩:=hpre;rw [← hs,kvAll_app,hno,Bool.false_and]
   subst hrb;have hlE:w.heap.size+1<E:=by have:=Hg2.out;have:=Hsz.out;omega
   have HR:=Lib.hid hR;clear hR
   have HkE:=Lib.hid (And.intro hk hlE);clear hk hlE hE hpre hno Hstops
   refine wpIn_wide.2 ?_;go_wp2_with fail;have hc7:=cell_kept HR.out.r.cell (grownBy_putObj' V2 E (.deferred none)) (fun r e=>by cases e;exact ⟨_,HkE.out.1,rfl⟩);have hb7:Below w.heap.size w (V2.putObj E (.deferred none)):=HR.out.bel.trans (belowK_b (w:=w) (Nat.le_refl _) V2 E _ _ (by have h1:=HkE.out.2;omega) HkE.out.1 rfl rfl);refine ⟨by simp,.inl ⟨_,_,rfl,run_takeDeferred HkE.out.1,?_⟩⟩;refine ⟨.bool false,?_,rfl,hb7⟩;simp [results,Tryz.results159,go_sem,hc7]
  case done =>
   rintro E ys W hE hS ⟨hall,hI⟩ hK;have hrb:rb=true:=by rw [← Hrb.out, ← hS,hall]
   subst hrb;clear Hstops;have HSw:=Lib.hid (HS3.out.below hI);have HK:=Lib.hid hK;clear hK
   have HE:=Lib.hid (show w.heap.size+1<E by have:=Hg2.out;have:=Hsz.out;omega);clear HS3 hI hE Hsz hS hall;have z0:=HSw.out.r.cell;have z1:=HSw.out.r.frozen;have hx1':(W.setCell ⟨w.heap.size+1,0,none⟩ (.bool true)).heap[E]?=some (.deferred (some [])):=(Below.heap_setCell _ _ _ _ (by show E≠w.heap.size+1;have:=HE.out;omega)).trans HK.out;have hbx:BoxAt (W.setCell ⟨w.heap.size+1,0,none⟩ (.bool true)) (w.heap.size+1) (.bool true) 4:=HSw.out.r.set;have hbl:Below w.heap.size w (W.setCell ⟨w.heap.size+1,0,none⟩ (.bool true)):=below_set HSw.out.bel (by omega);go_wp2_with fail;generalize W.setCell ⟨w.heap.size+1,0,none⟩ (.bool true)=W6 at *;have hc7:=cell_kept hbx.cell (grownBy_putObj' W6 E (.deferred none)) (fun r e=>by cases e;exact ⟨_,hx1',rfl⟩);have hb7:Below w.heap.size w (W6.putObj E (.deferred none)):=hbl.trans (belowK_b (w:=w) (Nat.le_refl _) W6 E _ _ (by have h1:=HE.out;omega) hx1' rfl rfl);refine ⟨by simp,.inl ⟨_,_,rfl,run_takeDeferred hx1',?_⟩⟩;refine ⟨.bool true,?_,rfl,hb7⟩;simp [results,Tryz.results159,go_sem,hc7]
 ·
  have hc':(256:Int)<(T.cnt:Int):=by omega
  rw [decide_eq_false hc,Bool.false_and] at Hrb;have hrb:=Hrb.out;subst hrb;go_wp2_with (first
   | ((with_reducible refine (Htr.out _ _).mono ?_);rintro e w2 ⟨rfl,hb2⟩;have HS2:=Lib.hid (HS.out.below hb2);have HT2:=Lib.hid (HT.out.below (HS2.out.bel));clear hb2 HS p0 p1 p14;have z0:=HS2.out.r.cell;have z1:=HS2.out.r.frozen)
   | ((with_reducible refine (Hlen.out _ HT2.out).mono ?_);rintro e w' ⟨rfl,rfl⟩))
  have hbx:BoxAt (w2.setCell ⟨w.heap.size+1,0,none⟩ (.bool false)) (w.heap.size+1) (.bool false) 4:=HS2.out.r.set;have f3:=hbx.cell;refine ⟨.bool false,?_,rfl,below_set HS2.out.bel (by omega)⟩;simp [results,Tryz.results159,go_sem,f3]
theorem keysMay_any (M:MacV) (T:Tr) (w:World) (hT:TreeAt w T) (hsM:T.sh=M.sh) (hcnt:T.cnt≤1000000) :
  Calls Tryz.prog 159 #[.agg (macCells M T.ptr).toArray] w fun e w'=>e=.returned (.bool (keysOkB M.sh))∧Below w.heap.size w w' :=
 callsIn_wide.1 (keysMay_in M T w hT hsM hcnt 3 (Nat.le_refl _))
theorem layPart (ρ:Operand→Value) (x:World) (o:Oper) (h:o.op=.alloc 36):(execOp ρ o).run Tryz.prog x=.ok (.value (RegL.ptr x.heap.size)) (x.alloc (.cells (macCells macNone none).toArray 36 (0,0))):=by
 simp only [execOp,h];go_simp;exact ⟨rfl,rfl⟩
theorem part_store {y:World} {g:Nat} {M0:MacV} {P0:Option Addr} (hs:PartAt y g M0 P0) {M:MacV} {P:Option Addr} {V:Value} (hV:Value.agg (macCells M P).toArray=V) :
  V.cells.size=15∧(storeCells ⟨g,0,none⟩ V.cells.toList).run Tryz.prog y=.ok () (rowSt y g 0 (macCells M P)):=by
 subst hV;exact ⟨rfl,store_row (macCells M P) 0 _ y hs (Nat.le_refl _) (by simp [macCells,tabCells,lastCells,Value.oneCell'])⟩
theorem partSt_at {y:World} {g:Nat} {M0:MacV} {P0:Option Addr} (h:PartAt y g M0 P0) (M:MacV) (P:Option Addr):PartAt (rowSt y g 0 (macCells M P)) g M P :=
 rowSt_row (macCells M P) [] (macCells M0 P0) y h rfl
structure MkEnd (w w':World) (gs:Nat) (M:MacV) (P:Option Addr) (X:Tr):Prop where
 p:PartAt w' gs M P
 bel:Below w.heap.size w w'
 lo:w.heap.size≤gs
 tr:TreeAt w X→TreeAt w' X
theorem mk_reg1 (w0:World) (g:Nat) (M:MacV) (P:Option Addr) (X:Tr) {Q:Exit→Act→World→Prop}
  (hQ:∀ c a d v w,Q (.panic c) (Act.put a d v) w→Q (.panic c) a w) (hQ2:∀ c a d v w,Q (.panic c) a w→Q (.panic c) (Act.put a d v) w) (HT:Hid (TabAt w0 g M.tab))
  (u2 u4 u5 u7 u8 u9 u10 u11 u12 u13 u14 u15 u16 u17 u18 u19 u20 u21 u22 u23 u24 u25 u26 u27 u28 u29 u30 u31 u32:Value)
  (Hk:Hid (∀ (s11 s12 s13 s14 s15 s16:Value) (gs:Nat) (w2:World),MkEnd w0 w2 gs M P X→Q .normal ⟨List.toArray (Value.int .u8 (M.all:Int)::Value.int .u8 (M.mem:Int)::u2::Value.pointer P::u4::u5::Value.pointer (some ⟨g,0,none⟩)::u7::u8::u9::Value.pointer (some ⟨gs,0,none⟩)::s11::s12::s13::s14::s15::s16::u17::u18::u19::u20::u21::u22::u23::u24::u25::u26::u27::u28::u29::u30::u31::u32::[]),[]⟩ w2)) :
  Code.wp Tryz.prog (findR 1 (Tryz.f104.body.getD .skip)) Q ⟨List.toArray (Value.int .u8 (M.all:Int)::Value.int .u8 (M.mem:Int)::u2::Value.pointer P::u4::u5::Value.pointer (some ⟨g,0,none⟩)::u7::u8::u9::u10::u11::u12::u13::u14::u15::u16::u17::u18::u19::u20::u21::u22::u23::u24::u25::u26::u27::u28::u29::u30::u31::u32::[]),[]⟩ w0:=by
 conv=>arg 2;whnf
 refine (wpIn_wide (n:=1)).1 ?_;refine RegL.wpIn_region_lays (F:=Fence.wide) (KeptW w0) [⟨6,10,.cells (macCells macNone none).toArray 36 (0,0)⟩] [(0,0),(1,0),(2,0),(3,0),(4,1),(5,2),(7,3)] (by kernel_rfl) (by kernel_rfl) (by kernel_rfl) (fun p hp=>by simp only [List.mem_cons,List.not_mem_nil,or_false] at hp;rcases hp with rfl;exact lays_any layPart rfl)
  hQ hQ2 ⟨rfl,rfl,rfl,Nat.le_refl _,fun _ _=>rfl⟩ (keptW_mono w0) ?_
 clear hQ hQ2;dsimp only [RegK.pick,List.getElem?_cons_zero,List.getElem?_cons_succ];obtain ⟨V1,hV1⟩:∃ V,Value.agg (macCells M P).toArray=V:=⟨_,rfl⟩;have HV1:=Lib.hid hV1;clear hV1
 iterate 2 (refine RegL.reads ?_;intro K hK;go_simp;(first | refine ⟨_,fun _ _=>rfl,hK _ ?_⟩ | refine hK _ ?_);clear hK K)
 refine RegL.reads ?_;intro K hK;go_simp;refine ⟨.agg (tabCells M.tab).toArray,fun y hy=>?_,hK _ ?_⟩
 ·
  rw [tab_eta];obtain ⟨⟨a0,a1,a2⟩,⟨b0,b1,b2⟩,⟨c0,c1,c2⟩,⟨d0,d1,d2⟩⟩:=(HT.out.below' (KeptW.bel hy)).cells;go_simp
 clear hK K;iterate 1 (refine RegL.reads ?_;intro K hK;go_simp;(first | refine ⟨_,fun _ _=>rfl,hK _ ?_⟩ | refine hK _ ?_);clear hK K)
 refine RegL.adds (fun _=>trivial) ?_;go_simp;intro x hx K hK;refine ⟨trivial,?_⟩;refine (callsIn_wide.2 (kvof_any P x)).mono ?_;rintro e xc ⟨rfl,hb⟩;have hxc:KeptW w0 xc:=KeptW.mono hx hb;refine hK (KeptW xc) _ _ hb (fun y h=>KeptW.mono (KeptW.mono hx hb) (KeptW.bel h)) (keptW_mono xc) (Below.refl _ _) ?_;clear hK K hx hb;refine RegL.pures ?_;intro K hK;rw [tab_eta];go_simp;have hv:=HV1.out;rw [mac_eta] at hv;rw [hv];refine hK _ ?_;clear hK K hv;refine RegL.last ?_;intro g' y hF hy;have hyk:KeptW w0 y:=KeptW.mono hxc (KeptW.bel hy);obtain ⟨hg1,hg2⟩:=hF.1 ⟨6,10,.cells (macCells macNone none).toArray 36 (0,0)⟩ (by simp) rfl;have hs:PartAt y (g' 6) macNone none:=hg1;have hsl:w0.heap.size≤g' 6:=hg2;simp only [RegL.putS,RegL.ptr,if_true];clear hF hg1 hg2;generalize g' 6=gs at *;have hE:MkEnd w0 (rowSt y gs 0 (macCells M P)) gs M P X:=⟨partSt_at hs M P,rowSt_below hsl _ _ _ (KeptW.bel hyk),hsl,fun h=>TreeAt.row hs (by decide) _ _ (h.below (KeptW.bel hyk))⟩;have HE:=Lib.hid hE;clear hE
 obtain ⟨q0,q1⟩:=part_store hs HV1.out;simp only [Value.cells] at q0 q1;clear hs;generalize rowSt y gs 0 (macCells M P)=wE at *;refine RegK.can_frees (fun _=>trivial) ?_;intro K K0 hK hK0;go_simp;refine hK (fun _=>True) _ _ trivial ?_;clear hK K hK0 K0 q0 q1;refine RegK.can_nil ?_;exact Hk.out _ _ _ _ _ _ gs wE HE.out
theorem mk_reg3 (w0:World) (g:Nat)  {Q:Exit→Act→World→Prop}
  (_hQ:∀ c a d v w,Q (.panic c) (Act.put a d v) w→Q (.panic c) a w) (HR:Hid (MacAt w0 g macNone none))
  (u0 u1 u2 u3 u4 u5 u6 u7 u9 u10 u11 u12 u13 u14 u15 u16 u17 u18 u19 u20 u21 u22 u23 u24 u25 u26 u27 u28 u29 u30 u31 u32:Value)
  (Hk:Hid (∀ (s30:Value) (w2:World),w2=rowSt w0 g 0 (macCells macNone none)→Q .normal ⟨List.toArray (u0::u1::u2::u3::u4::u5::u6::u7::Value.pointer (some ⟨g,0,none⟩)::Value.int .i64 4::u10::u11::u12::u13::u14::u15::u16::u17::u18::u19::u20::u21::u22::u23::u24::u25::u26::u27::u28::u29::s30::u31::u32::[]),[]⟩ w2)) :
  Code.wp Tryz.prog (findR 3 (Tryz.f104.body.getD .skip)) Q ⟨List.toArray (u0::u1::u2::u3::u4::u5::u6::u7::Value.pointer (some ⟨g,0,none⟩)::u9::u10::u11::u12::u13::u14::u15::u16::u17::u18::u19::u20::u21::u22::u23::u24::u25::u26::u27::u28::u29::u30::u31::u32::[]),[]⟩ w0:=by
 conv=>arg 2;whnf
 clear _hQ;obtain ⟨⟨m0,m1,m14⟩,⟨m2,m3,m4⟩,⟨m5,m6,m7⟩,⟨m8,m9,m10⟩,⟨m11,m12,m13⟩⟩:=HR.out.cells;have q0:=HR.out.thawed 0;have q1:=HR.out.thawed 1;have q2:=HR.out.thawed 2;have q3:=HR.out.thawed 3;have q4:=HR.out.thawed 4;have q5:=HR.out.thawed 5;have q6:=HR.out.thawed 6;have q7:=HR.out.thawed 7;have q8:=HR.out.thawed 8;have q9:=HR.out.thawed 9;have q10:=HR.out.thawed 10;have q11:=HR.out.thawed 11;have q12:=HR.out.thawed 12;have q13:=HR.out.thawed 13;have q14:=HR.out.thawed 14;go_wp2_with fail;exact Hk.out _ _ rfl
theorem mk_reg4 (w0:World) (g:Nat) (g5:Nat) (M:MacV) (P:Option Addr) {Q:Exit→Act→World→Prop}
  (_hQ:∀ c a d v w,Q (.panic c) (Act.put a d v) w→Q (.panic c) a w) (HR:Hid (MacAt w0 g macNone none)) (HP:Hid (PartAt w0 g5 M P))
  (u0 u1 u2 u3 u4 u5 u6 u7 u9 u11 u12 u13 u14 u15 u16 u17 u18 u19 u20 u21 u22 u23 u24 u25 u26 u27 u28 u29 u30 u31 u32:Value)
  (Hk:Hid (∀ (s31 s32:Value) (w2:World),w2=rowSt w0 g 0 (macCells M P)→Q .normal ⟨List.toArray (u0::u1::u2::u3::u4::u5::u6::u7::Value.pointer (some ⟨g,0,none⟩)::Value.int .i64 0::Value.pointer (some ⟨g5,0,none⟩)::u11::u12::u13::u14::u15::u16::u17::u18::u19::u20::u21::u22::u23::u24::u25::u26::u27::u28::u29::u30::s31::s32::[]),[]⟩ w2)) :
  Code.wp Tryz.prog (findR 4 (Tryz.f104.body.getD .skip)) Q ⟨List.toArray (u0::u1::u2::u3::u4::u5::u6::u7::Value.pointer (some ⟨g,0,none⟩)::u9::Value.pointer (some ⟨g5,0,none⟩)::u11::u12::u13::u14::u15::u16::u17::u18::u19::u20::u21::u22::u23::u24::u25::u26::u27::u28::u29::u30::u31::u32::[]),[]⟩ w0:=by
 conv=>arg 2;whnf
 clear _hQ;obtain ⟨⟨m0,m1,m14⟩,⟨m2,m3,m4⟩,⟨m5,m6,m7⟩,⟨m8,m9,m10⟩,⟨m11,m12,m13⟩⟩:=HR.out.cells;have q0:=HR.out.thawed 0;have q1:=HR.out.thawed 1;have q2:=HR.out.thawed 2;have q3:=HR.out.thawed 3;have q4:=HR.out.thawed 4;have q5:=HR.out.thawed 5;have q6:=HR.out.thawed 6;have q7:=HR.out.thawed 7;have q8:=HR.out.thawed 8;have q9:=HR.out.thawed 9;have q10:=HR.out.thawed 10;have q11:=HR.out.thawed 11;have q12:=HR.out.thawed 12;have q13:=HR.out.thawed 13;have q14:=HR.out.thawed 14;obtain ⟨p0,p1,p14⟩:=HP.out.cells;obtain ⟨p2,p3,p4,p5,p6,p7,p8,p9,p10,p11,p12,p13⟩:=HP.out.tabs;go_wp2_with fail;exact Hk.out _ _ _ rfl
def makeOk (M:MacV):Bool:=setsOk M && tabOkB M.tab 4 && keysOkB M.sh
theorem mk_reg2 (w0:World) (gp:Nat) (M:MacV) (P:Option Addr) (X:Tr) {Q:Exit→Act→World→Prop}
  (_hQ:∀ c a d v w,Q (.panic c) (Act.put a d v) w→Q (.panic c) a w) (HP:Hid (PartAt w0 gp M P)) (HX:Hid (TreeAt w0 X∧X.sh=M.sh∧X.ptr=P∧X.cnt≤1000000)) (Hs:Hid (M.all<256∧M.mem<256))
  (u0 u1 u2 u3 u4 u5 u6 u7 u8 u9 u11 u12 u13 u14 u15 u16 u17 u18 u19 u20 u21 u22 u23 u24 u25 u26 u27 u28 u29 u30 u31 u32:Value)
  (Hk:Hid (∀ (s17 s18 s19 s20 s21 s22 s23 s24 s25 s26 s27 s28:Value) (w2:World),Below w0.heap.size w0 w2→Q .normal ⟨List.toArray (u0::u1::u2::u3::u4::u5::u6::u7::u8::u9::Value.pointer (some ⟨gp,0,none⟩)::u11::u12::u13::u14::u15::u16::s17::s18::s19::s20::s21::s22::s23::s24::s25::s26::s27::s28::Value.bool (!makeOk M)::u30::u31::u32::[]),[]⟩ w2)) :
  Code.wp Tryz.prog (findR 2 (Tryz.f104.body.getD .skip)) Q ⟨List.toArray (u0::u1::u2::u3::u4::u5::u6::u7::u8::u9::Value.pointer (some ⟨gp,0,none⟩)::u11::u12::u13::u14::u15::u16::u17::u18::u19::u20::u21::u22::u23::u24::u25::u26::u27::u28::u29::u30::u31::u32::[]),[]⟩ w0:=by
 conv=>arg 2;whnf
 clear _hQ;have hs1:=fun (y:World)=>sets_any M P y Hs.out.1 Hs.out.2
 have hs2:=fun (y:World)=>tableMay_any M P y
 have hs3:=fun (y:World) (hy:Below w0.heap.size w0 y)=>keysMay_any M X y (HX.out.1.below hy) HX.out.2.1 HX.out.2.2.2
 rw [HX.out.2.2.1] at hs3;obtain ⟨rb,hrb⟩:∃ b,makeOk M=b:=⟨_,rfl⟩;have hrb0:=hrb;unfold makeOk at hrb0;rw [hrb] at Hk;clear hrb;have Hrb:=Lib.hid hrb0;clear hrb0
 generalize setsOk M=b1 at *;generalize tabOkB M.tab 4=b2 at *;generalize keysOkB M.sh=b3 at *;rw [mac_eta M P] at hs1 hs2 hs3;have Hs1:=Lib.hid hs1;clear hs1
 have Hs2:=Lib.hid hs2;clear hs2
 have Hs3:=Lib.hid hs3;clear hs3
 have Hcl:=Lib.hid (fun (y:World) (hy:Below w0.heap.size w0 y)=>(show PartAt y gp M P from (hy.block _ (Array.getElem?_eq_some_iff.1 HP.out).1).trans HP.out));obtain ⟨p0,p1,p14⟩:=HP.out.cells;obtain ⟨p2,p3,p4,p5,p6,p7,p8,p9,p10,p11,p12,p13⟩:=HP.out.tabs;cases b1 with
 | false =>
  have hrb:rb=false:=by rw [← Hrb.out];rfl
  subst hrb;clear Hrb;go_wp2_with (first
   | ((with_reducible refine (Hs1.out _).mono ?_);rintro e v1 ⟨rfl,hb⟩;clear Hs1;have HB1:=Lib.hid hb;clear hb p0 p1 p2 p3 p4 p5 p6 p7 p8 p9 p10 p11 p12 p13 p14;obtain ⟨p0,p1,p14⟩:=(Hcl.out _ HB1.out).cells;obtain ⟨p2,p3,p4,p5,p6,p7,p8,p9,p10,p11,p12,p13⟩:=(Hcl.out _ HB1.out).tabs))
  exact Hk.out _ _ _ _ _ _ _ _ _ _ _ _ _ HB1.out
 | true =>
 cases b2 with
 | false =>
  have hrb:rb=false:=by rw [← Hrb.out];rfl
  subst hrb;clear Hrb;go_wp2_with (first
   | ((with_reducible refine (Hs1.out _).mono ?_);rintro e v1 ⟨rfl,hb⟩;clear Hs1;have HB1:=Lib.hid hb;clear hb p0 p1 p2 p3 p4 p5 p6 p7 p8 p9 p10 p11 p12 p13 p14;obtain ⟨p0,p1,p14⟩:=(Hcl.out _ HB1.out).cells;obtain ⟨p2,p3,p4,p5,p6,p7,p8,p9,p10,p11,p12,p13⟩:=(Hcl.out _ HB1.out).tabs)
   | ((with_reducible refine (Hs2.out _).mono ?_);rintro e v2 ⟨rfl,hb⟩;clear Hs2;have HB2:=Lib.hid (HB1.out.trans (hb.mono HB1.out.size));clear hb p0 p1 p2 p3 p4 p5 p6 p7 p8 p9 p10 p11 p12 p13 p14;obtain ⟨p0,p1,p14⟩:=(Hcl.out _ HB2.out).cells;obtain ⟨p2,p3,p4,p5,p6,p7,p8,p9,p10,p11,p12,p13⟩:=(Hcl.out _ HB2.out).tabs))
  exact Hk.out _ _ _ _ _ _ _ _ _ _ _ _ _ HB2.out
 | true =>
 cases b3 with
 | false =>
  have hrb:rb=false:=by rw [← Hrb.out];rfl
  subst hrb;clear Hrb;go_wp2_with (first
   | ((with_reducible refine (Hs1.out _).mono ?_);rintro e v1 ⟨rfl,hb⟩;clear Hs1;have HB1:=Lib.hid hb;clear hb p0 p1 p2 p3 p4 p5 p6 p7 p8 p9 p10 p11 p12 p13 p14;obtain ⟨p0,p1,p14⟩:=(Hcl.out _ HB1.out).cells;obtain ⟨p2,p3,p4,p5,p6,p7,p8,p9,p10,p11,p12,p13⟩:=(Hcl.out _ HB1.out).tabs)
   | ((with_reducible refine (Hs2.out _).mono ?_);rintro e v2 ⟨rfl,hb⟩;clear Hs2;have HB2:=Lib.hid (HB1.out.trans (hb.mono HB1.out.size));clear hb p0 p1 p2 p3 p4 p5 p6 p7 p8 p9 p10 p11 p12 p13 p14;obtain ⟨p0,p1,p14⟩:=(Hcl.out _ HB2.out).cells;obtain ⟨p2,p3,p4,p5,p6,p7,p8,p9,p10,p11,p12,p13⟩:=(Hcl.out _ HB2.out).tabs)
   | ((with_reducible refine (Hs3.out _ HB2.out).mono ?_);rintro e v3 ⟨rfl,hb⟩;clear Hs3;have HB3:=Lib.hid (HB2.out.trans (hb.mono HB2.out.size));clear hb))
  exact Hk.out _ _ _ _ _ _ _ _ _ _ _ _ _ HB3.out
 | true =>
  have hrb:rb=true:=by rw [← Hrb.out];rfl
  subst hrb;clear Hrb;go_wp2_with (first
   | ((with_reducible refine (Hs1.out _).mono ?_);rintro e v1 ⟨rfl,hb⟩;clear Hs1;have HB1:=Lib.hid hb;clear hb p0 p1 p2 p3 p4 p5 p6 p7 p8 p9 p10 p11 p12 p13 p14;obtain ⟨p0,p1,p14⟩:=(Hcl.out _ HB1.out).cells;obtain ⟨p2,p3,p4,p5,p6,p7,p8,p9,p10,p11,p12,p13⟩:=(Hcl.out _ HB1.out).tabs)
   | ((with_reducible refine (Hs2.out _).mono ?_);rintro e v2 ⟨rfl,hb⟩;clear Hs2;have HB2:=Lib.hid (HB1.out.trans (hb.mono HB1.out.size));clear hb p0 p1 p2 p3 p4 p5 p6 p7 p8 p9 p10 p11 p12 p13 p14;obtain ⟨p0,p1,p14⟩:=(Hcl.out _ HB2.out).cells;obtain ⟨p2,p3,p4,p5,p6,p7,p8,p9,p10,p11,p12,p13⟩:=(Hcl.out _ HB2.out).tabs)
   | ((with_reducible refine (Hs3.out _ HB2.out).mono ?_);rintro e v3 ⟨rfl,hb⟩;clear Hs3;have HB3:=Lib.hid (HB2.out.trans (hb.mono HB2.out.size));clear hb))
  exact Hk.out _ _ _ _ _ _ _ _ _ _ _ _ _ HB3.out
theorem part_row {w:World} {g:Nat} {M:MacV} {P:Option Addr} (h:MacAt w g macNone none) (w0:World) (hb:Below w0.heap.size w0 w) (hg:w0.heap.size≤g) (X:Tr) (hX:TreeAt w X) :
  MacAt (rowSt w g 0 (macCells M P)) g M P∧TreeAt (rowSt w g 0 (macCells M P)) X∧Below w0.heap.size w0 (rowSt w g 0 (macCells M P)):=by
 obtain ⟨h1,h2,h3,h4⟩:=ma_st h M P;exact ⟨h1,h4 _ hX,h3 _ _ hb hg⟩
theorem make_any (M:MacV) (T:Tr) (w:World) (hT:TreeAt w T) (hsh:T.sh=M.sh) (hcnt:T.cnt≤1000000) (ha:M.all<256) (hm:M.mem<256) :
  Calls Tryz.prog 104 #[.int .u8 (M.all:Int),.int .u8 (M.mem:Int),.agg (tabCells M.tab).toArray,.pointer T.ptr] w fun e w' =>
   e=.returned (.tuple #[if makeOk M=true then macV M T.ptr else macV macNone none,.int .i64 (if makeOk M=true then 0 else 4)])∧TreeAt w' T∧Below w.heap.size w w':=by
 have b1:=(Below.refl w.heap.size w).alloc (Nat.le_refl _) (.cells (tabCells M.tab).toArray 31);have s1:(w.alloc (.cells (tabCells M.tab).toArray 31)).heap.size=w.heap.size+1:=by simp
 have t1:TabAt (w.alloc (.cells (tabCells M.tab).toArray 31)) w.heap.size M.tab:=heap_alloc_new _ _;have b2:=(Below.refl _ (w.alloc (.cells (tabCells M.tab).toArray 31))).alloc (Nat.le_refl _) (.cells (macCells macNone none).toArray 38);have r2:MacAt ((w.alloc (.cells (tabCells M.tab).toArray 31)).alloc (.cells (macCells macNone none).toArray 38)) (w.heap.size+1) macNone none:=by rw [← s1];exact heap_alloc_new _ _
 have ht2:=t1.below' b2;have hb2:=b1.trans (b2.mono b1.size);clear b1 s1 t1 b2;have H0:=Lib.hid (And.intro hT (And.intro hsh hcnt));clear hT hsh hcnt
 have Hs:=Lib.hid (And.intro ha hm);clear ha hm
 obtain ⟨rb,hrb⟩:∃ b,makeOk M=b:=⟨_,rfl⟩;rw [hrb];have Hrb:=Lib.hid hrb;clear hrb
 obtain ⟨P,hP⟩:∃ P,T.ptr=P:=⟨_,rfl⟩;rw [hP,tab_eta];have HP:=Lib.hid hP;clear hP
 go_enter Tryz.func104,Tryz.ntmps104
 go_upto_region 1 with fail;change Code.wp _ _ _ _ ((w.alloc (.cells (tabCells M.tab).toArray 31)).alloc (.cells (macCells macNone none).toArray 38));generalize (w.alloc (.cells (tabCells M.tab).toArray 31)).alloc (.cells (macCells macNone none).toArray 38)=w1 at *;refine mk_reg1 w1 w.heap.size M P T (fun _ _ d _ _ h=>by cases d <;> exact h) (fun _ _ d _ _ h=>by cases d <;> exact h) (Lib.hid ht2) _ _ _ _ _ _ _ _ _ _ _ _ _ _ _ _ _ _ _ _ _ _ _ _ _ _ _ _ _ (Lib.hid ?_);intro s11 s12 s13 s14 s15 s16 gp w2 hE;have HE:=Lib.hid hE;clear hE ht2
 have Hr:=Lib.hid (r2.below HE.out.bel);clear r2
 have Hb:=Lib.hid (hb2.trans (HE.out.bel.mono hb2.size));have HT2:=Lib.hid (HE.out.tr (H0.out.1.below hb2));clear hb2
 go_upto_region 2 with fail;refine mk_reg2 w2 gp M P T (fun _ _ d _ _ h=>by cases d <;> exact h) (Lib.hid HE.out.p) (Lib.hid ⟨HT2.out,H0.out.2.1,HP.out,H0.out.2.2⟩) Hs _ _ _ _ _ _ _ _ _ _ _ _ _ _ _ _ _ _ _ _ _ _ _ _ _ _ _ _ _ _ _ _ (Lib.hid ?_);rw [Hrb.out];intro s17 s18 s19 s20 s21 s22 s23 s24 s25 s26 s27 s28 w3 hb3;have HQ:=Lib.hid (show PartAt w3 gp M P∧MacAt w3 (w.heap.size+1) macNone none∧TreeAt w3 T∧Below w.heap.size w w3 from
  ⟨(hb3.block _ (Array.getElem?_eq_some_iff.1 HE.out.p).1).trans HE.out.p,Hr.out.below hb3,HT2.out.below hb3,Hb.out.trans (hb3.mono Hb.out.size)⟩)
 clear HE Hr Hb HT2 hb3;cases rb with
 | false =>
  have HS:=Lib.hid (part_row (M:=macNone) (P:=none) HQ.out.2.1 w HQ.out.2.2.2 (Nat.le_succ _) T HQ.out.2.2.1);go_upto_region 3 with fail;refine mk_reg3 w3 (w.heap.size+1) (fun _ _ d _ _ h=>by cases d <;> exact h) (Lib.hid HQ.out.2.1) _ _ _ _ _ _ _ _ _ _ _ _ _ _ _ _ _ _ _ _ _ _ _ _ _ _ _ _ _ _ _ _ (Lib.hid ?_);intro s1 w8 hw8;subst hw8;go_wp2_with fail;change bodyPost _ _ _ _ _ (rowSt w3 (w.heap.size+1) 0 (macCells macNone none));clear HQ;generalize rowSt w3 (w.heap.size+1) 0 (macCells macNone none)=w9 at *;obtain ⟨⟨o0,o1,o14⟩,⟨o2,o3,o4⟩,⟨o5,o6,o7⟩,⟨o8,o9,o10⟩,⟨o11,o12,o13⟩⟩:=HS.out.1.cells;refine bodyPost_ret (v:=.tuple #[.agg (macCells macNone none).toArray,.int .i64 4]) (by rw [mac_eta];simp [results,Tryz.results104,go_sem,o0,o1,o2,o3,o4,o5,o6,o7,o8,o9,o10,o11,o12,o13,o14] <;> rfl) rfl ?_;exact ⟨rfl,HS.out.2.1,HS.out.2.2⟩
 | true =>
  have HS:=Lib.hid (part_row (M:=M) (P:=P) HQ.out.2.1 w HQ.out.2.2.2 (Nat.le_succ _) T HQ.out.2.2.1);go_upto_region 4 with fail;refine mk_reg4 w3 (w.heap.size+1) gp M P (fun _ _ d _ _ h=>by cases d <;> exact h) (Lib.hid HQ.out.2.1) (Lib.hid HQ.out.1) _ _ _ _ _ _ _ _ _ _ _ _ _ _ _ _ _ _ _ _ _ _ _ _ _ _ _ _ _ _ _ (Lib.hid ?_);intro s1 s2 w8 hw8;subst hw8;go_wp2_with fail;change bodyPost _ _ _ _ _ (rowSt w3 (w.heap.size+1) 0 (macCells M P));clear HQ;generalize rowSt w3 (w.heap.size+1) 0 (macCells M P)=w9 at *;obtain ⟨⟨o0,o1,o14⟩,⟨o2,o3,o4⟩,⟨o5,o6,o7⟩,⟨o8,o9,o10⟩,⟨o11,o12,o13⟩⟩:=HS.out.1.cells;refine bodyPost_ret (v:=.tuple #[.agg (macCells M P).toArray,.int .i64 0]) (by rw [mac_eta];simp [results,Tryz.results104,go_sem,o0,o1,o2,o3,o4,o5,o6,o7,o8,o9,o10,o11,o12,o13,o14] <;> rfl) rfl ?_;exact ⟨rfl,HS.out.2.1,HS.out.2.2⟩
theorem and127 (x:Nat):x &&& 127=x % 128:=Nat.and_two_pow_sub_one_eq_mod x 7
theorem both_eq {x:Nat}:(x=bothS x x) ↔ x<128:=by
 unfold bothS;rw [Nat.and_self,and127];omega
theorem pop_posM:∀ m,m<128→(0<pop8 m ↔ m≠0):=by decide
def setsG (a m:Nat):Bool:=decide (a<128) && decide (m<128) && decide (m≠0) && decide (m &&& (255 - a)=0)
theorem sets_good (M:MacV):setsOk M=setsG M.all M.mem:=by
 rw [Bool.eq_iff_iff];unfold setsOk setsG mayS withoutS;simp only [Bool.and_eq_true,decide_eq_true_eq,both_eq];have hle:M.mem &&& (255 - M.all)≤M.mem:=Nat.and_le_left;constructor
 ·
  rintro ⟨⟨⟨h1,h2⟩,h3⟩,h4⟩;rw [and127,Nat.mod_eq_of_lt h4] at h1;rw [and127,Nat.mod_eq_of_lt (by omega)] at h2;exact ⟨⟨⟨h3,h4⟩,(pop_posM _ h4).1 h1⟩,h2⟩
 ·
  rintro ⟨⟨⟨h3,h4⟩,h1⟩,h2⟩;rw [and127 M.mem,Nat.mod_eq_of_lt h4,and127 (M.mem &&& (255 - M.all)),Nat.mod_eq_of_lt (by omega)];exact ⟨⟨⟨(pop_posM _ h4).2 h1,h2⟩,h3⟩,h4⟩
theorem lastOkB_fit {x:LastV} (h:lastOkB x=true):LastFit x:=by
 unfold lastOkB at h;simp only [Bool.and_eq_true,Bool.or_eq_true,decide_eq_true_eq] at h;exact ⟨h.1.1,h.1.2,fun e=>h.2.elim (fun k=>absurd e k) lastE_iff.1⟩
theorem tabOkB_fit {t:TabV} (h:tabOkB t 4=true) (n:Nat):LastFit (t.at_ n):=by
 unfold tabOkB tabOkB tabOkB tabOkB at h;simp only [Bool.and_eq_true] at h;obtain ⟨⟨⟨⟨-, h0⟩,h1⟩,h2⟩,h3⟩:=h;unfold TabV.at_;split
 ·
  exact lastOkB_fit h0
 ·
  split
  ·
   exact lastOkB_fit h1
  ·
   split
   ·
    exact lastOkB_fit h2
   ·
    exact lastOkB_fit h3
theorem make_all {M:MacV} (h:makeOk M=true) (ha:Asc M.sh.kv) (hh:M.sh.Heap):MacAll M:=by
 unfold makeOk at h;simp only [Bool.and_eq_true] at h;obtain ⟨⟨h1,h2⟩,h3⟩:=h;have hs:=h1;rw [sets_good] at hs;unfold setsG at hs;simp only [Bool.and_eq_true,decide_eq_true_eq] at hs;unfold keysOkB at h3;simp only [Bool.and_eq_true,decide_eq_true_eq] at h3;have hp:∀ p ∈ M.sh.kv,p.1.toList≠[]∧p.1.size≤16∧p.2.size≤64:=fun p hp=>by
  have:=List.all_eq_true.1 h3.2 p hp;unfold pairOkB at this;simp only [Bool.and_eq_true,decide_eq_true_eq] at this;exact ⟨this.1.1,this.1.2,this.2⟩
 refine ⟨⟨hs.1.1.1,hs.1.1.2,tabOkB_fit h2,⟨ha,h3.1,fun p hm=>(hp p hm).2.2⟩,fun p hm=>⟨?_,(hp p hm).2.1⟩⟩,hh,h1⟩;have h0:=(hp p hm).1;rw [← str_size];rw [ByteArray.toList_eq] at h0;cases hl:p.1.data.toList with
 | nil=>rw [hl] at h0;exact absurd rfl h0
 | cons=>simp
structure ChV where
 low:Nat
 D:List UInt8
def dirOk (b:UInt8):Bool:=decide (0<b.toNat) && decide (b.toNat<128)
def ChV.top (C:ChV):Nat:=C.low+C.D.length - 1
def ChV.at_ (C:ChV) (slot:Nat):Option UInt8:=if slot=0 then none else if max slot 3 - 3<C.low∨C.top<max slot 3 - 3 then none else C.D[max slot 3 - 3 - C.low]?
def ChV.tail (C:ChV):List UInt8:=C.D.drop (C.D.length - 3)
def ChV.push (C:ChV) (b:UInt8):ChV:=⟨C.low,C.D++[b]⟩
def chOf (top:Nat) (t:List UInt8):Option ChV:=if (top≤4611686018427387904∧t.length=min (top+1) 3)∧t.all dirOk=true then some ⟨top+1 - t.length,t⟩ else none
theorem tail_len (C:ChV):C.tail.length=min C.D.length 3:=by
 unfold ChV.tail;rw [List.length_drop];omega
theorem chOf_tail {C:ChV} (h0:C.low=0) (hD:0<C.D.length) (hok:C.D.all dirOk=true) (ht:C.top≤4611686018427387904):chOf C.top C.tail=some ⟨C.top+1 - C.tail.length,C.tail⟩:=by
 unfold chOf;rw [if_pos];refine ⟨⟨ht,?_⟩,?_⟩
 ·
  rw [tail_len];unfold ChV.top;rw [h0];have:0+C.D.length - 1+1=C.D.length:=by omega
  rw [this]
 ·
  unfold ChV.tail;rw [List.all_eq_true] at hok ⊢;exact fun b hb=>hok b (List.mem_of_mem_drop hb)
theorem tail_last {C:ChV} (hD:0<C.D.length):C.tail.getLast?=C.D.getLast?:=by
 unfold ChV.tail;rw [List.getLast?_drop,if_neg (by omega)]
structure ChAt (w:World) (base p:Nat) (v:Value) (C:ChV):Prop where
 row:w.heap[p]?=some (.cells #[.int .u64 (C.low:Int),v] 124 (0,0))
 own:OwnB w base 24 v C.D
theorem ChAt.lt {w:World} {base p:Nat} {v:Value} {C:ChV} (h:ChAt w base p v C):p<w.heap.size:=(Array.getElem?_eq_some_iff.1 h.row).1
theorem ChAt.below {w w':World} {base p:Nat} {v:Value} {C:ChV} (h:ChAt w base p v C) (hb:Below w.heap.size w w'):ChAt w' base p v C:=⟨(hb.block p h.lt).trans h.row,h.own.below hb⟩
theorem ChAt.cells {w:World} {base p:Nat} {v:Value} {C:ChV} (h:ChAt w base p v C):w.cell? ⟨p,0,none⟩=some (.int .u64 (C.low:Int))∧w.cell? ⟨p,1,none⟩=some v:=⟨cell_of_row _ _ _ _ _ _ h.row,cell_of_row _ _ _ _ _ _ h.row⟩
theorem OwnB.len {w:World} {base:Nat} {t:TypeId} {a:Option Addr} {n c:Nat} {l:List UInt8} (h:OwnB w base t (.slice a n c) l):n=l.length:=by
 rcases h.2 with ⟨e,h3⟩ | ⟨g,cap,cur,e,_⟩
 ·
  cases e;exact h3.symm
 ·
  cases e;rfl
theorem dir_eq:∀ x:Fin 256,dirOk (UInt8.ofNat x.val)=(decide (0<pop8 (x.val &&& 127)) && decide (bothS x.val x.val=x.val)):=by decide +kernel
set_option maxHeartbeats 4000000 in
theorem directory_any (x:Nat) (hx:x<256) (w:World):Calls Tryz.prog 44 #[.int .u8 (x:Int)] w fun e w'=>e=.returned (.bool (dirOk (UInt8.ofNat x)))∧w=w':=by
 have hd:=dir_eq ⟨x,hx⟩;simp only at hd;rw [hd];have Hl:=Lib.hid (fun y:World=>len8_any x hx y);have Hb:=Lib.hid (fun y:World=>both_any x x hx hx y);clear hd;by_cases hp:0<pop8 (x &&& 127)
 ·
  have hp':(0:Int)<(pop8 (x &&& 127):Int):=by omega
  rw [decide_eq_true hp,Bool.true_and];generalize pop8 (x &&& 127)=n at *;clear hp;by_cases hq:bothS x x=x
  ·
   have hq':((bothS x x:Int) == (x:Int))=true:=by rw [beq_iff_eq];omega
   rw [decide_eq_true hq];generalize bothS x x=m at *;clear hq;go_enter Tryz.func44,Tryz.ntmps44
   go_wp2_with (first
    | ((with_reducible refine (Hl.out _).mono ?_);rintro e w' ⟨rfl,rfl⟩)
    | ((with_reducible refine (Hb.out _).mono ?_);rintro e w' ⟨rfl,rfl⟩))
   go_ret;exact ⟨rfl,rfl⟩
  ·
   have hq':((bothS x x:Int) == (x:Int))=false:=by rw [beq_eq_false_iff_ne];omega
   rw [decide_eq_false hq];generalize bothS x x=m at *;clear hq;go_enter Tryz.func44,Tryz.ntmps44
   go_wp2_with (first
    | ((with_reducible refine (Hl.out _).mono ?_);rintro e w' ⟨rfl,rfl⟩)
    | ((with_reducible refine (Hb.out _).mono ?_);rintro e w' ⟨rfl,rfl⟩))
   go_ret;exact ⟨rfl,rfl⟩
 ·
  have hp' : ¬ (0:Int)<(pop8 (x &&& 127):Int):=by omega
  rw [decide_eq_false hp,Bool.false_and];generalize pop8 (x &&& 127)=n at *;clear hp;go_enter Tryz.func44,Tryz.ntmps44
  go_wp2_with (first
   | ((with_reducible refine (Hl.out _).mono ?_);rintro e w' ⟨rfl,rfl⟩)
   | ((with_reducible refine (Hb.out _).mono ?_);rintro e w' ⟨rfl,rfl⟩))
  go_ret;exact ⟨rfl,rfl⟩
set_option maxHeartbeats 4000000 in
theorem chnew_any (x:Nat) (hx:x<256) (h:dirOk (UInt8.ofNat x)=true) (w:World) :
  Calls Tryz.prog 36 #[.int .u8 (x:Int)] w fun e w'=>∃ p v,e=.returned (.tuple #[.pointer (some ⟨p,0,none⟩),.int .i64 0])∧ChAt w' w.heap.size p v ⟨0,[UInt8.ofNat x]⟩∧w.heap.size≤p∧Below w.heap.size w w':=by
 have hd:=directory_any x hx w;rw [h] at hd;have Hd:=Lib.hid hd;clear hd h
 go_enter Tryz.func36,Tryz.ntmps36
 go_wp2_with ((with_reducible refine Hd.out.mono ?_);rintro e w' ⟨rfl,rfl⟩);refine bodyPost_ret (v:=.tuple #[.pointer (some ⟨w.heap.size+1,0,none⟩),.int .i64 0]) (by simp [results,Tryz.results36,go_sem]) rfl ?_;have hx8:((UInt8.ofNat x).toNat:Int)=(x:Int):=by simp;omega
 have ho:=OwnB.one w (UInt8.ofNat x) 24;rw [hx8] at ho;have b1:=(Below.refl w.heap.size w).alloc (Nat.le_refl _) (.cells #[.int .u8 (x:Int)] 24);have b2:=(Below.refl _ (w.alloc (.cells #[.int .u8 (x:Int)] 24))).alloc (Nat.le_refl _) (.cells #[.int .u64 0,.slice (some ⟨w.heap.size,0,none⟩) 1 1] 124);have hr:=heap_alloc_new (w.alloc (.cells #[.int .u8 (x:Int)] 24)) (.cells #[.int .u64 0,.slice (some ⟨w.heap.size,0,none⟩) 1 1] 124);rw [World.size_alloc] at hr;exact ⟨w.heap.size+1,_,rfl,⟨hr,ho.below b2⟩,Nat.le_succ _,b1.trans (b2.mono b1.size)⟩
set_option maxHeartbeats 8000000 in
theorem top_any (base p:Nat) (v:Value) (C:ChV) (hD:0<C.D.length) (hl:C.low+C.D.length≤9223372036854775807) (w:World) (h:ChAt w base p v C) :
  Calls Tryz.prog 22 #[.pointer (some ⟨p,0,none⟩)] w fun e w'=>e=.returned (.int .u64 (C.top:Int))∧Below w.heap.size w w':=by
 obtain ⟨a,n,c,rfl⟩:=h.own.read.slice;have hn:n=C.D.length:=h.own.len;have H:=Lib.hid h;have Hlt:=Lib.hid h.lt;have hw1:IntKind.u64.wrap (n:Int)=(n:Int):=by rw [IntKind.wrap_u64];omega
 have hw2:IntKind.u64.wrap ((C.low:Int)+(n:Int))=(C.low:Int)+(n:Int):=by rw [IntKind.wrap_u64];omega
 have hw3:IntKind.u64.wrap ((C.low:Int)+(n:Int) - 1)=(C.top:Int):=by unfold ChV.top;rw [IntKind.wrap_u64];omega
 have Hn:=Lib.hid (And.intro hn (And.intro hD hl));clear hn hD hl h
 go_enter Tryz.func22,Tryz.ntmps22
 go_upto_region 3 with fail;refine (wpIn_wide (n:=1)).1 ?_;refine RegJ.wpIn_region_plan (F:=Fence.wide) (KeptW w) (.step 0 0 (.step 1 0 (.step 2 0 (.step 3 0 (.step 4 0 (.step 5 0 (.step 6 0 (.step 7 0 (.step 8 0 (.step 9 0 (.step 10 0 (.step 11 0 (.step 12 0 .nil))))))))))))) (by kernel_rfl) (by kernel_rfl) (by kernel_rfl) (fun _ _ d _ _ h=>by cases d <;> exact h) ⟨rfl,rfl,rfl,Nat.le_refl _,fun _ _=>rfl⟩ ?_;dsimp only [RegJ.pickJ,List.getElem?_cons_zero,List.getElem?_cons_succ];change RegJ.Can _ _ _ _ _ _ _ _ w.drew;have hkd:KeptW w w.drew:=⟨rfl,rfl,rfl,Nat.le_refl _,fun _ _=>rfl⟩;generalize w.drew=v1 at *;iterate 3 (refine RegJ.reads ?_;intro K hK;go_simp;(first | refine ⟨_,fun _ _=>rfl,hK _ ?_⟩ | refine hK _ ?_);clear hK K)
 refine RegJ.reads ?_;intro K hK;go_simp;refine ⟨.int .u64 (C.low:Int),fun y hy=>?_,hK _ ?_⟩
 ·
  have f0:y.cell? ⟨p,0,none⟩=some (.int .u64 (C.low:Int)):=cell_of_row _ _ _ _ _ _ (((KeptW.bel hy).block p Hlt.out).trans H.out.row);go_simp
 clear hK K;iterate 3 (refine RegJ.reads ?_;intro K hK;go_simp;(first | refine ⟨_,fun _ _=>rfl,hK _ ?_⟩ | refine hK _ ?_);clear hK K)
 refine RegJ.reads ?_;intro K hK;go_simp;refine ⟨.slice a n c,fun y hy=>?_,hK _ ?_⟩
 ·
  have f0:y.cell? ⟨p,1,none⟩=some (.slice a n c):=cell_of_row _ _ _ _ _ _ (((KeptW.bel hy).block p Hlt.out).trans H.out.row);go_simp
 clear hK K;iterate 5 (refine RegJ.reads ?_;intro K hK;go_simp;(first | refine ⟨_,fun _ _=>rfl,hK _ ?_⟩ | refine hK _ ?_);clear hK K)
 refine RegJ.nil ?_;go_wp2_with fail;go_ret;exact ⟨rfl,KeptW.bel hkd⟩
theorem ChAt.thawed {w:World} {base p:Nat} {v:Value} {C:ChV} (h:ChAt w base p v C) (j:Nat):w.frozen? ⟨p,j,none⟩=false:=by
 unfold World.frozen?;rw [h.row];rfl
theorem ChAt.ne {w:World} {base p:Nat} {v:Value} {C:ChV} (h:ChAt w base p v C):∀ k,v.ownBlock=some k→k≠p:=by
 rintro k hk rfl;rcases h.own.2 with ⟨rfl,_⟩ | ⟨g,cap,cur,rfl,_,hg,_⟩
 ·
  cases hk
 ·
  have e:g=k:=Option.some.inj hk;subst e;rw [h.row] at hg;simp at hg
theorem OwnB.setNe {w:World} {base p i:Nat} {t:TypeId} {v x:Value} {l:List UInt8} (h:OwnB w base t v l) (hne:∀ k,v.ownBlock=some k→k≠p):OwnB (w.setCell ⟨p,i,none⟩ x) base t v l:=by
 unfold OwnB at *
 obtain ⟨h1,h2⟩:=h;refine ⟨h1,?_⟩;rcases h2 with h2 | ⟨q,cap,cur,e,h3,hq,h4⟩
 ·
  exact .inl h2
 ·
  exact .inr ⟨q,cap,cur,e,h3,(Below.heap_setCell _ _ _ _ (by subst e;exact hne q rfl)).trans hq,h4⟩
theorem own_ne {w:World} {base p:Nat} {v:Value} {l:List UInt8} {cs:Array Value} (ho:OwnB w base 24 v l) (hr:w.heap[p]?=some (.cells cs 124 (0,0))):∀ k,v.ownBlock=some k→k≠p:=by
 rintro k hk rfl;rcases ho.2 with ⟨rfl,_⟩ | ⟨g,cap,cur,rfl,_,hg,_⟩
 ·
  cases hk
 ·
  have e:g=k:=Option.some.inj hk;subst e;rw [hr] at hg;simp at hg
theorem grown_row {w w1 w':World} {base p:Nat} {v:Value} {C:ChV} (h:ChAt w base p v C) (hb:Below w.heap.size w w1) (hg:w1.grownBy w' v.ownBlock):w'.heap[p]?=some (.cells #[.int .u64 (C.low:Int),v] 124 (0,0)) :=
 (hg.block p (Nat.lt_of_lt_of_le h.lt hb.size) (fun e=>h.ne p e.symm rfl)).trans ((hb.block p h.lt).trans h.row)
theorem thawed_row {w:World} {p:Nat} {cs:Array Value} {t:TypeId} (j:Nat) (h:w.heap[p]?=some (.cells cs t (0,0))):w.frozen? ⟨p,j,none⟩=false:=by
 unfold World.frozen?;rw [h];rfl
theorem ReadB.get {w:World} {v:Value} {l:List UInt8} (h:ReadB w v l) {j:Nat} (hj:j<l.length):∃ b o c,v=.slice (some ⟨b,o,none⟩) l.length c∧∀ y:World,Below w.heap.size w y→y.cell? ⟨b,o+j,none⟩=some (.int .u8 (l[j].toNat:Int)):=by
 obtain ⟨a,cap,e,h0,h2⟩:=h.out;obtain ⟨b,o,rfl,hb,hc⟩:=h2 j _ (bcells_get hj);exact ⟨b,o,cap,e,fun y hy=>(hy.cell (p:=⟨b,o+j,none⟩) hb).trans hc⟩
theorem infoSet:(Tryz.prog.info? 24).map (fun i=>(i.zero,i.size,i.bytes))=some (some (.int .u8 0),1,1):=by kernel_rfl
set_option maxHeartbeats 8000000 in
theorem chpush_any (base p:Nat) (v:Value) (C:ChV) (x:Nat) (hx:x<256) (hok:dirOk (UInt8.ofNat x)=true) (hD:0<C.D.length) (hl:C.low+C.D.length≤4611686018427387904) (hsz:C.D.length≤1000000) (w:World) (hbs:base≤w.heap.size) (h:ChAt w base p v C) :
  Calls Tryz.prog 14 #[.pointer (some ⟨p,0,none⟩),.int .u8 (x:Int)] w fun e w'=>∃ v',e=.returned (.int .i64 0)∧ChAt w' base p v' (C.push (UInt8.ofNat x))∧Off (p::v.ownBlock.toList) w.heap.size w w':=by
 obtain ⟨i0,hi0,hz0,hs0,hb0⟩:=info_parts infoSet;have H:=Lib.hid h;have H0:=Lib.hid h;have hd:=fun y:World=>directory_any x hx y
 rw [hok] at hd;have Hd:=Lib.hid hd;clear hd
 have Htop:=Lib.hid (top_any base p v C hD (by omega) w h);have ht:C.top<4611686018427387904:=by unfold ChV.top;omega
 have ht':((4611686018427387904:Int)≤(C.top:Int))=False:=by rw [eq_iff_iff,iff_false];omega
 clear ht;have hone:=fun y:World=>ReadB.one y (UInt8.ofNat x) 24
 have hx8:((UInt8.ofNat x).toNat:Int)=(x:Int):=by simp;omega
 rw [hx8] at hone;have Hone:=Lib.hid hone;clear hone hx8
 have f1:=h.cells.2;have e1:=h.thawed 1;have Hsz:=Lib.hid (And.intro hsz hbs);clear h hok hl hD hsz hbs;generalize C.top=T at *;go_enter Tryz.func14,Tryz.ntmps14
 go_wp2_with (first
  | ((with_reducible refine (Hd.out _).mono ?_);rintro e w2 ⟨rfl,rfl⟩)
  | ((with_reducible refine Htop.out.mono ?_);rintro e w3 ⟨rfl,h3⟩;have H3:=Lib.hid (And.intro h3 (H.out.below h3));clear h3 f1 e1;have f1:=H3.out.2.cells.2;have e1:=H3.out.2.thawed 1)
  | (at_builtin;refine wpList_append_read rfl _ _ 122 rfl base 24 i0 (.int .u8 0) Tryz.underlying122 hi0 hz0 hs0 hb0 rfl _ _ _ rfl (World.ownsRow.alloc H3.out.2.own _) _ _ rfl (Hone.out _) (by simp;have:=Hsz.out;omega) (by simp;have:=H3.out.1.size;have:=Hsz.out;omega) ?_;intro v4 w4 ho4 hg4;have ho5:=OwnB.of (l:=C.D) (k:=[UInt8.ofNat x]) ho4 rfl rfl;clear ho4;obtain ⟨a4,n4,c4,rfl⟩:=ho5.read.slice;have hr4:=grown_row H3.out.2 ((Below.refl _ w3).alloc (Nat.le_refl _) _) hg4;clear f1 e1;have f1:=cell_of_row _ _ 1 _ _ _ hr4;have e1:=thawed_row 1 hr4;have H4:=Lib.hid (And.intro hr4 (And.intro ho5 hg4));clear hr4 ho5 hg4))
 go_ret;obtain ⟨hr4,ho4,hg4⟩:=H4.out;have hp:p<w.heap.size:=H0.out.lt;refine ⟨_,rfl,⟨?_,OwnB.setNe ho4 (own_ne ho4 hr4)⟩,?_⟩
 ·
  rw [heap_setCell_same _ _ _ _ _ _ hr4];rfl
 ·
  have hb3:=((H3.out.1.mono (Nat.le_refl _)).alloc (H3.out.1.size) (.cells #[.int .u8 (x:Int)] 24));refine ⟨?_,?_,?_,?_,fun k hk hl=>?_⟩
  ·
   exact (Only.set p 1 w4 (.slice a4 n4 c4)).os.trans (hg4.os.trans hb3.os)
  ·
   exact hg4.tape.trans hb3.tape
  ·
   exact hg4.output.trans hb3.output
  ·
   exact Nat.le_trans (Nat.le_trans hb3.size hg4.size) (by simp)
  ·
   simp only [List.mem_cons,Option.mem_toList,not_or] at hl;refine (Below.heap_setCell _ _ _ _ (by exact hl.1)).trans ((hg4.block k (Nat.lt_of_lt_of_le hk hb3.size) (fun e=>hl.2 e.symm)).trans (hb3.block k hk))
end Go.Proofs.YtbckjgageofldaaGreat
