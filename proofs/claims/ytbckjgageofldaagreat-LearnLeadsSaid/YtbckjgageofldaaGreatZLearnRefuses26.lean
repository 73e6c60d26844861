/- Chains: the document's chains: Top, Push. Condition: the chain lies there. -/
import Derived.Test.YtbckjgageofldaaGreatZLearnRefuses24
import Derived.Test.YtbckjgageofldaaGreatZLearnRefuses21
import Derived.Test.YtbckjgageofldaaGreatZLearnRefuses22
import Derived.Test.YtbckjgageofldaaGreatZLearnRefuses8
import Derived.Test.YtbckjgageofldaaGreatZLearnRefuses2
import Derived.Test.YtbckjgageofldaaGreatZLearnRefuses20
import Derived.Test.YtbckjgageofldaaGreatZLearnRefuses25
import Derived.Test.YtbckjgageofldaaGreatZLearnRefuses15
import Derived.Laws.CopyOwn
import Derived.OwnWalk
set_option maxRecDepth 100000
set_option maxHeartbeats 16000000
namespace Go.Proofs.YtbckjgageofldaaGreat
open Go.RowKit
def enc1 (b:UInt8):List Value:=[.int .u8 (b.toNat:Int)]
theorem enc1_len (b:UInt8):(enc1 b).length=1:=rfl
theorem enc1_one (b:UInt8):∀ u ∈ enc1 b,u.oneCell'=true:=by simp [enc1,Value.oneCell']
theorem flat1:∀ l:List UInt8,flat enc1 l=bcells l
 | []=>rfl
 | b::r=>by
  have h:=flat1 r;unfold flat bcells at *
  rw [List.flatMap_cons,h];rfl
theorem own_slice1 {w:World} {base:Nat} {t:TypeId} {A:Option Addr} {n c:Nat} {l:List UInt8} (h:OwnB w base t (.slice A n c) l) (hm:n≤maxLen):SliceAt 1 enc1 w A n l∧(A=none→n=0∧c=0):=by
 have hn:=h.len;subst hn;have h2:w.ownsRow base t 1 (.slice A l.length c) l.length (flat enc1 l):=by rw [flat1];exact h
 exact ⟨own_slice enc1_len h2 rfl hm,own_nil h2⟩
theorem rc_size:(Tryz.prog.info? 46).map (·.size)=some 2:=by kernel_rfl
set_option maxHeartbeats 4000000 in
theorem rtop_any (D:List UInt8) (v:Value) (hD:0<D.length) (hl:D.length≤1000000) (base:Nat) (w:World) (h:OwnB w base 5 v D) :
  Calls Tryz.prog 59 #[.agg #[.int .u64 0,v]] w fun e w'=>e=.returned (.int .u64 ((D.length - 1:Nat):Int))∧Below w.heap.size w w':=by
 obtain ⟨a,n,c,rfl⟩:=h.read.slice;have hn:=h.len;have hb1:=(Below.refl w.heap.size w).alloc (Nat.le_refl _) (.cells #[.int .u64 0,.slice a n c] 46);have hw1:IntKind.u64.wrap (n:Int)=(n:Int):=by rw [IntKind.wrap_u64];omega
 have hw3:IntKind.u64.wrap ((n:Int) - 1)=((D.length - 1:Nat):Int):=by rw [IntKind.wrap_u64];omega
 have Hb1:=Lib.hid hb1;clear hb1 hn hD hl h;go_enter Tryz.func59,Tryz.ntmps59
 go_wp2_with fail;go_ret;exact ⟨rfl,Hb1.out⟩
structure PuC (w:World) (g:Nat) (v:Value) (y:World):Prop where
 bel:Below w.heap.size w y
 row:y.heap[g]?=some (.cells #[.int .u64 0,v] 46 (0,0))
 res:∃ p q,y.heap[g+1]?=some (.cells #[p,q] 46 (0,0))
theorem PuC.below {w y y':World} {g:Nat} {v:Value} (h:PuC w g v y) (hb:Below y.heap.size y y'):PuC w g v y' :=
 ⟨h.bel.trans (hb.mono h.bel.size),(hb.block _ (Array.getElem?_eq_some_iff.1 h.row).1).trans h.row,by obtain ⟨p,q,e⟩:=h.res;exact ⟨p,q,(hb.block _ (Array.getElem?_eq_some_iff.1 e).1).trans e⟩⟩
theorem own_ne1 {w:World} {base p:Nat} {v:Value} {l:List UInt8} {cs:Array Value} (ho:OwnB w base 5 v l) (hr:w.heap[p]?=some (.cells cs 46 (0,0))):∀ k,v.ownBlock=some k→k≠p:=by
 rintro k hk rfl;rcases ho.2 with ⟨rfl,_⟩ | ⟨g,cap,cur,rfl,_,hg,_⟩
 ·
  cases hk
 ·
  have e:g=k:=Option.some.inj hk;subst e;rw [hr] at hg;simp at hg
theorem rpush_any (D:List UInt8) (v:Value) (x:Nat) (hx:x<256) (hok:dirOk (UInt8.ofNat x)=true) (hD:0<D.length) (hl:D.length≤1000000) (base:Nat) (w:World) (h:OwnB w base 5 v D) :
  Calls Tryz.prog 47 #[.agg #[.int .u64 0,v],.int .u8 (x:Int)] w fun e w'=>∃ v',e=.returned (.tuple #[.agg #[.int .u64 0,v'],.int .i64 0])∧OwnB w' w.heap.size 5 v' (D++[UInt8.ofNat x])∧Below w.heap.size w w':=by
 obtain ⟨i0,hi0,hz0,hs0,hb0⟩:=info_parts info8;have hd:=fun y:World=>rdir_any x hx y
 rw [hok] at hd;have ht:=fun (y:World) (hy:Below w.heap.size w y)=>rtop_any D v hD hl base y (h.below hy)
 obtain ⟨a,n,c,rfl⟩:=h.read.slice;have hn:=h.len;have hone:=fun y:World=>OwnB.one y (UInt8.ofNat x) 5
 have hx8:((UInt8.ofNat x).toNat:Int)=(x:Int):=by simp;omega
 rw [hx8] at hone;have Hone:=Lib.hid hone;have Hv:=Lib.hid h;have Hd:=Lib.hid hd;have Ht:=Lib.hid ht;have hge:((4611686018427387904:Int)≤((D.length - 1:Nat):Int))=False:=by rw [eq_iff_iff,iff_false];omega
 have hnl:n≤1000000:=by omega
 have Hn:=Lib.hid (And.intro hn hnl);clear hone hx8 hd ht hn hD hl h hnl hok;generalize hT:D.length - 1=T at *
 clear hT;obtain ⟨g,hg⟩:∃ g,w.heap.size=g:=⟨_,rfl⟩;have hb1:=(Below.refl w.heap.size w).alloc (Nat.le_refl _) (.cells #[.int .u64 0,.slice a n c] 46);have hb2:=hb1.alloc hb1.size (.cells #[.int .u64 0,.slice none 0 0] 46);have hr1:=heap_alloc_new w (.cells #[.int .u64 0,.slice a n c] 46);have hr2:=heap_alloc_new (w.alloc (.cells #[.int .u64 0,.slice a n c] 46)) (.cells #[.int .u64 0,.slice none 0 0] 46);have hr1b:=(((Below.refl (w.heap.size+1) (w.alloc (.cells #[.int .u64 0,.slice a n c] 46))).alloc (by simp) (.cells #[.int .u64 0,.slice none 0 0] 46)).block w.heap.size (by omega)).trans hr1;rw [World.size_alloc] at hr2;have hc0:PuC w w.heap.size (.slice a n c) ((w.alloc (.cells #[.int .u64 0,.slice a n c] 46)).alloc (.cells #[.int .u64 0,.slice none 0 0] 46)):=⟨hb2,hr1b,⟨_,_,hr2⟩⟩;rw [hg] at hc0;have Hc0:=Lib.hid hc0;clear hb1 hb2 hr1 hr2 hr1b hc0;go_enter Tryz.func47,Tryz.ntmps47
 go_upto_region 1 with fail;change Code.wp _ _ _ _ ((w.alloc (.cells #[.int .u64 0,.slice a n c] 46)).alloc (.cells #[.int .u64 0,.slice none 0 0] 46));generalize (w.alloc (.cells #[.int .u64 0,.slice a n c] 46)).alloc (.cells #[.int .u64 0,.slice none 0 0] 46)=w1 at *;have Hg:=Lib.hid hg;have f0:=cell_of_row _ _ 0 _ _ _ Hc0.out.row;have f1:=cell_of_row _ _ 1 _ _ _ Hc0.out.row;go_upto_region 5 with (first
  | ((with_reducible refine (Hd.out _).mono ?_);rintro e w2 ⟨rfl,rfl⟩)
  | ((with_reducible refine (Ht.out _ Hc0.out.bel).mono ?_);rintro e w3 ⟨rfl,h3⟩;have H3:=Lib.hid h3;clear h3))
 have Hc3:=Lib.hid (Hc0.out.below H3.out);clear f0 f1 H3 Hc0 hg;refine (wpIn_wide (n:=1)).1 ?_;refine RegJ.wpIn_region_plan (F:=Fence.wide) (PuC w g (.slice a n c)) (.step 0 0 (.step 1 0 (.step 2 0 (.step 3 0 (.step 5 0 (.fork 4 (.step 6 1 (.step 7 1 (.step 8 0 (.step 9 1 (.step 10 0 .nil))))) 6 (.step 4 1 (.step 7 1 (.step 8 0 (.step 9 1 (.step 10 0 .nil))))))))))) (by kernel_rfl) (by kernel_rfl) (by kernel_rfl) (fun _ _ d _ _ h=>by cases d <;> exact h) (Hc3.out.below ⟨rfl,rfl,rfl,Nat.le_refl _,fun _ _=>rfl⟩) ?_;dsimp only [RegJ.pickJ,List.getElem?_cons_zero,List.getElem?_cons_succ];change RegJ.Can _ _ _ _ _ _ _ _ w3.drew;have hkd:PuC w g (.slice a n c) w3.drew:=Hc3.out.below ⟨rfl,rfl,rfl,Nat.le_refl _,fun _ _=>rfl⟩;generalize w3.drew=w4 at *;refine RegJ.reads ?_;intro K hK;go_simp;refine ⟨_,fun _ _=>rfl,hK _ ?_⟩;clear hK K;refine RegJ.reads ?_;intro K hK;go_simp;refine ⟨.int .u64 0,fun y hy=>?_,hK _ ?_⟩
 ·
  have f0:=cell_of_row _ _ 0 _ _ _ hy.row;go_simp
 clear hK K;refine RegJ.reads ?_;intro K hK;go_simp;refine ⟨_,fun _ _=>rfl,hK _ ?_⟩;clear hK K;refine RegJ.reads ?_;intro K hK;go_simp;refine ⟨.slice a n c,fun y hy=>?_,hK _ ?_⟩
 ·
  have f0:=cell_of_row _ _ 1 _ _ _ hy.row;go_simp
 clear hK K;refine RegJ.reads ?_;intro K hK;go_simp;refine ⟨_,fun _ _=>rfl,hK _ ?_⟩;clear hK K;refine RegJ.forks ?_ ?_
 ·
  skip
  refine RegJ.turns (fun _=>trivial) ?_;intro K K0 hK hK0;rw [if_pos (by simp [Region.wanted])];refine RegK.op_wide rfl ?_;obtain ⟨hsl,hnil⟩:=own_slice1 (Hv.out.below hkd.bel) (by unfold maxLen;have:=Hn.out.2;omega);refine wp_append_slice (k:=1) (enc:=enc1) _ _ 44 rfl w.heap.size 5 i0 _ 1 Tryz.underlying44 hi0 hz0 hs0 hb0 rfl (by omega) enc1_len enc1_one (.slice none 0 0) 0 [] rfl (World.ownsRow_nil _ _ _ _) a n c D rfl hsl hnil (by unfold maxLen;have:=Hn.out.2;omega) (by have:=Hn.out.2;omega) hkd.bel.size ?_;intro v5 w5 ho5 hg5;have hb5:Below w4.heap.size w4 w5:=⟨hg5.os,hg5.tape,hg5.output,hg5.size,fun q hq=>hg5.block q hq (fun e=>by cases e)⟩;have hk5:=hkd.below hb5;refine hK _ _ _ (fun _ h=>h) hk5 ?_;clear hK K hK0 K0 hg5 hsl hnil;rw [Nat.zero_add,List.nil_append] at ho5;refine RegJ.turns (fun _=>trivial) ?_;intro K K0 hK hK0;go_simp;have hb6:=(Below.refl w5.heap.size w5).alloc (Nat.le_refl _) (.cells #[.int .u8 (x:Int)] 5);have qk:=hk5.below hb6;have qn:=Hone.out w5;have hq6:=qn;have ho6:=(show w5.ownsRow w.heap.size 5 1 v5 n (flat enc1 D) from ho5).alloc (.cells #[.int .u8 (x:Int)] 5);have hk6:=qk;refine hK _ _ (w5.alloc (.cells #[.int .u8 (x:Int)] 5)) (fun _ h=>h) qk ?_;clear hK K hK0 K0;generalize w5.alloc (.cells #[.int .u8 (x:Int)] 5)=w6 at *
  generalize w5.heap.size=g5 at *;obtain ⟨hs6,hn6⟩:=own_slice1 hq6 (by unfold maxLen;omega);refine RegJ.turns (fun _=>trivial) ?_;intro K K0 hK hK0;rw [if_pos (by simp [Region.wanted])];refine RegK.op_wide rfl ?_;refine wp_append_slice (k:=1) (enc:=enc1) _ _ 44 rfl w.heap.size 5 i0 _ 1 Tryz.underlying44 hi0 hz0 hs0 hb0 rfl (by omega) enc1_len enc1_one v5 n (flat enc1 D) rfl ho6 (some ⟨g5,0,none⟩) 1 1 [UInt8.ofNat x] rfl hs6 hn6 (by unfold maxLen;have:=Hn.out.2;omega) (by have:=Hn.out.2;omega) hk6.bel.size ?_;intro v7 w7 ho7 hg7;have hv5:∀ q,v5.ownBlock=some q→g≤q:=fun q hq=>by have:=(World.ownsRow.lt ho6 q hq).1;rw [Hg.out] at this;exact this
  have hk7:Below w.heap.size w w7:=hk6.bel.trans ⟨hg7.os,hg7.tape,hg7.output,hg7.size,fun q hq=>hg7.block q (Nat.lt_of_lt_of_le hq hk6.bel.size) (fun e=>by have:=hv5 q e.symm;rw [Hg.out] at hq;omega)⟩;have hne:∀ q,v5.ownBlock=some q→q≠g∧q≠g+1:=fun q hq=>by
   rcases ho6.2 with ⟨e1,_⟩ | ⟨q1,c1,u1,e1,_,hh,_⟩
   ·
    rw [e1] at hq;cases hq
   ·
    rw [e1] at hq;have e2:q1=q:=Option.some.inj hq;subst e2;refine ⟨fun e=>?_,fun e=>?_⟩
    ·
     subst e;rw [hk6.row] at hh;simp at hh
    ·
     subst e;obtain ⟨_,_,he⟩:=hk6.res;rw [he] at hh;simp at hh
  have hk8:PuC w g (.slice a n c) w7:=⟨hk7,(hg7.block g (Array.getElem?_eq_some_iff.1 hk6.row).1 (fun e=>(hne g e.symm).1 rfl)).trans hk6.row,by obtain ⟨p,q,e⟩:=hk6.res;exact ⟨p,q,(hg7.block (g+1) (Array.getElem?_eq_some_iff.1 e).1 (fun e=>(hne (g+1) e.symm).2 rfl)).trans e⟩⟩;refine hK _ _ _ (fun _ h=>h) hk8 ?_;clear hK K hK0 K0;have ho8:OwnB w7 w.heap.size 5 v7 (D++[UInt8.ofNat x]):=OwnB.of ho7 (by have:=Hn.out.1;simp;omega) (by rw [flat1,flat1]);obtain ⟨a7,n7,c7,rfl⟩:=ho8.read.slice;have HF:=Lib.hid (And.intro ho8 hk8);clear ho7 ho8 hk7 hk8 hg7 hv5 hne hk6 ho6 hs6 hn6 hq6;refine RegJ.reads ?_;intro K hK;go_simp;refine ⟨_,fun _ _=>rfl,hK _ ?_⟩;clear hK K;obtain ⟨p,q,hres⟩:=HF.out.2.res;have f0:=cell_of_row _ _ 0 _ _ _ hres;have f1:=cell_of_row _ _ 1 _ _ _ hres;have e0:=thawed_row 0 hres;have e1:=thawed_row 1 hres;have hz:=rowSt_row [.int .u64 0,.slice a7 n7 c7] [] [p,q] w7 hres rfl;have hb9:=rowSt_below (w0:=w) (n:=w.heap.size) (g:=g+1) (by rw [Hg.out];omega) [.int .u64 0,.slice a7 n7 c7] 0 _ HF.out.2.bel;have ho9:OwnB (rowSt w7 (g+1) 0 [.int .u64 0,.slice a7 n7 c7]) w.heap.size 5 (.slice a7 n7 c7) (D++[UInt8.ofNat x]):=(HF.out.1.setNe (own_ne1 HF.out.1 hres)).setNe (own_ne1 HF.out.1 hres);have hr9:=(rowSt_other (g:=g+1) (y:=w7) (show g≠g+1 by omega) [.int .u64 0,.slice a7 n7 c7] 0).trans HF.out.2.row;have HZ:=Lib.hid hz;have HE:=Lib.hid (And.intro hb9 (And.intro ho9 hr9));clear hz hb9 ho9 hr9 hres;refine RegJ.turns (fun _=>trivial) ?_;intro K K0 hK hK0;go_simp;refine hK (PuC w g (.slice a n c)) _ (rowSt w7 (g+1) 0 [.int .u64 0,.slice a7 n7 c7]) (fun _ h=>h) ⟨HE.out.1,HE.out.2.2,⟨_,_,HZ.out⟩⟩ ?_;clear hK K hK0 K0 f0 f1 e0 e1;generalize rowSt w7 (g+1) 0 [.int .u64 0,.slice a7 n7 c7]=w9 at *;refine RegJ.reads ?_;intro K hK;go_simp;refine ⟨_,fun _ _=>rfl,hK _ ?_⟩;clear hK K;refine RegJ.nil ?_;go_wp2_with fail;refine bodyPost_ret (v:=.tuple #[.agg #[.int .u64 0,.slice a7 n7 c7],.int .i64 0]) (by simp [results,Tryz.results47,show (asAddr (Value.pointer (some ⟨g+1,0,none⟩))).run Tryz.prog w9=.ok ⟨g+1,0,none⟩ w9 from rfl,row2_loadVar HZ.out]) rfl ?_;exact ⟨_,rfl,HE.out.2.1,HE.out.1⟩
 ·
  skip
  refine RegJ.turns (fun _=>trivial) ?_;intro K K0 hK hK0;go_simp;have hb6:=(Below.refl w4.heap.size w4).alloc (Nat.le_refl _) (.cells #[.int .u8 (x:Int)] 5);have qk:=hkd.below hb6;have qn:=Hone.out w4;refine hK _ _ (w4.alloc (.cells #[.int .u8 (x:Int)] 5)) (fun _ h=>h) qk ?_;clear hK K hK0 K0;generalize w4.alloc (.cells #[.int .u8 (x:Int)] 5)=wq at *
  generalize w4.heap.size=g5 at *;refine RegJ.turns (fun _=>trivial) ?_;intro K K0 hK hK0;rw [if_pos (by simp [Region.wanted])];refine RegK.op_wide rfl ?_;obtain ⟨hsl,hnil⟩:=own_slice1 (Hv.out.below qk.bel) (by unfold maxLen;have:=Hn.out.2;omega);refine wp_append_slice (k:=1) (enc:=enc1) _ _ 44 rfl w.heap.size 5 i0 _ 1 Tryz.underlying44 hi0 hz0 hs0 hb0 rfl (by omega) enc1_len enc1_one (.slice none 0 0) 0 [] rfl (World.ownsRow_nil _ _ _ _) a n c D rfl hsl hnil (by unfold maxLen;have:=Hn.out.2;omega) (by have:=Hn.out.2;omega) qk.bel.size ?_;intro v5 w6 ho5 hg5;have hb5:Below wq.heap.size wq w6:=⟨hg5.os,hg5.tape,hg5.output,hg5.size,fun q hq=>hg5.block q hq (fun e=>by cases e)⟩;have hk5:=qk.below hb5;refine hK _ _ _ (fun _ h=>h) hk5 ?_;clear hK K hK0 K0 hg5 hsl hnil;rw [Nat.zero_add,List.nil_append] at ho5;have hq6:=qn.below hb5;have ho6:=ho5;have hk6:=hk5;obtain ⟨hs6,hn6⟩:=own_slice1 hq6 (by unfold maxLen;omega);refine RegJ.turns (fun _=>trivial) ?_;intro K K0 hK hK0;rw [if_pos (by simp [Region.wanted])];refine RegK.op_wide rfl ?_;refine wp_append_slice (k:=1) (enc:=enc1) _ _ 44 rfl w.heap.size 5 i0 _ 1 Tryz.underlying44 hi0 hz0 hs0 hb0 rfl (by omega) enc1_len enc1_one v5 n (flat enc1 D) rfl ho6 (some ⟨g5,0,none⟩) 1 1 [UInt8.ofNat x] rfl hs6 hn6 (by unfold maxLen;have:=Hn.out.2;omega) (by have:=Hn.out.2;omega) hk6.bel.size ?_;intro v7 w7 ho7 hg7;have hv5:∀ q,v5.ownBlock=some q→g≤q:=fun q hq=>by have:=(World.ownsRow.lt ho6 q hq).1;rw [Hg.out] at this;exact this
  have hk7:Below w.heap.size w w7:=hk6.bel.trans ⟨hg7.os,hg7.tape,hg7.output,hg7.size,fun q hq=>hg7.block q (Nat.lt_of_lt_of_le hq hk6.bel.size) (fun e=>by have:=hv5 q e.symm;rw [Hg.out] at hq;omega)⟩;have hne:∀ q,v5.ownBlock=some q→q≠g∧q≠g+1:=fun q hq=>by
   rcases ho6.2 with ⟨e1,_⟩ | ⟨q1,c1,u1,e1,_,hh,_⟩
   ·
    rw [e1] at hq;cases hq
   ·
    rw [e1] at hq;have e2:q1=q:=Option.some.inj hq;subst e2;refine ⟨fun e=>?_,fun e=>?_⟩
    ·
     subst e;rw [hk6.row] at hh;simp at hh
    ·
     subst e;obtain ⟨_,_,he⟩:=hk6.res;rw [he] at hh;simp at hh
  have hk8:PuC w g (.slice a n c) w7:=⟨hk7,(hg7.block g (Array.getElem?_eq_some_iff.1 hk6.row).1 (fun e=>(hne g e.symm).1 rfl)).trans hk6.row,by obtain ⟨p,q,e⟩:=hk6.res;exact ⟨p,q,(hg7.block (g+1) (Array.getElem?_eq_some_iff.1 e).1 (fun e=>(hne (g+1) e.symm).2 rfl)).trans e⟩⟩;refine hK _ _ _ (fun _ h=>h) hk8 ?_;clear hK K hK0 K0;have ho8:OwnB w7 w.heap.size 5 v7 (D++[UInt8.ofNat x]):=OwnB.of ho7 (by have:=Hn.out.1;simp;omega) (by rw [flat1,flat1]);obtain ⟨a7,n7,c7,rfl⟩:=ho8.read.slice;have HF:=Lib.hid (And.intro ho8 hk8);clear ho7 ho8 hk7 hk8 hg7 hv5 hne hk6 ho6 hs6 hn6 hq6;refine RegJ.reads ?_;intro K hK;go_simp;refine ⟨_,fun _ _=>rfl,hK _ ?_⟩;clear hK K;obtain ⟨p,q,hres⟩:=HF.out.2.res;have f0:=cell_of_row _ _ 0 _ _ _ hres;have f1:=cell_of_row _ _ 1 _ _ _ hres;have e0:=thawed_row 0 hres;have e1:=thawed_row 1 hres;have hz:=rowSt_row [.int .u64 0,.slice a7 n7 c7] [] [p,q] w7 hres rfl;have hb9:=rowSt_below (w0:=w) (n:=w.heap.size) (g:=g+1) (by rw [Hg.out];omega) [.int .u64 0,.slice a7 n7 c7] 0 _ HF.out.2.bel;have ho9:OwnB (rowSt w7 (g+1) 0 [.int .u64 0,.slice a7 n7 c7]) w.heap.size 5 (.slice a7 n7 c7) (D++[UInt8.ofNat x]):=(HF.out.1.setNe (own_ne1 HF.out.1 hres)).setNe (own_ne1 HF.out.1 hres);have hr9:=(rowSt_other (g:=g+1) (y:=w7) (show g≠g+1 by omega) [.int .u64 0,.slice a7 n7 c7] 0).trans HF.out.2.row;have HZ:=Lib.hid hz;have HE:=Lib.hid (And.intro hb9 (And.intro ho9 hr9));clear hz hb9 ho9 hr9 hres;refine RegJ.turns (fun _=>trivial) ?_;intro K K0 hK hK0;go_simp;refine hK (PuC w g (.slice a n c)) _ (rowSt w7 (g+1) 0 [.int .u64 0,.slice a7 n7 c7]) (fun _ h=>h) ⟨HE.out.1,HE.out.2.2,⟨_,_,HZ.out⟩⟩ ?_;clear hK K hK0 K0 f0 f1 e0 e1;generalize rowSt w7 (g+1) 0 [.int .u64 0,.slice a7 n7 c7]=w9 at *;refine RegJ.reads ?_;intro K hK;go_simp;refine ⟨_,fun _ _=>rfl,hK _ ?_⟩;clear hK K;refine RegJ.nil ?_;go_wp2_with fail;refine bodyPost_ret (v:=.tuple #[.agg #[.int .u64 0,.slice a7 n7 c7],.int .i64 0]) (by simp [results,Tryz.results47,show (asAddr (Value.pointer (some ⟨g+1,0,none⟩))).run Tryz.prog w9=.ok ⟨g+1,0,none⟩ w9 from rfl,row2_loadVar HZ.out]) rfl ?_;exact ⟨_,rfl,HE.out.2.1,HE.out.1⟩
theorem new_parts {al fi:Nat} (h:mayS fi al=true):newM al fi=⟨al % 128,fi % 128,tabNone,.nil⟩:=by
 unfold newM;rw [if_pos h,both_self,both_self]
theorem new_none {al fi:Nat} (h:mayS fi al=false):newM al fi=macNone:=by
 unfold newM;rw [h];rfl
structure RnV where
 M:MacV
 P:Option Addr
 c:Option Addr
 r:RefM
 v:Value
def rnCells (R:RnV):List Value:=macCells R.M R.P++([.pointer R.c]++(refCells R.r++[.int .u64 0,R.v]))
def rnV (R:RnV):Value:=.agg (rnCells R).toArray
def RnAt (w:World) (g:Nat) (R:RnV):Prop:=w.heap[g]?=some (.cells (rnCells R).toArray 48 (0,0))
theorem RnAt.lt {w:World} {g:Nat} {R:RnV} (h:RnAt w g R):g<w.heap.size:=(Array.getElem?_eq_some_iff.1 h).1
theorem RnAt.below {w w':World} {g:Nat} {R:RnV} (h:RnAt w g R) (hb:Below w.heap.size w w'):RnAt w' g R:=(hb.block g h.lt).trans h
theorem rn_size (R:RnV):(Tryz.prog.info? 48).map (·.size)=some (rnCells R).length:=(by kernel_rfl:(Tryz.prog.info? 48).map (·.size)=some 22)
theorem rn_loadVar {y:World} {g:Nat} {R:RnV} (h:RnAt y g R):(loadVar 48 ⟨g,0,none⟩).run Tryz.prog y=.ok (rnV R) y :=
 run_loadVar_row y g _ _ (rnCells R).toArray (0,0) _ h Tryz.underlying48 rfl (rn_size R)
theorem slice_one (v:Value) {w:World} {base:Nat} {t:TypeId} {l:List UInt8} (h:OwnB w base t v l):v.oneCell'=true:=by
 obtain ⟨a,n,c,rfl⟩:=h.read.slice;rfl
theorem rn_one (R:RnV) (h:R.v.oneCell'=true):∀ u ∈ rnCells R,u.oneCell'=true:=by
 intro u hu;unfold rnCells at hu;simp only [List.mem_append,List.mem_cons,List.not_mem_nil,or_false] at hu;rcases hu with hu | rfl | hu | rfl | rfl
 ·
  exact mac_one _ _ u hu
 ·
  rfl
 ·
  simp [refCells] at hu;rcases hu with rfl | rfl | rfl | rfl <;> rfl
 ·
  rfl
 ·
  exact h
def rn0:RnV:=⟨macNone,none,none,refNone,.slice none 0 0⟩
structure RunI (w:World) (base:Nat) (R:RnV) (T:Tr) (p:Nat) (cv:Value) (D:List UInt8) (z:List KeptV):Prop where
 t:TreeAt w T
 tp:R.P=T.ptr
 ts:T.sh=R.M.sh
 cp:R.c=some ⟨p,0,none⟩
 ch:ChAt w base p cv ⟨0,D⟩
 ref:RefAt w R.r R.M z
 rv:OwnB w base 5 R.v D
theorem RunI.below {w w':World} {base:Nat} {R:RnV} {T:Tr} {p:Nat} {cv:Value} {D:List UInt8} {z:List KeptV} (h:RunI w base R T p cv D z) (hb:Below w.heap.size w w'):RunI w' base R T p cv D z :=
 ⟨h.t.below hb,h.tp,h.ts,h.cp,h.ch.below hb,h.ref.below hb,h.rv.below hb⟩
def runTs:List TypeId:=[195,124,24,204,179,5]
theorem RunI.sorts {w w':World} {ts:List TypeId} {base:Nat} {R:RnV} {T:Tr} {p:Nat} {cv:Value} {D:List UInt8} {z:List KeptV} (h:RunI w base R T p cv D z) (hs:Sorts ts w.heap.size w w') (ht:∀ t ∈ runTs,t ∉ ts):RunI w' base R T p cv D z :=
 ⟨TreeAt.sorts hs (ht _ (by simp [runTs])) h.t,h.tp,h.ts,h.cp,h.ch.sorts hs (ht _ (by simp [runTs])) (ht _ (by simp [runTs])),h.ref.sorts hs (ht _ (by simp [runTs])) (ht _ (by simp [runTs])),ownsRow_sorts hs h.rv (ht _ (by simp [runTs]))⟩
theorem RunI.mono {w:World} {base base':Nat} {R:RnV} {T:Tr} {p:Nat} {cv:Value} {D:List UInt8} {z:List KeptV} (h:RunI w base R T p cv D z) (hb:base'≤base):RunI w base' R T p cv D z :=
 ⟨h.t,h.tp,h.ts,h.cp,⟨h.ch.row,h.ch.own.mono hb⟩,h.ref,h.rv.mono hb⟩
theorem may_all {s all:Nat} (h:all<256):mayS s (bothS all all)=mayS s all:=by
 have key:∀ x:Fin 256,(255 - (x.val &&& x.val &&& 127)) &&& 127=(255 - x.val) &&& 127:=by decide +kernel
 have k:=key ⟨all,h⟩;simp only at k;unfold mayS withoutS bothS;rw [Nat.and_assoc s,k, ← Nat.and_assoc s]
theorem newAll {al fi:Nat} (hal:al<256) (hm:mayS fi al=true):MacAll (newM al fi):=by
 refine ⟨macFit_new al fi,by rw [new_parts hm];trivial,?_⟩;have h1:newM al fi=⟨bothS al al,bothS fi fi,tabNone,.nil⟩:=by unfold newM;rw [if_pos hm]
 rw [h1];refine sets_mk ?_ (both_idem _).symm (both_idem _).symm;show mayS (bothS fi fi) (bothS al al)=true;rw [may_both,may_all hal];exact hm
def BegPost (M:MacV) (w:World) (e:Ending) (w':World):Prop:=∃ R p cv,e=.returned (.tuple #[rnV R,.bool true])∧R.M=M∧RunI w' w.heap.size R .nil p cv [UInt8.ofNat M.mem] []∧R.r=ref0 M∧w.heap.size≤p∧Below w.heap.size w w'
theorem lbegun_is (al fi:Nat) (hal:al<256) (hfi:fi<256) (hm:mayS fi al=true) (w:World) :
  Calls Tryz.prog 8 #[.int .u8 (al:Int),.int .u8 (fi:Int)] w (BegPost (newM al fi) w):=by
 have hok:dirOk (UInt8.ofNat (fi % 128))=true:=by
  have q:=mem_ok (newAll hal hm);rw [new_parts hm] at q;exact q
 have hnew:=fun y:World=>new_any al fi hal hfi y
 rw [hm,new_parts hm] at hnew;rw [new_parts hm];simp only [if_true] at hnew;have hr0:ref0 ⟨al % 128,fi % 128,tabNone,.nil⟩=⟨none,0,0,al % 128,fi % 128,none,0,0⟩:=rfl;have hra:=fun y:World=>refAt0 ⟨al % 128,fi % 128,tabNone,.nil⟩ rfl rfl y
 obtain ⟨x1,hx1⟩:∃ x,al % 128=x:=⟨_,rfl⟩;obtain ⟨x2,hx2⟩:∃ x,fi % 128=x:=⟨_,rfl⟩;have hm1:(al:Int) % 128=(x1:Int):=by omega
 have hm2:(fi:Int) % 128=(x2:Int):=by omega
 have hx2l:x2<256:=by omega
 rw [hx1,hx2] at hnew hra hr0 ⊢;rw [hx2] at hok;clear hx1 hx2 hm;obtain ⟨M,hM⟩:∃ M:MacV,(⟨x1,x2,tabNone,.nil⟩:MacV)=M:=⟨_,rfl⟩;have hMm:M.mem=x2:=by rw [← hM]
 have hMs:M.sh=.nil:=by rw [← hM]
 rw [hM] at hnew hra hr0 ⊢;unfold macV at hnew;have Hnew:=Lib.hid hnew;have Hch:=Lib.hid (fun y:World=>chnew_any x2 hx2l hok y);have Hrn:=Lib.hid (fun y:World=>rnew_any x2 hx2l hok y);have Hmem:=Lib.hid (fun y:World=>(show Calls Tryz.prog 37 #[.agg (macCells M none).toArray] y fun e w'=>e=.returned (.int .u8 (x2:Int))∧Below y.heap.size y w' from by rw [← hMm];exact mmem_any M none y));have HM:=Lib.hid (And.intro hM (And.intro hMm hMs));have Hra:=Lib.hid (And.intro hra hr0);clear hnew hra hr0 hM hMm hMs hok hx2l;have hb1:=(Below.refl w.heap.size w).alloc (Nat.le_refl _) (.cells (rnCells rn0).toArray 48);have hm1r:RnAt (w.alloc (.cells (rnCells rn0).toArray 48)) w.heap.size rn0:=heap_alloc_new _ _;obtain ⟨g,hg⟩:∃ g,w.heap.size=g:=⟨_,rfl⟩;rw [hg] at hm1r;go_enter Tryz.func8,Tryz.ntmps8
 go_upto_region 1 with fail;change Code.wp _ _ _ _ (w.alloc (.cells (rnCells rn0).toArray 48));generalize w.alloc (.cells (rnCells rn0).toArray 48)=w1 at *;have Hr1:=Lib.hid hm1r;have Hb1:=Lib.hid hb1;have Hg:=Lib.hid hg;clear hm1r hb1 hg;go_upto_region 4 with (first
  | ((with_reducible refine (Hnew.out _).mono ?_);rintro e w2 ⟨rfl,h2⟩;have H2:=Lib.hid h2;clear h2)
  | ((with_reducible refine wpList_store_mid rfl 38 _ _ rfl w2.heap.size 0 _ rfl rfl ?_ ?_ ?_ ?_);exact th_new w2 (macCells macNone none) 38;exact mac_size;exact all_oneCell_toArray (mac_one M none)))
 change Code.wp _ _ _ _ ((w2.alloc (.cells (macCells macNone none).toArray 38)).setCells w2.heap.size 0 (macCells M none));have hb3:=box_below w2 (macCells macNone none) (macCells M none) 38;have Hm3:=Lib.hid (show MacAt _ _ M none from box_row w2 (macCells macNone none) (macCells M none) 38 rfl);have hb13:=H2.out.trans (hb3.mono H2.out.size);have Hr3:=Lib.hid (Hr1.out.below hb13);have Hb3:=Lib.hid (Hb1.out.trans (hb13.mono Hb1.out.size));have Hge3:=Lib.hid (Nat.le_trans Hb1.out.size H2.out.size);clear hb3 hb13 H2 Hr1 Hb1 Hnew;generalize (w2.alloc (.cells (macCells macNone none).toArray 38)).setCells w2.heap.size 0 (macCells M none)=w3 at *;generalize w2.heap.size=g6 at *;have Hrl:=Lib.hid (show w3.rangeAt g6 0 (macCells M none) from range_row Hm3.out);go_upto_region 6 with (first
  | (with_reducible refine wpList_load_mid rfl 38 _ rfl g6 0 rfl (macCells M none) _ Hrl.out Tryz.underlying38 rfl (mac_size2 _ _) ?_)
  | ((with_reducible refine (Hmem.out _).mono ?_);rintro e w4 ⟨rfl,h4⟩;have H4:=Lib.hid h4;clear h4)
  | ((with_reducible refine (Hch.out _).mono ?_);rintro e w5 ⟨pc,vc,rfl,hc5,hpc,h5⟩;have H5:=Lib.hid (And.intro hc5 (And.intro hpc h5));clear hc5 hpc h5))
 have e43:(#[.slice none 0 0,.int .u8 (x1:Int),.int .u8 (x2:Int),.slice none 0 0]:Array Value)=(refCells (ref0 M)).toArray:=by rw [Hra.out.2];rfl
 rw [e43];have hb56:=(Below.refl w5.heap.size w5).alloc (Nat.le_refl _) (.cells (refCells (ref0 M)).toArray 43);have Hf6:=Lib.hid (show RefRow (w5.alloc (.cells (refCells (ref0 M)).toArray 43)) w5.heap.size (ref0 M) from heap_alloc_new _ _);have hb36:=(H4.out.trans (H5.out.2.2.mono H4.out.size)).trans (hb56.mono (Nat.le_trans H4.out.size H5.out.2.2.size));have Hr6:=Lib.hid (Hr3.out.below hb36);have Hm6:=Lib.hid (Hm3.out.below hb36);have Hb6:=Lib.hid (Hb3.out.trans (hb36.mono Hb3.out.size));have Hc6:=Lib.hid (And.intro (H5.out.1.below hb56) (Nat.le_trans (Nat.le_trans Hb3.out.size H4.out.size) H5.out.2.1));have Hb34:=Lib.hid (Nat.le_trans Hb3.out.size H4.out.size);clear e43 hb56 hb36 H4 H5 Hr3 Hm3 Hb3 Hrl Hmem Hch;generalize w5.alloc (.cells (refCells (ref0 M)).toArray 43)=w6 at *;generalize w5.heap.size=g10 at *;have f2:w6.cell? ⟨g10,2,none⟩=some (.int .u8 (x2:Int)):=by rw [← HM.out.2.1];exact cell_of_row _ _ _ _ _ _ Hf6.out
 go_upto_region 7 with ((with_reducible refine (Hrn.out _).mono ?_);rintro e w7 ⟨v7,rfl,ho7,h7⟩;have H7:=Lib.hid (And.intro ho7 h7);clear ho7 h7;obtain ⟨a7,n7,c7,rfl⟩:=H7.out.1.read.slice)
 have hb78:=(Below.refl w7.heap.size w7).alloc (Nat.le_refl _) (.cells #[.int .u64 0,.slice a7 n7 c7] 46);have hr8:=heap_alloc_new w7 (.cells #[.int .u64 0,.slice a7 n7 c7] 46);have hb68:=H7.out.2.trans (hb78.mono H7.out.2.size);have Hr8:=Lib.hid (Hr6.out.below hb68);have Hm8:=Lib.hid (Hm6.out.below hb68);have Hf8:=Lib.hid (Hf6.out.below hb68);have Hb8:=Lib.hid (Hb6.out.trans (hb68.mono Hb6.out.size));have Hc8:=Lib.hid (And.intro (Hc6.out.1.below hb68) Hc6.out.2);have Ho8:=Lib.hid (H7.out.1.below hb78);have Hle8:=Lib.hid Hb6.out.size;clear hb78 hb68 H7 Hr6 Hm6 Hf6 Hb6 Hc6 Hrn f2;generalize w7.alloc (.cells #[.int .u64 0,.slice a7 n7 c7] 46)=w8 at *;generalize w7.heap.size=g11 at *;have k0:=cell_of_row _ _ 0 _ _ _ hr8;have k1:=cell_of_row _ _ 1 _ _ _ hr8;have hf8:=Hf8.out;unfold RefRow at hf8;rw [Hra.out.2,ref_eta] at hf8;have j0:=cell_of_row _ _ 0 _ _ _ hf8;have j1:=cell_of_row _ _ 1 _ _ _ hf8;have j2:=cell_of_row _ _ 2 _ _ _ hf8;have j3:=cell_of_row _ _ 3 _ _ _ hf8;clear hf8 hr8;have Hrl:=Lib.hid (show w8.rangeAt g6 0 [.int .u8 (M.all:Int),.int .u8 (M.mem:Int),.int .u32 (M.tab.a.seq.toNat:Int),.int .u8 (M.tab.a.code:Int),.string M.tab.a.text,.int .u32 (M.tab.b.seq.toNat:Int),.int .u8 (M.tab.b.code:Int),.string M.tab.b.text,.int .u32 (M.tab.c.seq.toNat:Int),.int .u8 (M.tab.c.code:Int),.string M.tab.c.text,.int .u32 (M.tab.d.seq.toNat:Int),.int .u8 (M.tab.d.code:Int),.string M.tab.d.text,.pointer none] from range_row Hm8.out);have Hth:=Lib.hid (show w8.there g 0 22 from there_row (cs:=rnCells rn0) Hr8.out);have hone:((⟨M,none,some ⟨pc,0,none⟩,ref0 M,.slice a7 n7 c7⟩:RnV).v).oneCell'=true:=rfl;have hlit:rnCells ⟨M,none,some ⟨pc,0,none⟩,ref0 M,.slice a7 n7 c7⟩=[.int .u8 (M.all:Int),.int .u8 (M.mem:Int),.int .u32 (M.tab.a.seq.toNat:Int),.int .u8 (M.tab.a.code:Int),.string M.tab.a.text,.int .u32 (M.tab.b.seq.toNat:Int),.int .u8 (M.tab.b.code:Int),.string M.tab.b.text,.int .u32 (M.tab.c.seq.toNat:Int),.int .u8 (M.tab.c.code:Int),.string M.tab.c.text,.int .u32 (M.tab.d.seq.toNat:Int),.int .u8 (M.tab.d.code:Int),.string M.tab.d.text,.pointer none,.pointer (some ⟨pc,0,none⟩),.slice none 0 0,.int .u8 (x1:Int),.int .u8 (x2:Int),.slice none 0 0,.int .u64 0,.slice a7 n7 c7]:=by
  rw [Hra.out.2];rfl
 have hon:=rn_one _ hone;rw [hlit] at hon;have Hon:=Lib.hid (And.intro hlit hon);clear hone hlit hon;go_wp2_with (first
  | ((with_reducible refine wpList_load_mid rfl 38 _ rfl g6 0 rfl [.int .u8 (M.all:Int),.int .u8 (M.mem:Int),.int .u32 (M.tab.a.seq.toNat:Int),.int .u8 (M.tab.a.code:Int),.string M.tab.a.text,.int .u32 (M.tab.b.seq.toNat:Int),.int .u8 (M.tab.b.code:Int),.string M.tab.b.text,.int .u32 (M.tab.c.seq.toNat:Int),.int .u8 (M.tab.c.code:Int),.string M.tab.c.text,.int .u32 (M.tab.d.seq.toNat:Int),.int .u8 (M.tab.d.code:Int),.string M.tab.d.text,.pointer none] _ Hrl.out Tryz.underlying38 rfl ?_ ?_);exact mac_size)
  | ((with_reducible refine wpList_store_mid rfl 48 _ _ rfl g 0 _ rfl rfl ?_ ?_ ?_ ?_);exact Hth.out;exact rn_size rn0;exact all_oneCell_toArray Hon.out.2))
 rw [st_eq, ← Hon.out.1];have hz:RnAt (rowSt w8 g 0 (rnCells ⟨M,none,some ⟨pc,0,none⟩,ref0 M,.slice a7 n7 c7⟩)) g ⟨M,none,some ⟨pc,0,none⟩,ref0 M,.slice a7 n7 c7⟩:=rowSt_row _ [] (rnCells rn0) w8 Hr8.out rfl;have hbz:=rowSt_below (Nat.le_of_eq Hg.out) (rnCells ⟨M,none,some ⟨pc,0,none⟩,ref0 M,.slice a7 n7 c7⟩) 0 _ Hb8.out;have hri:RunI w8 w.heap.size ⟨M,none,some ⟨pc,0,none⟩,ref0 M,.slice a7 n7 c7⟩ .nil pc vc [UInt8.ofNat x2] [] :=
  ⟨trivial,rfl,HM.out.2.2.symm,rfl,⟨Hc8.out.1.row,Hc8.out.1.own.mono Hb34.out⟩,Hra.out.1 w8,Ho8.out.mono Hle8.out⟩
 have hri9:=hri.sorts (sorts_row (ts:=[48]) Hr8.out (by simp) (rnCells ⟨M,none,some ⟨pc,0,none⟩,ref0 M,.slice a7 n7 c7⟩) 0) (by decide);generalize rowSt w8 g 0 (rnCells ⟨M,none,some ⟨pc,0,none⟩,ref0 M,.slice a7 n7 c7⟩)=w9 at *;refine bodyPost_ret (v:=.tuple #[rnV ⟨M,none,some ⟨pc,0,none⟩,ref0 M,.slice a7 n7 c7⟩,.bool true]) (by simp [results,Tryz.results8,show (asAddr (Value.pointer (some ⟨g,0,none⟩))).run Tryz.prog w9=.ok ⟨g,0,none⟩ w9 from rfl,rn_loadVar hz]) rfl ?_;exact ⟨_,pc,vc,rfl,rfl,by rw [HM.out.2.1];exact hri9,rfl,Hc8.out.2,hbz⟩
theorem lbegun_not (al fi:Nat) (hal:al<256) (hfi:fi<256) (hm:mayS fi al=false) (w:World) :
  Calls Tryz.prog 8 #[.int .u8 (al:Int),.int .u8 (fi:Int)] w fun e w'=>e=.returned (.tuple #[rnV rn0,.bool false])∧Below w.heap.size w w':=by
 have hnew:=fun y:World=>new_any al fi hal hfi y
 rw [hm,new_none hm] at hnew;simp only [Bool.false_eq_true,if_false] at hnew;unfold macV at hnew;have Hnew:=Lib.hid hnew;clear hnew hm;have hb1:=(Below.refl w.heap.size w).alloc (Nat.le_refl _) (.cells (rnCells rn0).toArray 48);have hm1r:RnAt (w.alloc (.cells (rnCells rn0).toArray 48)) w.heap.size rn0:=heap_alloc_new _ _;obtain ⟨g,hg⟩:∃ g,w.heap.size=g:=⟨_,rfl⟩;rw [hg] at hm1r;go_enter Tryz.func8,Tryz.ntmps8
 go_upto_region 1 with fail;change Code.wp _ _ _ _ (w.alloc (.cells (rnCells rn0).toArray 48));generalize w.alloc (.cells (rnCells rn0).toArray 48)=w1 at *;have Hr1:=Lib.hid hm1r;have Hb1:=Lib.hid hb1;have Hg:=Lib.hid hg;clear hm1r hb1 hg;go_upto_region 2 with (first
  | ((with_reducible refine (Hnew.out _).mono ?_);rintro e w2 ⟨rfl,h2⟩;have H2:=Lib.hid h2;clear h2)
  | ((with_reducible refine wpList_store_mid rfl 38 _ _ rfl w2.heap.size 0 _ rfl rfl ?_ ?_ ?_ ?_);exact th_new w2 (macCells macNone none) 38;exact mac_size;exact all_oneCell_toArray (mac_one macNone none)))
 change Code.wp _ _ _ _ ((w2.alloc (.cells (macCells macNone none).toArray 38)).setCells w2.heap.size 0 (macCells macNone none));have hb3:=box_below w2 (macCells macNone none) (macCells macNone none) 38;have hb13:=H2.out.trans (hb3.mono H2.out.size);have Hr3:=Lib.hid (Hr1.out.below hb13);have Hb3:=Lib.hid (Hb1.out.trans (hb13.mono Hb1.out.size));clear hb3 hb13 H2 Hr1 Hb1 Hnew;generalize (w2.alloc (.cells (macCells macNone none).toArray 38)).setCells w2.heap.size 0 (macCells macNone none)=w3 at *;have Hth:=Lib.hid (show w3.there g 0 22 from there_row (cs:=rnCells rn0) Hr3.out);have hz:RnAt (rowSt w3 g 0 (rnCells rn0)) g rn0:=rowSt_row _ [] (rnCells rn0) w3 Hr3.out rfl;have hbz:=rowSt_below (Nat.le_of_eq Hg.out) (rnCells rn0) 0 _ Hb3.out;go_wp2_with ((with_reducible refine wpList_store_mid rfl 48 _ _ rfl g 0 _ rfl rfl ?_ ?_ ?_ ?_);exact Hth.out;exact rn_size rn0;simp [Value.oneCell']);rw [st_eq];change bodyPost _ _ _ _ _ (rowSt w3 g 0 (rnCells rn0));generalize rowSt w3 g 0 (rnCells rn0)=w9 at *;refine bodyPost_ret (v:=.tuple #[rnV rn0,.bool false]) (by simp [results,Tryz.results8,show (asAddr (Value.pointer (some ⟨g,0,none⟩))).run Tryz.prog w9=.ok ⟨g,0,none⟩ w9 from rfl,rn_loadVar hz]) rfl ?_;exact ⟨rfl,hbz⟩
theorem layBase (ρ:Operand→Value) (x:World) (o:Oper) (h:o.op=.alloc 110):(execOp ρ o).run Tryz.prog x=.ok (.value (RegL.ptr x.heap.size)) (x.alloc (.cells (bsCells bs0).toArray 110 (0,0))):=by
 simp only [execOp,h];go_simp;exact ⟨rfl,rfl⟩
theorem run_copy_rowk {P:Program} (w:World) (dT sT ty elem:TypeId) (k g o dLen dCap:Nat) (a:Addr) (sLen sCap:Nat) (cur:Array Value) (t:TypeId) (cs:List Value)
  (hu:P.underlying dT=some (.slice elem)) (hs:(P.info? elem).map (·.size)=some k)
  (hg:w.heap[g]?=some (.cells cur t (0,0))) (hn:cs.length=Nat.min sLen dLen*k)
  (hsrc:∀ j v,cs[j]?=some v→w.cell? (a.add j)=some v) (hfit:o+cs.length≤cur.size) (h1:∀ v ∈ cs,v.oneCell'=true) :
  (Builtin.copy_ #[dT,sT] ty #[.slice (some ⟨g,o,none⟩) dLen dCap,.slice (some a) sLen sCap]).run P w =
   .ok (goInt (Nat.min sLen dLen)) (w.setRow g (cur.toList.take o++cs++cur.toList.drop (o+cs.length)).toArray):=by
 have hl:=run_loadCells_list (P:=P) w a cs hsrc;have hst:=run_storeCells_at P g o t cs 0 cur w hg (by simpa using hfit) h1;cases hq:P.info? elem with
 | none=>simp [hq] at hs
 | some i =>
  have hi:i.size=k:=by simpa [hq] using hs
  simp [Builtin.copy_,run_underlying hu,Builtin.lenOf,Builtin.firstCells,sizeOf,typeInfo,hq,hi, ← hn,hl,hst]
end Go.Proofs.YtbckjgageofldaaGreat
