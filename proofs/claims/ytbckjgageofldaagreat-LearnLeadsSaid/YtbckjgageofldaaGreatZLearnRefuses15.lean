/- Machines: Bytes. Condition: codes are bytes, keys and values are not great. -/
import Derived.Test.YtbckjgageofldaaGreatZLearnRefuses14
import Derived.Test.YtbckjgageofldaaGreatZLearnRefuses8
import Derived.Test.YtbckjgageofldaaGreatZLearnRefuses11
import Derived.Test.YtbckjgageofldaaGreatZLearnRefuses2
import Derived.Test.YtbckjgageofldaaGreatZLearnRefuses10
import Derived.Test.YtbckjgageofldaaGreatZLearnRefuses9
import Derived.Test.YtbckjgageofldaaGreatZLearnRefuses1
import Derived.Test.YtbckjgageofldaaGreatZLearnRefuses13
import Derived.Deep.DeepCutAuto
import Derived.Test.YtbckjgageofldaaGreatZLearnRefuses3
set_option maxRecDepth 100000
set_option maxHeartbeats 16000000
namespace Go.Proofs.YtbckjgageofldaaGreat
open Go.RowKit Go.Shelf
attribute [local go_sem] Oper.semAt_some
def pairsB:List (ByteArray × ByteArray)→List UInt8
 | []=>[]
 | p::r=>strL p.1++strL p.2++pairsB r
theorem pairsB_app:∀ (l k:List (ByteArray × ByteArray)),pairsB (l++k)=pairsB l++pairsB k
 | [],_=>rfl
 | p::r,k=>by
  show strL p.1++strL p.2++pairsB (r++k)=strL p.1++strL p.2++pairsB r++pairsB k;rw [pairsB_app r k,List.append_assoc,List.append_assoc,List.append_assoc]
def PairOk (p:ByteArray × ByteArray):Prop:=p.1.size≤4096∧p.2.size≤4096
theorem pairsB_len:∀ (l:List (ByteArray × ByteArray)),(∀ p ∈ l,PairOk p)→(pairsB l).length≤8300*l.length
 | [],_=>by simp [pairsB]
 | p::r,h=>by
  have h1:=strL_len p.1;have h2:=strL_len p.2;have h3:=h p (by simp);have h4:=pairsB_len r (fun q hq=>h q (by simp [hq]));unfold PairOk at h3;show (strL p.1++strL p.2++pairsB r).length≤_;rw [List.length_append,List.length_append,List.length_cons];omega
def macHead (M:MacV):List UInt8:=[UInt8.ofNat M.all,UInt8.ofNat M.mem]++tabB M.tab 4++numL M.sh.cnt
def macB (M:MacV):List UInt8:=macHead M++pairsB M.sh.kv
structure MacBy (M:MacV):Prop where
 all:M.all<256
 mem:M.mem<256
 tab:TabOk M.tab
 num:M.sh.cnt≤1000000
 kv:∀ p ∈ M.sh.kv,PairOk p
theorem macHead_len {M:MacV} (h:MacBy M):(macHead M).length≤17000:=by
 have h1:=tabB_len h.tab 4;have h2:=(numL_len M.sh.cnt).1;unfold macHead;rw [List.length_append,List.length_append];simp only [List.length_cons,List.length_nil];omega
structure BytesI (w0:World) (gb:Nat) (l0:List UInt8) (pre:List (ByteArray × ByteArray)) (W:World):Prop where
 b:∃ v,BoxAt W gb v 44∧OwnB W w0.heap.size 5 v (l0++pairsB pre)
 bel:Below w0.heap.size w0 W
theorem OwnB.own {W W':World} {base:Nat} {t:TypeId} {v:Value} {l:List UInt8} {row:Option Nat} (h:OwnB W base t v l) (hg:W.grownBy W' row) (hr:∀ r,row=some r→∃ o:Obj,W.heap[r]?=some o∧o.isCells=false):OwnB W' base t v l:=by
 unfold OwnB at *
 obtain ⟨h1,h2⟩:=h;refine ⟨h1,?_⟩;rcases h2 with h2 | ⟨g,cap,cur,e,h3,hgc,h4⟩
 ·
  exact .inl h2
 ·
  refine .inr ⟨g,cap,cur,e,h3,(hg.block g (Array.getElem?_eq_some_iff.1 hgc).1 (fun e=>?_)).trans hgc,h4⟩;obtain ⟨o,ho,hc⟩:=hr g e.symm;rw [hgc] at ho;cases ho
  cases hc
theorem BytesI.own {w0:World} {gb:Nat} {l0:List UInt8} {B0:Nat} (hB:w0.heap.size≤B0) {α:Type} (f:α→List (ByteArray × ByteArray)):OwnFrom B0 (fun (s:α) W=>BytesI w0 gb l0 (f s) W):=fun s W W' row hs hg hr=>by
 obtain ⟨v,h1,h2⟩:=hs.b;exact ⟨⟨v,BoxAt.own (f:=fun _=>v) s W W' row h1 hg hr,h2.own hg (fun r e=>(hr r e).2)⟩,below_own hB hs.bel hg hr⟩
theorem BytesI.below {w0 W W':World} {gb:Nat} {l0:List UInt8} {pre:List (ByteArray × ByteArray)} (h:BytesI w0 gb l0 pre W) (hb:Below W.heap.size W W'):BytesI w0 gb l0 pre W':=by
 obtain ⟨v,h1,h2⟩:=h.b;exact ⟨⟨v,h1.below hb,h2.below hb⟩,h.bel.trans (hb.mono h.bel.size)⟩
theorem keepsOthers_below {W W':World} (h:Below W.heap.size W W'):KeepsOthers W W':=⟨h.size,fun k _ hk _=>(h.block k (Array.getElem?_eq_some_iff.1 hk).1).trans hk⟩
set_option maxHeartbeats 8000000 in
theorem mbytes_in (M:MacV) (T:Tr) (hM:MacBy M) (w:World) (hat:TreeAt w T) (hsh:T.sh=M.sh) (m:Nat) (hm:3≤m) :
  CallsIn Fence.wide m Tryz.prog 19 #[macV M T.ptr] w fun e w'=>e=.returned (.string ⟨(macB M).toArray⟩)∧Below w.heap.size w w':=by
 have hm0:MacAt (w.alloc (.cells (macCells M T.ptr).toArray 38)) w.heap.size M T.ptr:=heap_alloc_new _ _;have hb1:=(Below.refl w.heap.size w).alloc (Nat.le_refl _) (.cells (macCells M T.ptr).toArray 38);obtain ⟨P,hP⟩:∃ P,T.ptr=P:=⟨_,rfl⟩;rw [hP] at hm0 hb1 ⊢;have HP:=Lib.hid hP;clear hP
 have Hat:=Lib.hid hat;clear hat
 unfold macV;refine callsIn_of_wp_marks Tryz.func19 rfl trivial ?_ rfl;simp only [Tryz.ntmps19,List.size_toArray,List.length_cons,List.length_nil,Nat.reduceAdd,Nat.reduceSub,Array.replicate_succ,Array.replicate_zero,List.push_toArray,List.append_toArray,List.nil_append,List.cons_append];refine wpIn_wide.2 ?_;go_upto_region 1 with fail;change Code.wp _ _ _ _ (w.alloc (.cells (macCells M P).toArray 38));have hl1:(w.alloc (.cells (macCells M P).toArray 38)).heap.size=w.heap.size+1:=by simp
 generalize w.alloc (.cells (macCells M P).toArray 38)=w1 at *;have h8a:((UInt8.ofNat M.all).toNat:Int)=(M.all:Int):=by have:=hM.all;simp;omega
 have h8b:((UInt8.ofNat M.mem).toNat:Int)=(M.mem:Int):=by have:=hM.mem;simp;omega
 have hput:=tput_any M.tab hM.tab (.slice (some ⟨w1.heap.size,0,none⟩) 2 2) [UInt8.ofNat M.all,UInt8.ofNat M.mem] (by simp) (w1.alloc (.cells #[.int .u8 (M.all:Int),.int .u8 (M.mem:Int)] 5)) (ReadB.cells w1 [UInt8.ofNat M.all,UInt8.ofNat M.mem] 5 #[.int .u8 (M.all:Int),.int .u8 (M.mem:Int)] (by rw [← h8a, ← h8b];rfl) 2);rw [tab_eta] at hput;have Hput:=Lib.hid hput;clear hput h8a h8b
 have Hm:=Lib.hid hm0;have Hb1:=Lib.hid hb1;clear hb1
 have Hl1:=Lib.hid hl1;clear hl1
 obtain ⟨⟨m0,m1,m14⟩,⟨m2,m3,m4⟩,⟨m5,m6,m7⟩,⟨m8,m9,m10⟩,⟨m11,m12,m13⟩⟩:=hm0.cells;clear hm0;go_upto_region 2 with ((with_reducible refine Hput.out.mono ?_);rintro e w2 ⟨v2,rfl,ho2,hb2⟩;obtain ⟨a2,n2,c2,rfl⟩:=ho2.read.slice;have Ho2:=Lib.hid ho2;clear ho2;have Hb2:=Lib.hid hb2;clear hb2)
 clear m0 m1 m2 m3 m4 m5 m6 m7 m8 m9 m10 m11 m12 m13 m14 Hput;change Code.wp _ _ _ _ (w2.alloc (.cells #[.slice a2 n2 c2] 44));-- what lies there now
 have hb12:Below w1.heap.size w1 w2:=((Below.refl _ _).alloc (Nat.le_refl _) _).trans (Hb2.out.mono (by simp));have hbox:=BoxAt.new w2 (.slice a2 n2 c2) 44;have hb3:=hb12.alloc hb12.size (.cells #[.slice a2 n2 c2] 44);have hown3:=(Ho2.out.below ((Below.refl w2.heap.size w2).alloc (Nat.le_refl _) (.cells #[.slice a2 n2 c2] 44))).mono (base':=w.heap.size) (by simp;have:=Hl1.out;omega);have hg3:w.heap.size<w2.heap.size:=by have:=hb12.size;have:=Hl1.out;omega
 have hl3:(w2.alloc (.cells #[.slice a2 n2 c2] 44)).heap.size=w2.heap.size+1:=by simp
 have hm3:=Hm.out.below hb3;have hbw3:=Hb1.out.trans (hb3.mono (by have:=Hl1.out;omega));generalize w2.alloc (.cells #[.slice a2 n2 c2] 44)=w3 at *;generalize w2.heap.size=gb at *;clear hb12 hb3 Ho2 Hb2 Hb1 Hm Hl1;have Hbox:=Lib.hid hbox;clear hbox
 have Hown:=Lib.hid hown3;clear hown3
 have Hg:=Lib.hid hg3;clear hg3
 have Hl3:=Lib.hid hl3;clear hl3
 have Hm:=Lib.hid hm3;clear hm3
 have Hb:=Lib.hid hbw3;clear hbw3
 have Hat3 := Lib.hid (Hat.out.below Hb.out);-- region 2
 refine (wpIn_wide (n:=1)).1 ?_;refine RegK.wpIn_region_calm (F:=Fence.wide) (KeptW w3) [(0,0),(1,0),(2,1),(3,1),(4,0),(5,1),(6,3)] (by kernel_rfl) (by kernel_rfl) (by kernel_rfl) ⟨rfl,rfl,rfl,Nat.le_refl _,fun _ _=>rfl⟩ ?_;dsimp only [RegK.pick,List.getElem?_cons_zero,List.getElem?_cons_succ];change RegK.Can _ _ _ _ _ _ _ _ w3.drew;have hkd:KeptW w3 w3.drew:=KeptW.drew w3;generalize w3.drew=w4 at *;refine RegK.can_reads ?_;intro K hK;go_simp;refine ⟨.slice a2 n2 c2,fun y hy=>?_,hK _ ?_⟩
 ·
  have f0:=(Hbox.out.below (KeptW.bel hy)).cell;go_simp
 clear hK K;obtain ⟨S1,hS1⟩:∃ V,macV M P=V:=⟨_,rfl⟩;have HV1:=Lib.hid hS1;clear hS1
 refine RegK.can_reads ?_;intro K hK;go_simp;refine ⟨S1,fun y hy=>?_,hK _ ?_⟩
 ·
  rw [← HV1.out];unfold macV;rw [mac_eta M P];obtain ⟨⟨m0,m1,m14⟩,⟨m2,m3,m4⟩,⟨m5,m6,m7⟩,⟨m8,m9,m10⟩,⟨m11,m12,m13⟩⟩:=(Hm.out.below (KeptW.bel hy)).cells;go_simp
 clear hK K;refine RegK.can_turns (fun _=>trivial) ?_;intro K K0 hK hK0;go_simp;refine ⟨trivial,?_⟩;have ht:=mtree_any M P w4;rw [HV1.out] at ht;refine (callsIn_wide.2 ht).mono ?_;rintro e w5 ⟨rfl,hb5⟩;have hk5:KeptW w3 w5:=KeptW.mono hkd hb5;refine hK _ _ hk5 ?_;clear hK K hK0 K0 ht hkd hb5;refine RegK.can_turns (fun _=>trivial) ?_;intro K K0 hK hK0;go_simp;refine ⟨trivial,?_⟩;have hln:=len_any T w5 (Hat3.out.below (KeptW.bel hk5));rw [HP.out,sh_cnt,hsh] at hln;refine (callsIn_wide.2 hln).mono ?_;rintro e w6 ⟨rfl,rfl⟩;refine hK _ _ hk5 ?_;clear hK K hK0 K0 hln;have hnum64:IntKind.u64.wrap (M.sh.cnt:Int)=(M.sh.cnt:Int):=by have:=hM.num;rw [IntKind.wrap_u64];omega
 refine RegK.can_reads ?_;intro K hK;go_simp;refine ⟨.int .u64 (M.sh.cnt:Int),fun _ _=>?_,hK _ ?_⟩
 ·
  rfl
 clear hK K;clear hnum64;refine RegK.can_turns (fun _=>trivial) ?_;intro K K0 hK hK0;go_simp;refine ⟨trivial,?_⟩;have hnu:=num_any (.slice a2 n2 c2) _ M.sh.cnt (by have:=hM.num;omega) (by rw [List.length_append];have:=tabB_len hM.tab 4;simp only [List.length_cons,List.length_nil];omega) w5 (Hown.out.below (KeptW.bel hk5)).read;refine (callsIn_wide.2 hnu).mono ?_;rintro e w6 ⟨v6,rfl,ho6,hb6⟩;obtain ⟨a6,n6,c6,rfl⟩:=ho6.read.slice;have hk6:KeptW w3 w6:=KeptW.mono hk5 hb6;refine hK _ _ hk6 ?_;have ho6':OwnB w6 w.heap.size 5 (.slice a6 n6 c6) (macHead M):=ho6.mono (by have:=(KeptW.bel hk5).size;have:=Hl3.out;have:=Hg.out;omega);clear hK K hK0 K0 hnu hb6;have hg5:gb<w5.heap.size:=by have:=(KeptW.bel hk5).size;have:=Hl3.out;omega
 have f0:=(Hbox.out.below (KeptW.bel hk6)).cell;have z0:=(Hbox.out.below (KeptW.bel hk6)).frozen;refine RegK.can_frees (fun _=>trivial) ?_;intro K K0 hK hK0;go_simp;refine hK (fun _=>True) _ _ trivial ?_;clear hK K hK0 K0 f0 z0;refine RegK.can_calm ?_;have hne:gb≠w.heap.size:=by have:=Hg.out;omega
 have hI0:BytesI w gb (macHead M) [] (w6.setCell ⟨gb,0,none⟩ (.slice a6 n6 c6)):=by
  refine ⟨⟨_,(Hbox.out.below (KeptW.bel hk6)).set,?_⟩,below_setV (Hb.out.trans ((KeptW.bel hk6).mono Hb.out.size)) (by have:=Hg.out;omega)⟩;have h:=(ho6.setCell (i:=0) (x:=.slice a6 n6 c6) hg5).mono (base':=w.heap.size) (by have:=Hg.out;omega);rw [show macHead M++pairsB []=macHead M from List.append_nil _];exact h
 have hm6:MacAt (w6.setCell ⟨gb,0,none⟩ (.slice a6 n6 c6)) w.heap.size M P:=(Below.heap_setCell _ _ _ _ (by exact (Ne.symm hne))).trans (Hm.out.below (KeptW.bel hk6));have hat6:TreeAt (w6.setCell ⟨gb,0,none⟩ (.slice a6 n6 c6)) T:=TreeAt.set (Hbox.out.below (KeptW.bel hk6)) (Hat3.out.below (KeptW.bel hk6));generalize w6.setCell ⟨gb,0,none⟩ (.slice a6 n6 c6)=w7 at *;clear hk5 hk6 ho6' ho6 hg5 Hbox Hown Hm Hat3 Hb Hl3;have ht:=fun y:World=>mtree_any M P y
 unfold macV at ht;rw [mac_eta] at ht;have Ht:=Lib.hid ht;clear ht
 obtain ⟨⟨m0,m1,m14⟩,⟨m2,m3,m4⟩,⟨m5,m6,m7⟩,⟨m8,m9,m10⟩,⟨m11,m12,m13⟩⟩:=hm6.cells;have HI0:=Lib.hid hI0;clear hI0
 have Hat6:=Lib.hid hat6;clear hat6 hm6
 go_wp2_with (first
  | ((with_reducible refine (Ht.out _).mono ?_);rintro e w8 ⟨rfl,hb8⟩;have Hb8:=Lib.hid hb8;clear hb8)
  | ((with_reducible refine (callsIn_wide.1 (all_in 1 _ _)).mono ?_);rintro e w9 ⟨rfl,rfl⟩))
 clear m0 m1 m2 m3 m4 m5 m6 m7 m8 m9 m10 m11 m12 m13 m14 Ht;obtain ⟨A12,hA12⟩:∃ V:Value,.agg #[.int .u32 (M.tab.a.seq.toNat:Int),.int .u8 (M.tab.a.code:Int),.string M.tab.a.text,.int .u32 (M.tab.b.seq.toNat:Int),.int .u8 (M.tab.b.code:Int),.string M.tab.b.text,.int .u32 (M.tab.c.seq.toNat:Int),.int .u8 (M.tab.c.code:Int),.string M.tab.c.text,.int .u32 (M.tab.d.seq.toNat:Int),.int .u8 (M.tab.d.code:Int),.string M.tab.d.text]=V:=⟨_,rfl⟩;obtain ⟨A15,hA15⟩:∃ V:Value,.agg #[.int .u8 (M.all:Int),.int .u8 (M.mem:Int),.int .u32 (M.tab.a.seq.toNat:Int),.int .u8 (M.tab.a.code:Int),.string M.tab.a.text,.int .u32 (M.tab.b.seq.toNat:Int),.int .u8 (M.tab.b.code:Int),.string M.tab.b.text,.int .u32 (M.tab.c.seq.toNat:Int),.int .u8 (M.tab.c.code:Int),.string M.tab.c.text,.int .u32 (M.tab.d.seq.toNat:Int),.int .u8 (M.tab.d.code:Int),.string M.tab.d.text,.pointer P]=V:=⟨_,rfl⟩;rw [hA12,hA15];clear hA12 hA15;have hI9:=(HI0.out.below Hb8.out).below ((Below.refl w8.heap.size w8).alloc (Nat.le_refl _) (.cells #[.pointer P] 32));have hat9:=(Hat6.out.below Hb8.out).below ((Below.refl w8.heap.size w8).alloc (Nat.le_refl _) (.cells #[.pointer P] 32));have hbt9:=BoxAt.new w8 (.pointer P) 32;have hl9:(w8.alloc (.cells #[.pointer P] 32)).heap.size=w8.heap.size+1:=by simp
 generalize w8.alloc (.cells #[.pointer P] 32)=w9 at *;have hg8:gb<w8.heap.size:=by
  obtain ⟨v,h1,_⟩:=(HI0.out.below Hb8.out).b;exact h1.lt
 generalize w8.heap.size=g8 at *;clear HI0 Hat6 Hb8;have hlo:=Hat.out.lo;have hc9:w9.cell? ⟨g8,0,none⟩=some (.pointer T.ptr):=by rw [HP.out];exact hbt9.cell
 have hkvs:T.kvs=M.sh.kv:=by unfold Tr.kvs;rw [hsh]
 have hG:∀ p ∈ T.kvs,PairOk p:=by rw [hkvs];exact hM.kv
 have hN:T.kvs.length≤1000000:=by rw [hkvs, ← cnt_kv];exact hM.num
 have Hg':=Lib.hid (And.intro Hg.out hg8);clear hg8 hne
 refine (wpIn_wide (n:=m)).1 ?_;refine wpIn_rangeFunc_ownF (F:=Fence.wide) rfl (by omega) (gf:=108) (lb:=#[.pointer (some ⟨g8,0,none⟩)]) rfl trivial (enters_of Tryz.func108 (by kernel_rfl) rfl)
  (all_stopsG PairOk (m - 1) g8 w.heap.size (g8+1) T w9 (by omega) (by omega) (by have:=Hg'.out;omega) hc9 hat9 hlo hG) (fun h k=>h.trans k) (keepC_b (by have:=Hg'.out;omega)) (Below.refl _ _) (fun _=>rfl)
  (fun pre W=>BytesI w gb (macHead M) (pre.map (·.val)) W) (fun _ _ _=>False) (BytesI.own (by have:=Hg'.out;omega) _) (fun _ _ _ _ _ h _ _=>h.elim) hI9
  (fun x=>{ tmps:=#[.agg (macCells M P).toArray,.pointer (some ⟨w.heap.size,0,none⟩),.string { data:=#[] },.pointer (some ⟨gb,0,none⟩),.string x.val.1,.string x.val.2,.pointer (some ⟨w.heap.size,0,none⟩),.pointer (some ⟨w.heap.size,2,none⟩),A12,.pointer (some ⟨w.heap.size,0,none⟩),.pointer (some ⟨w.heap.size,0,none⟩),.int .u8 (M.all:Int),.pointer (some ⟨w.heap.size,0,none⟩),.pointer (some ⟨w.heap.size,1,none⟩),.int .u8 (M.mem:Int),.slice (some ⟨w1.heap.size,0,none⟩) 2 2,.slice a2 n2 c2,.slice a2 n2 c2,S1,.pointer P,.int .i64 (M.sh.cnt:Int),.int .u64 (M.sh.cnt:Int),.slice a6 n6 c6,A15,.pointer P,(.func (.func 108) #[] #[.pointer (some ⟨g8,0,none⟩)]),.string x.val.1,.string x.val.2,undef,undef,undef,undef,undef,undef,undef],defers:=[] }) ?assign ?body ?done ?stop
 case assign =>
  intro l x W K hK;gi_wp2
  exact hK
 case body =>
  rintro l pre x W hI hlen;obtain ⟨v,hbox,hown⟩:=hI.b;obtain ⟨a,n,c,rfl⟩:=hown.read.slice;have hpl:=pairsB_len (pre.map (·.val)) (fun p hp=>by obtain ⟨q,_,rfl⟩:=List.mem_map.1 hp;exact q.property);rw [List.length_map] at hpl;have hhl:=macHead_len hM;obtain ⟨⟨xk,xv⟩,hx⟩:=x;have hx':xk.size≤4096∧xv.size≤4096:=hx;have hql:(macHead M++pairsB (pre.map (·.val))).length≤8400000000:=by rw [List.length_append];omega
  obtain ⟨q,hq⟩:∃ q,macHead M++pairsB (pre.map (·.val))=q:=⟨_,rfl⟩;rw [hq] at hown hql;have hs1:=str_any (.slice a n c) q xk (by omega) W hown.read;have Hs1:=Lib.hid hs1;clear hs1
  have c0:=hbox.cell;have Hbox:=Lib.hid hbox;clear hbox
  have HI:=Lib.hid hI;clear hI
  have Hq:=Lib.hid hq;clear hq
  have hkl:=strL_len xk;have hx1:=hx'.1;have hx2:=hx'.2;clear hx' hlen hhl hpl hown;dsimp only;gi_wp2_with (refine ⟨trivial,(fun h=>(by cases h)),?_⟩;first
   | (refine (calls_round Hs1.out).mono ?_;clear Hs1;rintro e W1 ⟨v1,rfl,ho1,hb1⟩;obtain ⟨a1,n1,c1,rfl⟩:=ho1.read.slice;have Ho1:=Lib.hid ho1;clear ho1;have Hb1:=Lib.hid hb1;clear hb1)
   | (refine (calls_round (str_any _ _ xv (by rw [List.length_append];omega) W1 Ho1.out.read)).mono ?_;rintro e W2 ⟨v2,rfl,ho2,hb2⟩;obtain ⟨a22,n22,c22,rfl⟩:=ho2.read.slice;have Ho2:=Lib.hid ho2;clear ho2;have Hb2:=Lib.hid hb2;clear hb2;have d0:=((Hbox.out.below Hb1.out).below Hb2.out).cell;have d1:=((Hbox.out.below Hb1.out).below Hb2.out).frozen))
  have hb12:=Hb1.out.trans (Hb2.out.mono Hb1.out.size);have hbw:=HI.out.bel;have hgl:=Hbox.out.lt;have hg0:=Hg'.out;refine ⟨(keepsOthers_below hb12).trans (KeepsOthers.setCell _ _ _),⟨below_setV (hb12.mono hbw.size) (by omega),fun r cs t f hr e=>(Below.heap_setCell _ _ _ _ (by show r≠gb;omega)).trans ((hb12.block r (Array.getElem?_eq_some_iff.1 e).1).trans e)⟩,⟨_,(Hbox.out.below hb12).set,?_⟩,below_setV (hbw.trans (hb12.mono hbw.size)) (by omega)⟩;rw [List.map_append,pairsB_app, ← List.append_assoc,Hq.out];show OwnB _ _ _ _ (q++(strL xk++strL xv++[]));rw [List.append_nil, ← List.append_assoc];exact (Ho2.out.setCell (Nat.lt_of_lt_of_le hgl Hb1.out.size)).mono (Nat.le_trans hbw.size Hb1.out.size)
 case done =>
  rintro D xs W hD hxs hI hK;obtain ⟨v,hbox,hown⟩:=hI.b;obtain ⟨a,n,c,rfl⟩:=hown.read.slice;rw [hxs,hkvs] at hown;have hcv:=hown.read.conv Tryz.underlying44 Tryz.underlying5 Tryz.underlying9;have c0:=hbox.cell;have Hbel:=Lib.hid hI.bel;have HK:=Lib.hid hK;clear hK
  have Hg1:=Lib.hid (show w.heap.size≤D by have:=Hg'.out;omega);clear hI hown hbox;go_wp2_with fail;refine ⟨by simp,.inl ⟨_,_,rfl,run_takeDeferred HK.out,?_⟩⟩;refine ⟨.string ⟨(macB M).toArray⟩,?_,rfl,Hbel.out.trans (belowK_b (w:=w) (Nat.le_refl _) W D _ _ Hg1.out HK.out rfl rfl)⟩;simp [results,Tryz.results19,go_sem,macB]
 case stop =>
  rintro D c pre W hD hpre h _;exact h.elim
theorem mbytes_any (M:MacV) (T:Tr) (hM:MacBy M) (w:World) (hat:TreeAt w T) (hsh:T.sh=M.sh) :
  Calls Tryz.prog 19 #[macV M T.ptr] w fun e w'=>e=.returned (.string ⟨(macB M).toArray⟩)∧Below w.heap.size w w':=callsIn_wide.1 (mbytes_in M T hM w hat hsh 3 (Nat.le_refl _))
end Go.Proofs.YtbckjgageofldaaGreat
namespace Go.Proofs.YtbckjgageofldaaGreat.One
open Go.RowKit
theorem filt_len (k:ByteArray):∀ M:Prs,(M.filter (ltB k)).length+(M.filter (gtB k)).length≤M.length
 | []=>Nat.le_refl _
 | p::M=>by
  have ih:=filt_len k M;simp only [List.filter_cons];by_cases h1:ltB k p=true
  ·
   have h2:gtB k p=false:=slt_asymm h1;rw [if_pos h1,h2];simp only [List.length_cons,Bool.false_eq_true,if_false];omega
  ·
   rw [if_neg h1];split <;> simp only [List.length_cons] <;> omega
theorem rm_len (M:Prs) (k:ByteArray):(rmL M k).length≤M.length:=by
 have:=filt_len k M;simp only [rmL,List.length_append];omega
theorem ins_mem {M:Prs} {k v:ByteArray} {p:ByteArray × ByteArray} (h:p ∈ insL M k v):p=(k,v)∨p ∈ M:=by
 simp only [insL,List.mem_append,List.mem_cons,List.mem_filter] at h;rcases h with h | h | h
 ·
  exact .inr h.1
 ·
  exact .inl h
 ·
  exact .inr h.1
theorem put_look {S:Sh} (h:Asc S.kv) (k v:ByteArray):(putSh k v S (S.look k)).look k=some v:=by
 have ha:=asc_put h k v (S.look k);unfold putSh at ha ⊢;split
 ·
  rename_i he;exact he
 ·
  rename_i he
  rw [if_neg he] at ha;rw [look_kv k ha,kv_put k v _ h];simp [insL]
theorem shape_uniq:∀ {S U:Sh},S.Heap→U.Heap→S.kv=U.kv→S=U
 | .nil,.nil,_,_,_=>rfl
 | .nil,.node k v wt l r,_,_,h=>by have:=congrArg List.length h;simp [Sh.kv] at this
 | .node k v wt l r,.nil,_,_,h=>by have:=congrArg List.length h;simp [Sh.kv] at this
 | .node k v wt l r,.node k' v' wt' l' r',hS,hU,h=>by
  have t1:=top_root hS;have t2:=top_root hU;have h':l.kv++(k,v)::r.kv=l'.kv++(k',v')::r'.kv:=h;rw [← h'] at t2;have hl:=top_uniq t1 t2 (by simp) (by have:=congrArg List.length h';simp at this ⊢; omega);obtain ⟨e1,e2⟩:=List.append_inj h' hl;simp only [List.cons.injEq,Prod.mk.injEq] at e2;obtain ⟨⟨rfl,rfl⟩,e3⟩:=e2;obtain ⟨w1,_,_,p1,p2⟩:=hS;obtain ⟨w2,_,_,q1,q2⟩:=hU;rw [shape_uniq p1 q1 e1,shape_uniq p2 q2 e3,w1,w2]
structure TOk (w:World) (c:Nat) (T:Tr):Prop where
 at_:TreeAt w T
 asc:Asc T.sh.kv
 heap:T.sh.Heap
 cnt:T.cnt≤c
 keys:∀ k,(T.sh.look k).isSome→k.size≤100
theorem TOk.nil (w:World) (c:Nat):TOk w c .nil:=⟨trivial,List.Pairwise.nil,trivial,Nat.zero_le _,fun k h=>by cases h⟩
theorem TOk.below {w w':World} {c:Nat} {T:Tr} (h:TOk w c T) (hb:Below w.heap.size w w'):TOk w' c T:=⟨h.at_.below hb,h.asc,h.heap,h.cnt,h.keys⟩
theorem TOk.mono {w:World} {c c':Nat} {T:Tr} (h:TOk w c T) (hc:c≤c'):TOk w c' T:=⟨h.at_,h.asc,h.heap,Nat.le_trans h.cnt hc,h.keys⟩
structure PutPost (w:World) (c:Nat) (T:Tr) (k:ByteArray) (o:Option ByteArray) (w':World) (X:Tr):Prop where
 ok:TOk w' (c+1) X
 bel:Below w.heap.size w w'
 own:X.sh.look k=o
 oth:∀ j,j≠k→X.sh.look j=T.sh.look j
 shp:∀ v,o=some v→X.sh=putSh k v T.sh (T.sh.look k)
end Go.Proofs.YtbckjgageofldaaGreat.One
namespace Go.Proofs.YtbckjgageofldaaGreat
open Go.RowKit
theorem str_mk (s:ByteArray):(⟨s.data.toList.toArray⟩:ByteArray)=s:=by
 cases s;rfl
theorem str_size (s:ByteArray):s.data.toList.length=s.size:=rfl
theorem str_back {s:ByteArray} {most:Nat} (hs:s.size≤most) (hm:most<1000000) (r:List UInt8):(RdV.mk 0 (strL s++r)).str most=(s.data.toList,⟨0,r⟩):=by
 have h:=str_app' (t:=s.data.toList) (most:=most) (by rw [str_size];exact hs) hm r;rw [str_size] at h;exact h
theorem last_app {x:LastV} (hx:LastFit x) (r:List UInt8):(RdV.mk 0 (lastB x++r)).last=(x,⟨0,r⟩):=by
 have hseq:=x.seq.isLt;have hp:(RdV.mk 0 (lastB x++r)).lastP=(x,⟨0,r⟩):=by
  unfold RdV.lastP lastB;by_cases h0:x.seq.toNat=0
  ·
   rw [if_pos h0,List.append_nil,below_app (by omega) (by omega),h0,if_pos rfl,hx.zero h0]
  ·
   rw [if_neg h0,List.append_assoc,below_app (by omega) (by omega),if_neg h0];have hc:(UInt8.ofNat x.code).toNat=x.code:=by have:=hx.code;simp;omega
   simp only [List.cons_append,byte_app];rw [str_back hx.text (by omega)];simp only [hc,str_mk];have hs:BitVec.ofNat 32 x.seq.toNat=x.seq:=by simp
   rw [hs]
 unfold RdV.last;rw [hp];simp only;rw [if_neg (by have:=hx.code;omega)]
def tput (t:TabV):Nat→TabV
 | 0=>tabNone
 | n+1=>(tput t n).put n (t.at_ n)
theorem tput_all (t:TabV):tput t 4=t:=by cases t;rfl
theorem tabP_app {t:TabV} (ht:∀ n,LastFit (t.at_ n)):∀ (n:Nat) (r:List UInt8),(RdV.mk 0 (tabB t n++r)).tabP n=(tput t n,⟨0,r⟩)
 | 0,_=>rfl
 | n+1,r=>by
  have h:=tabP_app ht n (lastB (t.at_ n)++r);unfold RdV.tabP tabB tput;rw [List.append_assoc,h,last_app (ht n)]
theorem tab_app {t:TabV} (ht:∀ n,LastFit (t.at_ n)) (r:List UInt8):(RdV.mk 0 (tabB t 4++r)).tab=(t,⟨0,r⟩):=by
 unfold RdV.tab;rw [tabP_app ht,tput_all];simp
theorem ins_end {A:Prs} {k v:ByteArray} (h:∀ p ∈ A,slt p.1 k=true):insL A k v=A++[(k,v)]:=by
 unfold insL;have h1:A.filter (ltB k)=A:=List.filter_eq_self.2 (fun p hp=>h p hp);have h2:A.filter (gtB k)=[]:=List.filter_eq_nil_iff.2 (fun p hp=>by
  have:=slt_asymm (h p hp);unfold gtB;rw [this];simp)
 rw [h1,h2]
theorem putSh_heap {S:Sh} (h:S.Heap) (ha:Asc S.kv) (k v:ByteArray):(putSh k v S (S.look k)).Heap:=by
 unfold putSh;split
 ·
  exact h
 ·
  exact heap_put k v h ha
theorem putSh_end {S:Sh} (ha:Asc S.kv) {k v:ByteArray} (h:∀ p ∈ S.kv,slt p.1 k=true):(putSh k v S (S.look k)).kv=S.kv++[(k,v)]:=by
 rw [put_kv' ha,ins_end h]
def PairsFit (L:Prs):Prop:=∀ p ∈ L,(1≤p.1.size∧p.1.size≤16)∧p.2.size≤64
theorem keys_app:∀ (L:Prs) (S:Sh) (last:ByteArray) (r:List UInt8),S.Heap→Asc (S.kv++L)→PairsFit L→(∀ p ∈ L,slt last p.1=true) →
  ∃ S2,RdV.keysP L.length S last ⟨0,pairsB L++r⟩=(S2,⟨0,r⟩)∧S2.kv=S.kv++L∧S2.Heap
 | [],S,last,r,hh,_,_,_=>⟨S,rfl,by simp,hh⟩
 | (k,v)::L,S,last,r,hh,ha,hf,hl=>by
  obtain ⟨⟨f1,f2⟩,f3⟩:=hf (k,v) (by simp);have hk:slt last k=true:=hl (k,v) (by simp);have hpair:(RdV.mk 0 (pairsB ((k,v)::L)++r)).pair last=((k,v),⟨0,pairsB L++r⟩):=by
   unfold RdV.pair;have e:pairsB ((k,v)::L)++r=strL k++(strL v++(pairsB L++r)):=by
    show strL k++strL v++pairsB L++r=_;rw [List.append_assoc,List.append_assoc]
   rw [e,str_back f2 (by omega)];simp only;rw [str_back f3 (by omega)];simp only [str_mk];rw [if_pos hk]
  obtain ⟨a1,a2,a3⟩:=List.pairwise_append.1 ha;obtain ⟨b1,b2⟩:=List.pairwise_cons.1 a2;have hlt:∀ p ∈ S.kv,slt p.1 k=true:=fun p hp=>a3 p hp (k,v) (by simp)
  have hkv:=putSh_end a1 (v:=v) hlt;obtain ⟨S2,h1,h2,h3⟩:=keys_app L (putSh k v S (S.look k)) k r (putSh_heap hh a1 k v) (by rw [hkv,List.append_assoc];exact ha) (fun p hp=>hf p (by simp [hp])) (fun p hp=>b1 p hp);refine ⟨S2,?_,by rw [h2,hkv,List.append_assoc];rfl,h3⟩;show RdV.keysP (L.length+1) S last _=_;unfold RdV.keysP;rw [hpair];simp only [if_true];exact h1
theorem heap_nil:Sh.Heap .nil:=trivial
theorem end_nil:(RdV.mk 0 []).end_=⟨0,[]⟩:=by unfold RdV.end_;rw [if_pos rfl]
theorem ofM_app {M:MacV} (h:MacFit M) (hh:M.sh.Heap) (hs:setsOk M=true):ofM (macB M)=(M,0):=by
 have h1:ofStep 0 (⟨0,macB M⟩,macNone)=(⟨0,UInt8.ofNat M.mem::(tabB M.tab 4++(numL M.sh.cnt++pairsB M.sh.kv))⟩,{ macNone with all:=M.all }):=by
  have e:macB M=UInt8.ofNat M.all::(UInt8.ofNat M.mem::(tabB M.tab 4++(numL M.sh.cnt++pairsB M.sh.kv))):=by
   unfold macB macHead;simp
  rw [ofStep_0,e,byte_app];have e2:(UInt8.ofNat M.all).toNat=M.all:=by have:=h.all;simp;omega
  simp only [e2]
 have h2:ofStep 1 (⟨0,UInt8.ofNat M.mem::(tabB M.tab 4++(numL M.sh.cnt++pairsB M.sh.kv))⟩,{ macNone with all:=M.all })=(⟨0,tabB M.tab 4++(numL M.sh.cnt++pairsB M.sh.kv)⟩,{ macNone with all:=M.all,mem:=M.mem }):=by
  rw [ofStep_1,byte_app];have e2:(UInt8.ofNat M.mem).toNat=M.mem:=by have:=h.mem;simp;omega
  simp only [e2]
 have h3:ofStep 2 (⟨0,tabB M.tab 4++(numL M.sh.cnt++pairsB M.sh.kv)⟩,{ macNone with all:=M.all,mem:=M.mem })=(⟨0,numL M.sh.cnt++pairsB M.sh.kv⟩,{ macNone with all:=M.all,mem:=M.mem,tab:=M.tab }):=by
  rw [ofStep_2,tab_app h.tab]
 have hcnt:M.sh.cnt<257:=by have:=h.kv.num;omega
 have hlen:M.sh.kv.length=M.sh.cnt:=(cnt_kv M.sh).symm;obtain ⟨S2,k1,k2,k3⟩:=keys_app M.sh.kv .nil ByteArray.empty [] heap_nil (by simpa [Sh.kv] using h.kv.asc) (fun p hp=>⟨h.key p hp,h.kv.val p hp⟩) (fun p hp=>by
  have:=(h.key p hp).1;unfold slt;have hne:p.1.toList≠[]:=by
   intro e;have h0:p.1.size=0:=by
    have h9:p.1.toList.length=p.1.size:=by rw [ByteArray.toList_eq];exact str_len p.1
    rw [e] at h9;exact h9.symm
   omega
  cases hx:p.1.toList with
  | nil=>exact absurd hx hne
  | cons a l=>rw [ByteArray.toList_eq];rfl)
 have hS2:S2=M.sh:=One.shape_uniq k3 hh (by rw [k2];rfl);have h4:ofStep 3 (⟨0,numL M.sh.cnt++pairsB M.sh.kv⟩,{ macNone with all:=M.all,mem:=M.mem,tab:=M.tab })=(⟨0,[]⟩,M):=by
  rw [ofStep_3];unfold RdV.keys;rw [below_app (by omega) hcnt];simp only;rw [List.append_nil,hlen,hS2] at k1;rw [k1]
 unfold ofM;have e4:ofL 4 0 (⟨0,macB M⟩,macNone)=(⟨0,[]⟩,M):=by
  unfold ofL;rw [h1];simp only [if_true];unfold ofL;rw [h2];simp only [if_true];unfold ofL;rw [h3];simp only [if_true];unfold ofL;rw [h4];rfl
 rw [e4];unfold ofRes;simp only [if_true,end_nil,hs]
theorem both_idem (x:Nat):bothS (bothS x x) (bothS x x)=bothS x x:=by
 unfold bothS;rw [Nat.and_self,Nat.and_self,Nat.and_assoc,Nat.and_self]
theorem may_both (s all:Nat):mayS (bothS s s) all=mayS s all:=by
 have h:bothS s s=s &&& 127:=by unfold bothS;rw [Nat.and_self]
 unfold mayS withoutS;rw [h,Nat.and_assoc,Nat.and_self];congr 2
 rw [show s &&& 127 &&& (255 - all) &&& 127=s &&& (255 - all) &&& 127 by
  rw [Nat.and_assoc s 127,Nat.and_comm 127, ← Nat.and_assoc,Nat.and_assoc _ 127 127,Nat.and_self]]
structure MacAll (M:MacV):Prop where
 fit:MacFit M
 heap:M.sh.Heap
 sets:setsOk M=true
theorem sets_eq {M:MacV} (h:setsOk M=true):mayS M.mem M.all=true∧M.all=bothS M.all M.all∧M.mem=bothS M.mem M.mem:=by
 unfold setsOk at h;simp only [Bool.and_eq_true,decide_eq_true_eq] at h;exact ⟨h.1.1,h.1.2,h.2⟩
theorem sets_mk {M:MacV} (h1:mayS M.mem M.all=true) (h2:M.all=bothS M.all M.all) (h3:M.mem=bothS M.mem M.mem):setsOk M=true:=by
 unfold setsOk;rw [h1, ← h2, ← h3];simp
theorem delSh_heap {S:Sh} (h:S.Heap) (ha:Asc S.kv) (k:ByteArray):(delSh k S (S.look k)).Heap:=by
 unfold delSh;split
 ·
  exact h
 ·
  exact heap_del k h ha
theorem kvDo_heap {S:Sh} (h:S.Heap) (ha:Asc S.kv) (c:CmdV):(kvDo S c).sh.Heap:=by
 have hp:=putSh_heap h ha c.key c.fresh;have hd:=delSh_heap h ha c.key;unfold kvDo;split
 ·
  split
  ·
   unfold kvGet;split <;> exact h
  ·
   split
   ·
    unfold kvPut;cases hl:S.look c.key with
    | none=>rw [hl] at hp;simp only;split;exact h;exact hp
    | some v=>rw [hl] at hp;exact hp
   ·
    split
    ·
     unfold kvDel;cases hl:S.look c.key with
     | none=>exact h
     | some v=>rw [hl] at hd;exact hd
    ·
     split
     ·
      unfold kvCas;cases hl:S.look c.key with
      | none=>exact h
      | some v=>rw [hl] at hp;simp only;split;exact hp;exact h
     ·
      exact h
 ·
  exact h
theorem macFresh_all {M:MacV} (h:MacAll M) (c:CmdV):(macFresh M c).1.sh.Heap∧setsOk (macFresh M c).1=true:=by
 obtain ⟨s1,s2,s3⟩:=sets_eq h.sets;unfold macFresh;split
 ·
  split
  ·
   rename_i hm
   exact ⟨h.heap,sets_mk (by show mayS (bothS c.set.toNat c.set.toNat) M.all=true;rw [may_both];exact hm) s2 (both_idem _).symm⟩
  ·
   exact ⟨h.heap,h.sets⟩
 ·
  exact ⟨kvDo_heap h.heap h.fit.kv.asc c,sets_mk s1 s2 s3⟩
theorem macDo_all {M:MacV} (h:MacAll M) (c:CmdV):MacAll (macDo M c).m:=by
 refine ⟨macDo_fit h.fit c,?_,?_⟩
 ·
  unfold macDo;split
  ·
   split
   ·
    exact (macFresh_all h c).1
   ·
    exact h.heap
  ·
   exact h.heap
 ·
  unfold macDo;split
  ·
   split
   ·
    obtain ⟨s1,s2,s3⟩:=sets_eq (macFresh_all h c).2;exact sets_mk s1 s2 s3
   ·
    exact h.sets
  ·
   exact h.sets
theorem macsDo_all:∀ (l:List CmdV) {M:MacV},MacAll M→MacAll (macsDo M l)
 | [],_,h=>h
 | c::r,_,h=>macsDo_all r (macDo_all h c)
theorem macFit_by {M:MacV} (h:MacFit M):MacBy M:=by
 have ht:∀ n,LastOk (M.tab.at_ n):=fun n=>⟨by have:=(h.tab n).code;omega,by have:=(h.tab n).text;omega⟩
 exact ⟨by have:=h.all;omega,by have:=h.mem;omega,⟨ht 0,ht 1,ht 2,ht 3⟩,by have:=h.kv.num;omega,fun p hp=>⟨by have:=(h.key p hp).2;omega,by have:=h.kv.val p hp;omega⟩⟩
theorem of_reg9 (w0:World) (g:Nat) (e:Int) {Q:Exit→Act→World→Prop}
  (_hQ:∀ c a d v w,Q (.panic c) (Act.put a d v) w→Q (.panic c) a w) (HR:Hid (MacAt w0 g macNone none))
  (u0 u1 u3 u4 u5 u6 u7 u9 u10 u11 u12 u13 u14 u15 u16 u17 u18 u19 u20 u21 u22 u23 u24 u25 u26 u27 u28 u29 u30 u31 u32 u33 u34 u35 u36 u37 u38 u39 u40 u41 u42:Value)
  (Hk:Hid (∀ (s28 s29:Value) (w2:World),w2=rowSt w0 g 0 (macCells macNone none)→Q .normal ⟨List.toArray (u0::u1::Value.pointer (some ⟨g,0,none⟩)::Value.int .i64 e::u4::u5::u6::u7::Value.int .i64 e::u9::u10::u11::u12::u13::u14::u15::u16::u17::u18::u19::u20::u21::u22::u23::u24::u25::u26::u27::s28::s29::u30::u31::u32::u33::u34::u35::u36::u37::u38::u39::u40::u41::u42::[]),[]⟩ w2)) :
  Code.wp Tryz.prog (findR 9 (Tryz.f58.body.getD .skip)) Q ⟨List.toArray (u0::u1::Value.pointer (some ⟨g,0,none⟩)::u3::u4::u5::u6::u7::Value.int .i64 e::u9::u10::u11::u12::u13::u14::u15::u16::u17::u18::u19::u20::u21::u22::u23::u24::u25::u26::u27::u28::u29::u30::u31::u32::u33::u34::u35::u36::u37::u38::u39::u40::u41::u42::[]),[]⟩ w0:=by
 conv=>arg 2;whnf
 clear _hQ;obtain ⟨⟨m0,m1,m14⟩,⟨m2,m3,m4⟩,⟨m5,m6,m7⟩,⟨m8,m9,m10⟩,⟨m11,m12,m13⟩⟩:=HR.out.cells;have q0:=HR.out.thawed 0;have q1:=HR.out.thawed 1;have q2:=HR.out.thawed 2;have q3:=HR.out.thawed 3;have q4:=HR.out.thawed 4;have q5:=HR.out.thawed 5;have q6:=HR.out.thawed 6;have q7:=HR.out.thawed 7;have q8:=HR.out.thawed 8;have q9:=HR.out.thawed 9;have q10:=HR.out.thawed 10;have q11:=HR.out.thawed 11;have q12:=HR.out.thawed 12;have q13:=HR.out.thawed 13;have q14:=HR.out.thawed 14;go_wp2_with fail;exact Hk.out _ _ _ rfl
theorem of_reg13 (w0:World) (g:Nat) (e:Int) {Q:Exit→Act→World→Prop}
  (_hQ:∀ c a d v w,Q (.panic c) (Act.put a d v) w→Q (.panic c) a w) (HR:Hid (MacAt w0 g macNone none))
  (u0 u1 u3 u4 u5 u6 u7 u8 u10 u11 u12 u13 u14 u15 u16 u17 u18 u19 u20 u21 u22 u23 u24 u25 u26 u27 u28 u29 u30 u31 u32 u33 u34 u35 u36 u37 u38 u39 u40 u41 u42:Value)
  (Hk:Hid (∀ (s35 s36:Value) (w2:World),w2=rowSt w0 g 0 (macCells macNone none)→Q .normal ⟨List.toArray (u0::u1::Value.pointer (some ⟨g,0,none⟩)::Value.int .i64 e::u4::u5::u6::u7::u8::Value.int .i64 e::u10::u11::u12::u13::u14::u15::u16::u17::u18::u19::u20::u21::u22::u23::u24::u25::u26::u27::u28::u29::u30::u31::u32::u33::u34::s35::s36::u37::u38::u39::u40::u41::u42::[]),[]⟩ w2)) :
  Code.wp Tryz.prog (findR 13 (Tryz.f58.body.getD .skip)) Q ⟨List.toArray (u0::u1::Value.pointer (some ⟨g,0,none⟩)::u3::u4::u5::u6::u7::u8::Value.int .i64 e::u10::u11::u12::u13::u14::u15::u16::u17::u18::u19::u20::u21::u22::u23::u24::u25::u26::u27::u28::u29::u30::u31::u32::u33::u34::u35::u36::u37::u38::u39::u40::u41::u42::[]),[]⟩ w0:=by
 conv=>arg 2;whnf
 clear _hQ;obtain ⟨⟨m0,m1,m14⟩,⟨m2,m3,m4⟩,⟨m5,m6,m7⟩,⟨m8,m9,m10⟩,⟨m11,m12,m13⟩⟩:=HR.out.cells;have q0:=HR.out.thawed 0;have q1:=HR.out.thawed 1;have q2:=HR.out.thawed 2;have q3:=HR.out.thawed 3;have q4:=HR.out.thawed 4;have q5:=HR.out.thawed 5;have q6:=HR.out.thawed 6;have q7:=HR.out.thawed 7;have q8:=HR.out.thawed 8;have q9:=HR.out.thawed 9;have q10:=HR.out.thawed 10;have q11:=HR.out.thawed 11;have q12:=HR.out.thawed 12;have q13:=HR.out.thawed 13;have q14:=HR.out.thawed 14;go_wp2_with fail;exact Hk.out _ _ _ rfl
theorem of_reg15 (w0:World) (g:Nat)  {Q:Exit→Act→World→Prop}
  (_hQ:∀ c a d v w,Q (.panic c) (Act.put a d v) w→Q (.panic c) a w) (HR:Hid (MacAt w0 g macNone none))
  (u0 u1 u3 u4 u5 u6 u7 u8 u9 u10 u11 u12 u13 u14 u15 u16 u17 u18 u19 u20 u21 u22 u23 u24 u25 u26 u27 u28 u29 u30 u31 u32 u33 u34 u35 u36 u37 u38 u39 u40 u41 u42:Value)
  (Hk:Hid (∀ (s40:Value) (w2:World),w2=rowSt w0 g 0 (macCells macNone none)→Q .normal ⟨List.toArray (u0::u1::Value.pointer (some ⟨g,0,none⟩)::Value.int .i64 4::u4::u5::u6::u7::u8::u9::u10::u11::u12::u13::u14::u15::u16::u17::u18::u19::u20::u21::u22::u23::u24::u25::u26::u27::u28::u29::u30::u31::u32::u33::u34::u35::u36::u37::u38::u39::s40::u41::u42::[]),[]⟩ w2)) :
  Code.wp Tryz.prog (findR 15 (Tryz.f58.body.getD .skip)) Q ⟨List.toArray (u0::u1::Value.pointer (some ⟨g,0,none⟩)::u3::u4::u5::u6::u7::u8::u9::u10::u11::u12::u13::u14::u15::u16::u17::u18::u19::u20::u21::u22::u23::u24::u25::u26::u27::u28::u29::u30::u31::u32::u33::u34::u35::u36::u37::u38::u39::u40::u41::u42::[]),[]⟩ w0:=by
 conv=>arg 2;whnf
 clear _hQ;obtain ⟨⟨m0,m1,m14⟩,⟨m2,m3,m4⟩,⟨m5,m6,m7⟩,⟨m8,m9,m10⟩,⟨m11,m12,m13⟩⟩:=HR.out.cells;have q0:=HR.out.thawed 0;have q1:=HR.out.thawed 1;have q2:=HR.out.thawed 2;have q3:=HR.out.thawed 3;have q4:=HR.out.thawed 4;have q5:=HR.out.thawed 5;have q6:=HR.out.thawed 6;have q7:=HR.out.thawed 7;have q8:=HR.out.thawed 8;have q9:=HR.out.thawed 9;have q10:=HR.out.thawed 10;have q11:=HR.out.thawed 11;have q12:=HR.out.thawed 12;have q13:=HR.out.thawed 13;have q14:=HR.out.thawed 14;go_wp2_with fail;exact Hk.out _ _ rfl
theorem of_reg16 (w0:World) (g:Nat) (g5:Nat) (M:MacV) (P:Option Addr) {Q:Exit→Act→World→Prop}
  (_hQ:∀ c a d v w,Q (.panic c) (Act.put a d v) w→Q (.panic c) a w) (HR:Hid (MacAt w0 g macNone none)) (HP:Hid (PartAt w0 g5 M P))
  (u0 u1 u3 u4 u6 u7 u8 u9 u10 u11 u12 u13 u14 u15 u16 u17 u18 u19 u20 u21 u22 u23 u24 u25 u26 u27 u28 u29 u30 u31 u32 u33 u34 u35 u36 u37 u38 u39 u40 u41 u42:Value)
  (Hk:Hid (∀ (s41 s42:Value) (w2:World),w2=rowSt w0 g 0 (macCells M P)→Q .normal ⟨List.toArray (u0::u1::Value.pointer (some ⟨g,0,none⟩)::Value.int .i64 0::u4::Value.pointer (some ⟨g5,0,none⟩)::u6::u7::u8::u9::u10::u11::u12::u13::u14::u15::u16::u17::u18::u19::u20::u21::u22::u23::u24::u25::u26::u27::u28::u29::u30::u31::u32::u33::u34::u35::u36::u37::u38::u39::u40::s41::s42::[]),[]⟩ w2)) :
  Code.wp Tryz.prog (findR 16 (Tryz.f58.body.getD .skip)) Q ⟨List.toArray (u0::u1::Value.pointer (some ⟨g,0,none⟩)::u3::u4::Value.pointer (some ⟨g5,0,none⟩)::u6::u7::u8::u9::u10::u11::u12::u13::u14::u15::u16::u17::u18::u19::u20::u21::u22::u23::u24::u25::u26::u27::u28::u29::u30::u31::u32::u33::u34::u35::u36::u37::u38::u39::u40::u41::u42::[]),[]⟩ w0:=by
 conv=>arg 2;whnf
 clear _hQ;obtain ⟨⟨m0,m1,m14⟩,⟨m2,m3,m4⟩,⟨m5,m6,m7⟩,⟨m8,m9,m10⟩,⟨m11,m12,m13⟩⟩:=HR.out.cells;have q0:=HR.out.thawed 0;have q1:=HR.out.thawed 1;have q2:=HR.out.thawed 2;have q3:=HR.out.thawed 3;have q4:=HR.out.thawed 4;have q5:=HR.out.thawed 5;have q6:=HR.out.thawed 6;have q7:=HR.out.thawed 7;have q8:=HR.out.thawed 8;have q9:=HR.out.thawed 9;have q10:=HR.out.thawed 10;have q11:=HR.out.thawed 11;have q12:=HR.out.thawed 12;have q13:=HR.out.thawed 13;have q14:=HR.out.thawed 14;obtain ⟨p0,p1,p14⟩:=HP.out.cells;obtain ⟨p2,p3,p4,p5,p6,p7,p8,p9,p10,p11,p12,p13⟩:=HP.out.tabs;go_wp2_with fail;exact Hk.out _ _ _ rfl
theorem mof_any (s:List UInt8) (hs:s.length≤maxLen) (w:World) :
  Calls Tryz.prog 58 #[.string ⟨s.toArray⟩] w fun e w'=>∃ X,e=.returned (.tuple #[macV (ofM s).1 X.ptr,.int .i64 ((ofM s).2:Int)])∧TreeAt w' X∧X.sh=(ofM s).1.sh∧Below w.heap.size w w':=by
 have Hof:=Lib.hid (fun y:World=>of_any1 s hs y);have HI:=Lib.hid (of_start w s hs);obtain ⟨F,hF⟩:∃ F,ofM s=F:=⟨_,rfl⟩;rw [hF];unfold ofM at hF;obtain ⟨Y,hY⟩:∃ Y,ofL 4 0 (⟨0,s⟩,macNone)=Y:=⟨_,rfl⟩;rw [hY] at hF;have HF:=Lib.hid hF;clear hF
 have HY:=Lib.hid hY;clear hY
 go_enter Tryz.func58,Tryz.ntmps58
 go_upto_region 4 with ((with_reducible refine (Hof.out _).mono ?_);rintro e w2 ⟨rfl,rfl⟩)
 change Code.wp _ _ _ _ (ofW w s);generalize ofW w s=w1 at *;go_loopw [18] (fun s18 wr=>∃ (i:Nat) (X:RdV × MacV) (T:Tr),i≤4∧s18=.int .i64 (i:Int)∧OfI w X T wr∧X.1.e=0∧ofL (4 - i) i X=Y) (fun s18 _=>4 - (intOf s18).toNat)
 case atStart=>exact ⟨0,_,_,by omega,rfl,HI.out,rfl,HY.out⟩
 case round =>
  obtain ⟨i,X,T,hi,rfl,hI,hX0,hfin⟩:=hrel;clear HI HY Hof;have HI:=Lib.hid hI;clear hI
  by_cases hlt:i<4
  ·
   have hlt':(i:Int)<4:=by omega
   have hsucc:=tsucc (n:=i) (by omega);obtain ⟨f,hf,hfs,hcall⟩:=ofStep_any i hlt w X T wr HI.out;have hcell:wr.cell? ⟨w.heap.size+1+1+1+1,i,none⟩=some (.func (.func f) #[] #[.pointer (some ⟨w.heap.size+1+1,0,none⟩),.pointer (some ⟨w.heap.size+1+1+1,0,none⟩)]):=by
    simp only [World.cell?,HI.out.fn];simpa using hf
   rw [show 4 - i=(4 - (i+1))+1 by omega] at hfin;unfold ofL at hfin;obtain ⟨Z,hZ⟩:∃ Z,ofStep i X=Z:=⟨_,rfl⟩;rw [hZ] at hcall hfin;have Hfin:=Lib.hid hfin;clear hfin hZ hX0
   have Hcall:=Lib.hid hcall;clear hcall hf
   have Herr:=Lib.hid (fun (y:World) (hy:RdAt y (w.heap.size+1) Z.1)=>err_any Z.1 (w.heap.size+1) y hy);go_upto_region 6 with fail;go_cut [22,23] (fun _ _ wx=>∃ U,OfI w Z U wx)
   case first =>
    rcases hfs with rfl | rfl | rfl | rfl
    all_goals (go_wp2_with ((with_reducible refine Hcall.out.mono ?_);rintro e w3 ⟨rfl,h3⟩;have H3:=Lib.hid h3;clear h3 Hcall);go_meet;exact H3.out)
   case rest =>
   obtain ⟨U,hcI⟩:=hcut;generalize wc=w3 at *;clear hcell HI Hcall hfs;have H3:=Lib.hid hcI;clear hcI
   have f4:=H3.out.pt.get;go_upto_region 8 with ((with_reducible refine (Herr.out _ H3.out.pt.rd).mono ?_);rintro e w' ⟨rfl,rfl⟩)
   clear f4 Herr;by_cases he:Z.1.e=0
   ·
    have he':((Z.1.e:Int) != 0)=false:=by simp [he]
    have hq:=Hfin.out;rw [if_pos he] at hq;go_wp2_with fail;go_roundw
    case rel=>exact ⟨i+1,Z,U,hlt,rfl,H3.out,he,hq⟩
    case measure=>simp [intOf];omega
   ·
    have he':((Z.1.e:Int) != 0)=true:=by rw [bne_iff_ne];omega
    have hq:=Hfin.out;rw [if_neg he] at hq;have hres:F=(macNone,Z.1.e):=by rw [← HF.out];unfold ofRes;rw [← hq,if_neg he]
    subst hres;clear Hfin hq HF he;have HS:=Lib.hid (H3.out.store macNone none);go_upto_region 9 with fail;refine of_reg9 w3 w.heap.size (Z.1.e:Int) (fun _ _ d _ _ h=>by cases d <;> exact h) (Lib.hid H3.out.res) _ _ _ _ _ _ _ _ _ _ _ _ _ _ _ _ _ _ _ _ _ _ _ _ _ _ _ _ _ _ _ _ _ _ _ _ _ _ _ _ _ (Lib.hid ?_);intro s0 s1 w8 hw8;subst hw8;go_wp2_with fail;change bodyPost _ _ _ _ _ (rowSt w3 w.heap.size 0 (macCells macNone none));clear H3;generalize rowSt w3 w.heap.size 0 (macCells macNone none)=w9 at *;obtain ⟨⟨o0,o1,o14⟩,⟨o2,o3,o4⟩,⟨o5,o6,o7⟩,⟨o8,o9,o10⟩,⟨o11,o12,o13⟩⟩:=HS.out.1.cells;refine bodyPost_ret (v:=.tuple #[.agg (macCells macNone none).toArray,.int .i64 (Z.1.e:Int)]) (by rw [mac_eta];simp [results,Tryz.results58,go_sem,o0,o1,o2,o3,o4,o5,o6,o7,o8,o9,o10,o11,o12,o13,o14] <;> rfl) rfl ?_;exact ⟨.nil,rfl,trivial,rfl,HS.out.2.2⟩
  ·
   have hlt' : ¬ (i:Int)<4:=by omega
   have hi4:i=4:=by omega
   subst hi4;have hXY:X=Y:=hfin;subst hXY;clear hfin;have hq:=HF.out;unfold ofRes at hq;rw [if_pos hX0] at hq;have Hend:=Lib.hid (end_any X.1 (w.heap.size+1) wr HI.out.pt.rd);generalize X.1.end_=E at *;have f4:=HI.out.pt.get;have Hq:=Lib.hid hq;clear hq HF hX0
   go_upto_region 12 with ((with_reducible refine Hend.out.mono ?_);rintro e w3 ⟨rfl,h3⟩;have H3:=Lib.hid (HI.out.only h3.1 h3.2);clear h3 f4 HI Hend)
   by_cases he:E.e=0
   ·
    have he':((E.e:Int) != 0)=false:=by simp [he]
    have hq:=Hq.out;rw [if_pos he] at hq;have Hq2:=Lib.hid hq;clear hq Hq he
    have hst:=sets_any X.2 T.ptr w3 H3.out.sml.1 H3.out.sml.2;rw [mac_eta] at hst;obtain ⟨b,hb⟩:∃ b,setsOk X.2=b:=⟨_,rfl⟩;rw [hb] at hst;have hq:=Hq2.out;rw [hb] at hq;have Hst:=Lib.hid hst;clear hst hb Hq2
    obtain ⟨p0,p1,p14⟩:=H3.out.pt.p.cells;obtain ⟨p2,p3,p4,p5,p6,p7,p8,p9,p10,p11,p12,p13⟩:=H3.out.pt.p.tabs;cases b with
    | false =>
     simp only [Bool.false_eq_true,if_false] at hq;subst hq;go_upto_region 15 with ((with_reducible refine Hst.out.mono ?_);rintro e w4 ⟨rfl,hb4⟩;have H4:=Lib.hid (H3.out.below hb4);clear hb4 Hst H3 p0 p1 p14 p2 p3 p4 p5 p6 p7 p8 p9 p10 p11 p12 p13)
     have HS:=Lib.hid (H4.out.store macNone none);go_upto_region 15 with fail;refine of_reg15 w4 w.heap.size  (fun _ _ d _ _ h=>by cases d <;> exact h) (Lib.hid H4.out.res) _ _ _ _ _ _ _ _ _ _ _ _ _ _ _ _ _ _ _ _ _ _ _ _ _ _ _ _ _ _ _ _ _ _ _ _ _ _ _ _ _ _ (Lib.hid ?_);intro s0 w8 hw8;subst hw8;go_wp2_with fail;change bodyPost _ _ _ _ _ (rowSt w4 w.heap.size 0 (macCells macNone none));have HT:=Lib.hid (HS.out.2.1 _ H4.out.pt.tr);have Hsh:=Lib.hid H4.out.pt.sh;clear H4;generalize rowSt w4 w.heap.size 0 (macCells macNone none)=w9 at *;obtain ⟨⟨o0,o1,o14⟩,⟨o2,o3,o4⟩,⟨o5,o6,o7⟩,⟨o8,o9,o10⟩,⟨o11,o12,o13⟩⟩:=HS.out.1.cells;refine bodyPost_ret (v:=.tuple #[.agg (macCells macNone none).toArray,.int .i64 4]) (by rw [mac_eta];simp [results,Tryz.results58,go_sem,o0,o1,o2,o3,o4,o5,o6,o7,o8,o9,o10,o11,o12,o13,o14] <;> rfl) rfl ?_;exact ⟨.nil,rfl,trivial,rfl,HS.out.2.2⟩
    | true =>
     simp only [if_true] at hq;subst hq;go_upto_region 16 with ((with_reducible refine Hst.out.mono ?_);rintro e w4 ⟨rfl,hb4⟩;have H4:=Lib.hid (H3.out.below hb4);clear hb4 Hst H3 p0 p1 p14 p2 p3 p4 p5 p6 p7 p8 p9 p10 p11 p12 p13)
     have HS:=Lib.hid (H4.out.store X.2 T.ptr);go_upto_region 16 with fail;refine of_reg16 w4 w.heap.size (w.heap.size+1+1+1) X.2 T.ptr (fun _ _ d _ _ h=>by cases d <;> exact h) (Lib.hid H4.out.res) (Lib.hid H4.out.pt.p) _ _ _ _ _ _ _ _ _ _ _ _ _ _ _ _ _ _ _ _ _ _ _ _ _ _ _ _ _ _ _ _ _ _ _ _ _ _ _ _ _ (Lib.hid ?_);intro s0 s1 w8 hw8;subst hw8;go_wp2_with fail;change bodyPost _ _ _ _ _ (rowSt w4 w.heap.size 0 (macCells X.2 T.ptr));have HT:=Lib.hid (HS.out.2.1 _ H4.out.pt.tr);have Hsh:=Lib.hid H4.out.pt.sh;clear H4;generalize rowSt w4 w.heap.size 0 (macCells X.2 T.ptr)=w9 at *;obtain ⟨⟨o0,o1,o14⟩,⟨o2,o3,o4⟩,⟨o5,o6,o7⟩,⟨o8,o9,o10⟩,⟨o11,o12,o13⟩⟩:=HS.out.1.cells;refine bodyPost_ret (v:=.tuple #[.agg (macCells X.2 T.ptr).toArray,.int .i64 0]) (by rw [mac_eta];simp [results,Tryz.results58,go_sem,o0,o1,o2,o3,o4,o5,o6,o7,o8,o9,o10,o11,o12,o13,o14] <;> rfl) rfl ?_;exact ⟨T,rfl,HT.out,Hsh.out,HS.out.2.2⟩
   ·
    have he':((E.e:Int) != 0)=true:=by rw [bne_iff_ne];omega
    have hq:=Hq.out;rw [if_neg he] at hq;subst hq;clear Hq he;have HS:=Lib.hid (H3.out.store macNone none);go_upto_region 13 with fail;refine of_reg13 w3 w.heap.size (E.e:Int) (fun _ _ d _ _ h=>by cases d <;> exact h) (Lib.hid H3.out.res) _ _ _ _ _ _ _ _ _ _ _ _ _ _ _ _ _ _ _ _ _ _ _ _ _ _ _ _ _ _ _ _ _ _ _ _ _ _ _ _ _ (Lib.hid ?_);intro s0 s1 w8 hw8;subst hw8;go_wp2_with fail;change bodyPost _ _ _ _ _ (rowSt w3 w.heap.size 0 (macCells macNone none));have HT:=Lib.hid (HS.out.2.1 _ H3.out.pt.tr);have Hsh:=Lib.hid H3.out.pt.sh;clear H3;generalize rowSt w3 w.heap.size 0 (macCells macNone none)=w9 at *;obtain ⟨⟨o0,o1,o14⟩,⟨o2,o3,o4⟩,⟨o5,o6,o7⟩,⟨o8,o9,o10⟩,⟨o11,o12,o13⟩⟩:=HS.out.1.cells;refine bodyPost_ret (v:=.tuple #[.agg (macCells macNone none).toArray,.int .i64 (E.e:Int)]) (by rw [mac_eta];simp [results,Tryz.results58,go_sem,o0,o1,o2,o3,o4,o5,o6,o7,o8,o9,o10,o11,o12,o13,o14] <;> rfl) rfl ?_;exact ⟨.nil,rfl,trivial,rfl,HS.out.2.2⟩
theorem macB_len {M:MacV} (h:MacFit M):(macB M).length≤maxLen:=by
 have h1:=macHead_len (macFit_by h);have h2:=pairsB_len M.sh.kv (macFit_by h).kv;have h3:=h.kv.num;rw [cnt_kv] at h3;unfold macB maxLen;rw [List.length_append];omega
def lastOkB (x:LastV):Bool:=decide (x.code≤3) && decide (x.text.size≤64) && (decide (x.seq.toNat≠0) || lastE x lastNone)
def tabOkB (t:TabV):Nat→Bool
 | 0=>true
 | n+1=>tabOkB t n && lastOkB (t.at_ n)
theorem tabOkB_no {t:TabV}:∀ {n m:Nat},n<m→lastOkB (t.at_ n)=false→tabOkB t m=false
 | n,0,h,_=>by omega
 | n,m+1,h,hl=>by
  unfold tabOkB;by_cases e:n=m
  ·
   subst e;rw [hl,Bool.and_false]
  ·
   rw [tabOkB_no (show n<m by omega) hl,Bool.false_and]
set_option maxHeartbeats 8000000 in
theorem tableMay_any (M:MacV) (P:Option Addr) (w:World) :
  Calls Tryz.prog 158 #[.agg (macCells M P).toArray] w fun e w'=>e=.returned (.bool (tabOkB M.tab 4))∧Below w.heap.size w w':=by
 have hb1:=(Below.refl w.heap.size w).alloc (Nat.le_refl _) (.cells (macCells M P).toArray 36);have hp1:PartAt (w.alloc (.cells (macCells M P).toArray 36)) w.heap.size M P:=heap_alloc_new _ _;have hidx:=fun (i:Nat) (hi:i<4) (y:World)=>tab_index M.tab i hi y
 obtain ⟨V,hV⟩:∃ V:Value,.agg (tabCells M.tab).toArray=V:=⟨_,rfl⟩;rw [hV] at hidx;rw [tab_eta] at hV;have Hidx:=Lib.hid hidx;clear hidx
 obtain ⟨rb,hrb⟩:∃ b,tabOkB M.tab 4=b:=⟨_,rfl⟩;rw [hrb];have Hrb:=Lib.hid hrb;clear hrb
 rw [mac_eta];go_enter Tryz.func158,Tryz.ntmps158
 go_upto_region 1 with fail;change Code.wp _ _ _ _ (w.alloc (.cells (macCells M P).toArray 36));generalize w.alloc (.cells (macCells M P).toArray 36)=w1 at *;obtain ⟨p2,p3,p4,p5,p6,p7,p8,p9,p10,p11,p12,p13⟩:=hp1.tabs;have Hb1:=Lib.hid hb1;clear hb1 hp1
 go_wp2_with fail;clear p2 p3 p4 p5 p6 p7 p8 p9 p10 p11 p12 p13 hV;go_loopw [7] (fun s7 wr=>∃ (i:Nat),i≤4∧s7=.int .i64 (i:Int)∧tabOkB M.tab i=true∧Below w.heap.size w wr) (fun s7 _=>4 - (intOf s7).toNat)
 case atStart=>exact ⟨0,by omega,rfl,rfl,Hb1.out⟩
 case round =>
  clear Hb1;obtain ⟨i,hi,rfl,hok,hbel⟩:=hrel;have Hbel:=Lib.hid hbel;clear hbel
  have Hok:=Lib.hid hok;clear hok
  by_cases hi4:i<4
  ·
   have hi4':(i:Int)<4:=by omega
   have hix:=Hidx.out i hi4;have hno:=tabOkB_no (t:=M.tab) hi4;have hstep:tabOkB M.tab (i+1)=(tabOkB M.tab i && lastOkB (M.tab.at_ i)):=rfl;rw [Hok.out,Bool.true_and] at hstep;obtain ⟨x,hx⟩:∃ x,M.tab.at_ i=x:=⟨_,rfl⟩;rw [hx] at hix hno hstep;clear hx;rw [Hrb.out] at hno;have Hno:=Lib.hid hno;clear hno
   have Hstep:=Lib.hid hstep;clear hstep
   have hixA:∀ y,(Instr.index 31 V (.int .i64 (i:Int))).run Tryz.prog y=.ok (.agg #[.int .u32 (x.seq.toNat:Int),.int .u8 (x.code:Int),.string x.text]) y:=hix;clear hix;have hL:=LastCells.new wr x;have hba:=Hbel.out.alloc Hbel.out.size (.cells (lastCells x).toArray 29);have hisu:=tsucc (n:=i) (by omega);have hlk:lastOkB x=(decide (x.code≤3) && decide (x.text.size≤64) && (decide (x.seq.toNat≠0) || lastE x lastNone)):=rfl;go_upto_region 4 with fail;change Code.wp _ _ _ _ (wr.alloc (.cells (lastCells x).toArray 29));generalize wr.alloc (.cells (lastCells x).toArray 29)=w2 at *;have Hba:=Lib.hid hba;clear hba
   obtain ⟨l0,l1,l2⟩:=hL;clear hixA;by_cases c1:x.code≤3
   ·
    have c1' : ¬ (3:Int)<(x.code:Int):=by omega
    by_cases c2:x.text.size≤64
    ·
     have c2' : ¬ (64:Int)<(x.text.size:Int):=by omega
     rw [decide_eq_true c1,decide_eq_true c2,Bool.true_and,Bool.true_and] at hlk;by_cases c3:x.seq.toNat=0
     ·
      have c3':((x.seq.toNat:Int) == 0)=true:=by simp [c3]
      rw [show decide (x.seq.toNat≠0)=false by simp [c3],Bool.false_or] at hlk;have hbe:lastE x lastNone=(decide (x.code=0) && decide (x.text.toList=[])):=by
       unfold lastE;rw [show (lastNone.seq.toNat)=0 from rfl,show lastNone.code=0 from rfl,show lastNone.text.toList=[] by rw [show lastNone.text=ByteArray.empty from rfl,ByteArray.toList_eq];rfl,c3];simp
      rw [hbe] at hlk;have Hlk:=Lib.hid hlk;clear hlk hbe
      clear c1 c2 c3;by_cases d1:x.code=0
      ·
       by_cases d2:x.text.toList=[]
       ·
        have hk:lastOkB x=true:=by rw [Hlk.out];simp [d1,d2]
        have Hk:=Lib.hid hk;clear hk Hlk
        go_wp2_with fail;go_roundw
        case rel=>exact ⟨i+1,hi4,rfl,by rw [Hstep.out,Hk.out],Hba.out⟩
        case measure=>simp [intOf];omega
       ·
        have hk:lastOkB x=false:=by rw [Hlk.out];simp [d2]
        have Hk:=Lib.hid hk;clear hk Hlk
        go_wp2_with fail;go_ret;exact ⟨by rw [Hno.out Hk.out];rfl,Hba.out⟩
      ·
       have hk:lastOkB x=false:=by rw [Hlk.out];simp [d1]
       have Hk:=Lib.hid hk;clear hk Hlk
       go_wp2_with fail;go_ret;exact ⟨by rw [Hno.out Hk.out];rfl,Hba.out⟩
     ·
      have c3':((x.seq.toNat:Int) == 0)=false:=by simp;omega
      rw [show decide (x.seq.toNat≠0)=true by simp [c3],Bool.true_or] at hlk;have Hlk:=Lib.hid hlk;clear hlk
      clear c1 c2 c3;go_wp2_with fail;go_roundw
      case rel=>exact ⟨i+1,hi4,rfl,by rw [Hstep.out,Hlk.out],Hba.out⟩
      case measure=>simp [intOf];omega
    ·
     have c2':(64:Int)<(x.text.size:Int):=by omega
     rw [decide_eq_false c2,Bool.and_false,Bool.false_and] at hlk;have Hlk:=Lib.hid hlk;clear hlk
     clear c1 c2;go_wp2_with fail;go_ret;exact ⟨by rw [Hno.out Hlk.out];rfl,Hba.out⟩
   ·
    have c1':(3:Int)<(x.code:Int):=by omega
    rw [decide_eq_false c1,Bool.false_and,Bool.false_and] at hlk;have Hlk:=Lib.hid hlk;clear hlk
    clear c1;go_wp2_with fail;go_ret;exact ⟨by rw [Hno.out Hlk.out];rfl,Hba.out⟩
  ·
   have hi4' : ¬ (i:Int)<4:=by omega
   have he:i=4:=by omega
   subst he;have hr:rb=true:=by rw [← Hrb.out,Hok.out]
   subst hr;go_wp2_with fail;go_ret;exact ⟨rfl,Hbel.out⟩
end Go.Proofs.YtbckjgageofldaaGreat
