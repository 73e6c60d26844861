/- Chains: change: what leads from a base to another one. Condition: the chain lies there. -/
import Derived.Test.YtbckjgageofldaaGreatZLearnPlays22
import Derived.Test.YtbckjgageofldaaGreatZLearnPlays23
import Derived.Test.YtbckjgageofldaaGreatZLearnPlays18
import Derived.Laws.CopyOwn
import Derived.OwnWalk
set_option maxRecDepth 100000
set_option maxHeartbeats 16000000
namespace Go.Proofs.YtbckjgageofldaaGreat
open Go.RowKit
theorem mac_size:(Tryz.prog.info? 38).map (·.size)=some 15:=by kernel_rfl
theorem mac_size2 (M:MacV) (P:Option Addr):(Tryz.prog.info? 38).map (·.size)=some (macCells M P).length:=mac_size
theorem bs_range {y:World} {g:Nat} {b:BsV} (h:BsAt y g b):y.rangeAt g 0 (macCells b.M b.P):=fun j v hv=>range_row h j v (by
 unfold bsCells;rw [List.getElem?_append_left (List.getElem?_eq_some_iff.1 hv).1];exact hv)
theorem lm_one (m:LmV):∀ v ∈ lmCells m,v.oneCell'=true:=by simp [lmCells,Value.oneCell']
theorem ch_start {w:World} (b c:BsV) (X Y:Tr) (hX:TreeAt w X) (hY:TreeAt w Y):∀ y,y=((w.alloc (.cells (bsCells b).toArray 110)).alloc (.cells (bsCells c).toArray 110)).alloc (.cells (lmCells lm0).toArray 58)→BsAt y w.heap.size b∧BsAt y (w.heap.size+1) c∧LmAt y (w.heap.size+1+1) lm0∧TreeAt y X∧TreeAt y Y∧Below w.heap.size w y:=by
 rintro y rfl;have b1:=(Below.refl w.heap.size w).alloc (Nat.le_refl _) (.cells (bsCells b).toArray 110);have m1:BsAt (w.alloc (.cells (bsCells b).toArray 110)) w.heap.size b:=heap_alloc_new _ _;generalize hq1:w.alloc (.cells (bsCells b).toArray 110)=w1 at *
 have b2:=(Below.refl w1.heap.size w1).alloc (Nat.le_refl _) (.cells (bsCells c).toArray 110);have m2:BsAt (w1.alloc (.cells (bsCells c).toArray 110)) w1.heap.size c:=heap_alloc_new _ _;have s1:w1.heap.size=w.heap.size+1:=by rw [← hq1,World.size_alloc]
 generalize hq2:w1.alloc (.cells (bsCells c).toArray 110)=w2 at *
 have b3:=(Below.refl w2.heap.size w2).alloc (Nat.le_refl _) (.cells (lmCells lm0).toArray 58);have m3:LmAt (w2.alloc (.cells (lmCells lm0).toArray 58)) w2.heap.size lm0:=heap_alloc_new _ _;have s2:w2.heap.size=w1.heap.size+1:=by rw [← hq2,World.size_alloc]
 have b23:=b2.trans (b3.mono b2.size);have ball:=b1.trans (b23.mono b1.size);rw [s1] at m2;rw [s2,s1] at m3;exact ⟨m1.below b23,m2.below b3,m3,hX.below ball,hY.below ball,ball⟩
theorem lchange_any (b c:BsV) (X Y:Tr) (hb:MacAll b.M) (hc:MacAll c.M) (hall:b.M.all=c.M.all) (htl:c.t.length≤3) (hbt:b.top<18446744073709551616) (hct:c.top<18446744073709551616) (hPX:b.P=X.ptr) (hPY:c.P=Y.ptr) (w:World) (hX:TreeAt w X) (hY:TreeAt w Y) (hsX:X.sh=b.M.sh) (hsY:Y.sh=c.M.sh) :
  Calls Tryz.prog 40 #[bsV b,bsV c] w fun e w'=>e=.returned (.tuple #[lmV ⟨13,b.top,c.top,leadB c.t b.M c.M⟩,.bool true])∧Below w.heap.size w w':=by
 obtain ⟨S,hS⟩:∃ S:ByteArray,(⟨(diffM b.M c.M).toArray⟩:ByteArray)=S:=⟨_,rfl⟩;obtain ⟨ca,hVA⟩:∃ V,macCells b.M b.P=V:=⟨_,rfl⟩;obtain ⟨cb,hVB⟩:∃ V,macCells c.M c.P=V:=⟨_,rfl⟩;have hd:∀ y:World,TreeAt y X→TreeAt y Y→Calls Tryz.prog 76 #[.agg ca.toArray,.agg cb.toArray] y fun e w'=>e=.returned (.tuple #[.string S,.int .i64 0])∧Below y.heap.size y w':=fun y h1 h2=>by
  have k:=diff_calls hb hc hall h1 h2 hsX hsY;unfold macV at k;rw [← hPX, ← hPY,hVA,hVB,hS] at k;exact k
 have hval:strL ⟨c.t.toArray⟩++(diffM b.M c.M)=leadB c.t b.M c.M:=by
  unfold strL leadB;rfl
 have hin:=inside_len hb hc htl b.top c.top;have hvl:=leadB_len hb hc htl;have Hd:=Lib.hid hd;have Hl:=Lib.hid (And.intro htl (And.intro hbt hct));have Hval:=Lib.hid hval;have HS:=Lib.hid hS;have HV:=Lib.hid (And.intro hVA hVB);have Hin:=Lib.hid (And.intro hin hvl);have Hst:=Lib.hid (ch_start b c X Y hX hY);clear hd hval hS hVA hVB hin hvl hX hY htl hbt hct hb hc hall hPX hPY hsX hsY;obtain ⟨g,hg⟩:∃ g,w.heap.size=g:=⟨_,rfl⟩;rw [hg] at Hst;unfold bsV;rw [bs_eta,bs_eta];go_enter Tryz.func40,Tryz.ntmps40
 go_upto_region 1 with fail;simp only [← bs_eta];change Code.wp _ _ _ _ (((w.alloc (.cells (bsCells b).toArray 110)).alloc (.cells (bsCells c).toArray 110)).alloc (.cells (lmCells lm0).toArray 58));obtain ⟨w1,hw1⟩:∃ y,y=((w.alloc (.cells (bsCells b).toArray 110)).alloc (.cells (bsCells c).toArray 110)).alloc (.cells (lmCells lm0).toArray 58):=⟨_,rfl⟩;rw [← hw1];obtain ⟨h1,h2,h3,h4,h5,h6⟩:=Hst.out w1 hw1;have HI:=Lib.hid (And.intro h1 (And.intro h2 h3));have hd:=Hd.out w1 h4 h5;have HB:=Lib.hid h6;have Hg:=Lib.hid hg;have la:=bs_range h1;have lb:=bs_range h2;rw [HV.out.1] at la;rw [HV.out.2] at lb;have la2:=mac_size2 b.M b.P;have lb2:=mac_size2 c.M c.P;rw [HV.out.1] at la2;rw [HV.out.2] at lb2;have Hla:=Lib.hid (And.intro la la2);have Hlb:=Lib.hid (And.intro lb lb2);clear la lb la2 lb2;have Hd1:=Lib.hid hd;clear hd h1 h2 h3 h4 h5 h6 hw1 Hst Hd hg;go_upto_region 4 with (first
  | (with_reducible refine wpList_load_mid rfl 38 _ rfl g 0 rfl ca _ Hla.out.1 Tryz.underlying38 rfl Hla.out.2 ?_)
  | (with_reducible refine wpList_load_mid rfl 38 _ rfl (g+1) 0 rfl cb _ Hlb.out.1 Tryz.underlying38 rfl Hlb.out.2 ?_)
  | ((with_reducible refine Hd1.out.mono ?_);rintro e w2 ⟨rfl,hb2⟩;have HB2:=Lib.hid hb2;clear hb2))
 have HI2:=Lib.hid (And.intro (HI.out.1.below HB2.out) (And.intro (HI.out.2.1.below HB2.out) (HI.out.2.2.below HB2.out)));have HB3:=Lib.hid (show Below g w w2 by have h6:=HB.out;have h7:=HB2.out;exact h6.trans (h7.mono (Nat.le_trans (Nat.le_of_eq Hg.out.symm) h6.size)));clear HI HB HB2 Hd1 Hla Hlb;have f16:w2.cell? ⟨g+1,16,none⟩=some (.string ⟨c.t.toArray⟩):=cell_of_row _ _ _ _ _ _ HI2.out.2.1;have hsz:(⟨c.t.toArray⟩:ByteArray).size=c.t.length:=rfl;have hs:=str_any _ [] ⟨c.t.toArray⟩ (by rw [hsz];have:=Hl.out.1;simp;omega) w2 (ReadB.nil _);have Hs:=Lib.hid hs;clear hs hsz;have hlim : ¬ 9223372036854775807<(strL ⟨c.t.toArray⟩).length+S.size:=by
  have h1:=strL_len ⟨c.t.toArray⟩;have h2:(⟨c.t.toArray⟩:ByteArray).size=c.t.length:=rfl;have h3:S.size=(diffM b.M c.M).length:=by rw [← HS.out];rfl
  have h4:=Hl.out.1;have h5:=Hin.out.2;rw [← Hval.out,List.length_append] at h5;omega
 go_upto_region 5 with ((with_reducible refine Hs.out.mono ?_);rintro e w3 ⟨v3,rfl,ho3,hb3⟩;have HB3b:=Lib.hid hb3;have hcv:=ho3.read.conv Tryz.underlying44 Tryz.underlying5 Tryz.underlying9;rw [List.nil_append] at hcv;clear ho3 hb3)
 have HI3:=Lib.hid (And.intro (HI2.out.1.below HB3b.out) (And.intro (HI2.out.2.1.below HB3b.out) (HI2.out.2.2.below HB3b.out)));have HB4:=Lib.hid (show Below g w w3 by have h6:=HB3.out;have h7:=HB3b.out;exact h6.trans (h7.mono (Nat.le_trans (Nat.le_of_eq Hg.out.symm) h6.size)));clear HI2 HB3 HB3b Hs f16 hcv hlim;obtain ⟨V,hV⟩:∃ V:ByteArray,(⟨(strL ⟨c.t.toArray⟩).toArray⟩:ByteArray)++S=V:=⟨_,rfl⟩;rw [hV];have hV2:V=⟨(leadB c.t b.M c.M).toArray⟩:=by
  rw [← hV, ← HS.out, ← Hval.out];exact str_app _ _
 have HV2:=Lib.hid hV2;clear hV hV2;refine (wpIn_wide (n:=1)).1 ?_;refine RegJ.wpIn_region_plan (F:=Fence.wide) (KeptW w3) (.step 1 0 (.step 2 0 (.step 4 0 (.step 5 0 (.step 7 0 (.step 0 1 (.step 3 1 (.step 6 1 (.step 8 1 (.step 9 0 .nil)))))))))) (by kernel_rfl) (by kernel_rfl) (by kernel_rfl) (fun _ _ d _ _ h=>by cases d <;> exact h) ⟨rfl,rfl,rfl,Nat.le_refl _,fun _ _=>rfl⟩ ?_;dsimp only [RegJ.pickJ,List.getElem?_cons_zero,List.getElem?_cons_succ];change RegJ.Can _ _ _ _ _ _ _ _ w3.drew;have hkd:KeptW w3 w3.drew:=⟨rfl,rfl,rfl,Nat.le_refl _,fun _ _=>rfl⟩;have hkp:=hkd;generalize w3.drew=v1 at *;refine RegJ.reads ?_;intro K hK;go_simp;(first | refine ⟨_,fun _ _=>rfl,hK _ ?_⟩ | refine hK _ ?_);clear hK K;refine RegJ.reads ?_;intro K hK;go_simp;refine ⟨.int .u64 (b.top:Int),fun y hy=>?_,hK _ ?_⟩
 ·
  have f0:y.cell? ⟨g,15,none⟩=some (.int .u64 (b.top:Int)):=cell_of_row _ _ _ _ _ _ (HI3.out.1.below (KeptW.bel hy));go_simp
 clear hK K;refine RegJ.reads ?_;intro K hK;go_simp;(first | refine ⟨_,fun _ _=>rfl,hK _ ?_⟩ | refine hK _ ?_);clear hK K;refine RegJ.reads ?_;intro K hK;go_simp;refine ⟨.int .u64 (c.top:Int),fun y hy=>?_,hK _ ?_⟩
 ·
  have f0:y.cell? ⟨g+1,15,none⟩=some (.int .u64 (c.top:Int)):=cell_of_row _ _ _ _ _ _ (HI3.out.2.1.below (KeptW.bel hy));go_simp
 clear hK K;refine RegJ.reads ?_;intro K hK;go_simp;(first | refine ⟨_,fun _ _=>rfl,hK _ ?_⟩ | refine hK _ ?_);clear hK K;refine RegJ.turns (fun _=>trivial) ?_;intro K K0 hK hK0;go_simp;have hbq:=(Below.refl v1.heap.size v1).alloc (Nat.le_refl _) (.cells #[.int .u8 13] 5);have x1k:KeptW w3 (v1.alloc (.cells #[.int .u8 13] 5)):=KeptW.mono hkd hbq;have x1p:KeptW w3 (v1.alloc (.cells #[.int .u8 13] 5)):=KeptW.mono hkp hbq;have Hone:=Lib.hid (show ReadB (v1.alloc (.cells #[.int .u8 13] 5)) (.slice (some ⟨v1.heap.size,0,none⟩) 1 1) [13] from ReadB.one v1 13 5);refine hK (KeptW (v1.alloc (.cells #[.int .u8 13] 5))) _ (v1.alloc (.cells #[.int .u8 13] 5)) (fun y hy=>KeptW.mono x1p (KeptW.bel hy)) (KeptW.refl _) ?_;clear hK K hK0 K0 hbq;generalize v1.alloc (.cells #[.int .u8 13] 5)=x1 at *;generalize v1.heap.size=gx1 at *;have x1r:=KeptW.refl x1;refine RegJ.turns (fun _=>trivial) ?_;intro K K0 hK hK0;go_simp;refine ⟨trivial,?_⟩;refine (callsIn_wide.2 (num_any _ [13] b.top Hl.out.2.1 (by simp) x1 Hone.out)).mono ?_;rintro e x2 ⟨n1,rfl,ho1,hb7⟩;have x2k:KeptW w3 x2:=KeptW.mono x1k hb7;have x2p:KeptW x1 x2:=KeptW.mono x1r hb7;refine hK (KeptW x2) _ x2 (fun y hy=>KeptW.mono x2p (KeptW.bel hy)) (KeptW.refl x2) ?_;clear hK K hK0 K0 hb7;have Ho1:=Lib.hid ho1.read;clear ho1;have x2r:=KeptW.refl x2;refine RegJ.turns (fun _=>trivial) ?_;intro K K0 hK hK0;go_simp;refine ⟨trivial,?_⟩;refine (callsIn_wide.2 (num_any _ ([13]++numL b.top) c.top Hl.out.2.2 (by rw [List.length_append];have:=(numL_len b.top).1;simp;omega) x2 Ho1.out)).mono ?_;rintro e x3 ⟨n2,rfl,ho2,hb7⟩;have x3k:KeptW w3 x3:=KeptW.mono x2k hb7;have x3p:KeptW x2 x3:=KeptW.mono x2r hb7;refine hK (KeptW x3) _ x3 (fun y hy=>KeptW.mono x3p (KeptW.bel hy)) (KeptW.refl x3) ?_;clear hK K hK0 K0 hb7;have Ho2:=Lib.hid ho2.read;clear ho2;have x3r:=KeptW.refl x3;refine RegJ.turns (fun _=>trivial) ?_;intro K K0 hK hK0;go_simp;refine ⟨trivial,?_⟩;refine (callsIn_wide.2 (str_any _ ([13]++numL b.top++numL c.top) V (by rw [List.length_append,List.length_append,HV2.out];have h1:=(numL_len b.top).1;have h2:=(numL_len c.top).1;have h3:=Hin.out.2;have h4:(⟨(leadB c.t b.M c.M).toArray⟩:ByteArray).size=(leadB c.t b.M c.M).length:=rfl;rw [h4];simp;omega) x3 Ho2.out)).mono ?_;rintro e x4 ⟨n3,rfl,ho3,hb7⟩;have x4k:KeptW w3 x4:=KeptW.mono x3k hb7;have x4p:KeptW x3 x4:=KeptW.mono x3r hb7;refine hK (KeptW x4) _ x4 (fun y hy=>KeptW.mono x4p (KeptW.bel hy)) (KeptW.refl x4) ?_;clear hK K hK0 K0 hb7;have Ho3:=Lib.hid ho3;clear ho3;have x4r:=KeptW.refl x4;refine RegJ.reads ?_;intro K hK;go_simp;(first | refine ⟨_,fun _ _=>rfl,hK _ ?_⟩ | refine hK _ ?_);clear hK K;refine RegJ.nil ?_;have hlen:(([13]++numL b.top++numL c.top)++strL V).length≤43200:=by
  have e:=Hin.out.1;unfold insideB at e;rw [HV2.out];exact e
 obtain ⟨a3,q3,c3,rfl⟩:=Ho3.out.read.slice;have hq:=Ho3.out.len;have hq3:q3≤43200:=by rw [hq];exact hlen
 clear hlen hq;have hle:(65536:Int)<(q3:Int) ↔ False:=by rw [iff_false];omega
 have hle2:=propext hle;clear hle hq3;have HB5:=Lib.hid (show Below g w x4 by have h6:=HB4.out;have h7:=KeptW.bel x4k;exact h6.trans (h7.mono (Nat.le_trans (Nat.le_of_eq Hg.out.symm) h6.size)));have HI5:=Lib.hid (And.intro (HI3.out.1.below (KeptW.bel x4k)) (And.intro (HI3.out.2.1.below (KeptW.bel x4k)) (HI3.out.2.2.below (KeptW.bel x4k))));clear HI3 HB4 Ho1 Ho2 Ho3 Hone;have f15:x4.cell? ⟨g,15,none⟩=some (.int .u64 (b.top:Int)):=cell_of_row _ _ _ _ _ _ HI5.out.1;have f15c:x4.cell? ⟨g+1,15,none⟩=some (.int .u64 (c.top:Int)):=cell_of_row _ _ _ _ _ _ HI5.out.2.1;have hth:=there_row (cs:=lmCells lm0) HI5.out.2.2;have hz:=lmSt_at HI5.out.2.2 ⟨13,b.top,c.top,leadB c.t b.M c.M⟩;have hbz:=rowSt_below (g:=g+1+1) (show g≤g+1+1 by omega) (lmCells ⟨13,b.top,c.top,leadB c.t b.M c.M⟩) 0 _ HB5.out;have Hth:=Lib.hid hth;have HZ:=Lib.hid hz;have HBz:=Lib.hid hbz;clear hz hbz hth;have e:=HV2.out;subst e;go_wp2_with ((with_reducible refine wpList_store_mid rfl 58 _ _ rfl (g+1+1) 0 _ rfl rfl ?_ ?_ ?_ ?_);exact Hth.out;exact lm_size;exact all_oneCell_toArray (lm_one ⟨13,b.top,c.top,leadB c.t b.M c.M⟩));change bodyPost _ _ _ _ _ (rowSt x4 (g+1+1) 0 (lmCells ⟨13,b.top,c.top,leadB c.t b.M c.M⟩));generalize rowSt x4 (g+1+1) 0 (lmCells ⟨13,b.top,c.top,leadB c.t b.M c.M⟩)=w9 at *;refine bodyPost_ret (v:=.tuple #[lmV ⟨13,b.top,c.top,leadB c.t b.M c.M⟩,.bool true]) (by simp [results,Tryz.results40,show (asAddr (Value.pointer (some ⟨g+1+1,0,none⟩))).run Tryz.prog w9=.ok ⟨g+1+1,0,none⟩ w9 from rfl,lm_loadVar HZ.out]) rfl ?_;refine ⟨rfl,?_⟩;rw [Hg.out];exact HBz.out
structure Sorts (ts:List TypeId) (n:Nat) (w w':World):Prop where
 os:w'.os=w.os
 tape:w'.tape=w.tape
 output:w'.output=w.output
 size:w.heap.size≤w'.heap.size
 block:∀ k,k<n→(∀ cs t f,w.heap[k]?=some (.cells cs t f)→t ∉ ts)→w'.heap[k]?=w.heap[k]?
theorem Sorts.refl (ts:List TypeId) (n:Nat) (w:World):Sorts ts n w w:=⟨rfl,rfl,rfl,Nat.le_refl _,fun _ _ _=>rfl⟩
theorem Sorts.trans {ts:List TypeId} {n:Nat} {a b c:World} (h:Sorts ts n a b) (k:Sorts ts n b c):Sorts ts n a c :=
 ⟨k.os.trans h.os,k.tape.trans h.tape,k.output.trans h.output,Nat.le_trans h.size k.size,fun i hi ht=>by
  have e:=h.block i hi ht;exact (k.block i hi (fun cs t f hc=>ht cs t f (e ▸ hc))).trans e⟩
theorem Sorts.mono {ts us:List TypeId} {n m:Nat} {a b:World} (h:Sorts ts n a b) (hm:m≤n) (hs:∀ t ∈ ts,t ∈ us):Sorts us m a b :=
 ⟨h.os,h.tape,h.output,h.size,fun i hi ht=>h.block i (by omega) (fun cs t f hc hin=>ht cs t f hc (hs t hin))⟩
theorem sorts_of {n:Nat} {a b:World} (h:Below n a b) (ts:List TypeId):Sorts ts n a b:=⟨h.os,h.tape,h.output,h.size,fun k hk _=>h.block k hk⟩
theorem Sorts.below {n:Nat} {a b:World} (h:Sorts [] n a b):Below n a b:=⟨h.os,h.tape,h.output,h.size,fun k hk=>h.block k hk (fun _ _ _ _ hin=>by cases hin)⟩
theorem sorts_off {L:List Nat} {ts:List TypeId} {n:Nat} {a b:World} (h:Off L n a b) (hL:∀ k ∈ L,∃ cs t f,a.heap[k]?=some (.cells cs t f)∧t ∈ ts):Sorts ts n a b :=
 ⟨h.os,h.tape,h.output,h.size,fun k hk ht=>h.block k hk (fun hin=>by
  obtain ⟨cs,t,f,h1,h2⟩:=hL k hin;exact ht cs t f h1 h2)⟩
theorem sorts_set {ts:List TypeId} {n g i:Nat} {w:World} {cs:Array Value} {t:TypeId} {f:Nat × Nat} (hg:w.heap[g]?=some (.cells cs t f)) (ht:t ∈ ts) (x:Value):Sorts ts n w (w.setCell ⟨g,i,none⟩ x) :=
 ⟨rfl,rfl,rfl,by simp,fun k _ hk=>Below.heap_setCell _ _ _ _ (fun e=>by subst e;exact hk cs t f hg ht)⟩
theorem sorts_row {ts:List TypeId} {n g:Nat} {w:World} {cs:Array Value} {t:TypeId} {f:Nat × Nat} (hg:w.heap[g]?=some (.cells cs t f)) (ht:t ∈ ts) (vs:List Value) (i:Nat):Sorts ts n w (rowSt w g i vs):=by
 have hb:=rowSt_below (Nat.zero_le _) vs i _ (Below.refl 0 w) (g:=g);exact ⟨hb.os,hb.tape,hb.output,hb.size,fun k _ hk=>rowSt_other (fun e=>by subst e;exact hk cs t f hg ht) _ _ _⟩
theorem sorts_grown {ts:List TypeId} {w w':World} {v:Value} (hg:w.grownBy w' v.ownBlock) (hv:∀ k,v.ownBlock=some k→∃ cs t f,w.heap[k]?=some (.cells cs t f)∧t ∈ ts):Sorts ts w.heap.size w w' :=
 ⟨hg.os,hg.tape,hg.output,hg.size,fun k hk ht=>hg.block k hk (fun e=>by
  obtain ⟨cs,t,f,h1,h2⟩:=hv k e.symm;exact ht cs t f h1 h2)⟩
theorem Sorts.row {ts:List TypeId} {w w':World} {g:Nat} {cs:Array Value} {t:TypeId} {f:Nat × Nat} (h:Sorts ts w.heap.size w w') (hg:w.heap[g]?=some (.cells cs t f)) (ht:t ∉ ts):w'.heap[g]?=some (.cells cs t f) :=
 (h.block g (Array.getElem?_eq_some_iff.1 hg).1 (fun cs' t' f' e=>by rw [hg] at e;cases e;exact ht)).trans hg
theorem TreeAt.sorts {ts:List TypeId} {w w':World} (hs:Sorts ts w.heap.size w w') (ht:195 ∉ ts):∀ {T:Tr},TreeAt w T→TreeAt w' T
 | .nil,_=>trivial
 | .node _ _ _ _ _ _,⟨h1,h2,h3⟩=>⟨hs.row h1 ht,TreeAt.sorts hs ht h2,TreeAt.sorts hs ht h3⟩
theorem own_row {w:World} {base:Nat} {t:TypeId} {size n:Nat} {v:Value} {xs:List Value} (h:w.ownsRow base t size v n xs):∀ k,v.ownBlock=some k→∃ cs,w.heap[k]?=some (.cells cs t (0,0)):=by
 intro k hk;rcases h.2 with ⟨rfl,_⟩ | ⟨g,cap,cur,rfl,_,hg,_⟩
 ·
  cases hk
 ·
  have e:g=k:=Option.some.inj hk;subst e;exact ⟨cur,hg⟩
theorem ownsRow_sorts {ts:List TypeId} {w w':World} {base:Nat} {t:TypeId} {size n:Nat} {v:Value} {xs:List Value} (hs:Sorts ts w.heap.size w w') (h:w.ownsRow base t size v n xs) (ht:t ∉ ts):w'.ownsRow base t size v n xs:=by
 refine ⟨h.1,?_⟩;rcases h.2 with h2 | ⟨g,cap,cur,e,h3,hg,h4⟩
 ·
  exact .inl h2
 ·
  exact .inr ⟨g,cap,cur,e,h3,hs.row hg ht,h4⟩
theorem ChAt.sorts {ts:List TypeId} {w w':World} {base p:Nat} {v:Value} {C:ChV} (hs:Sorts ts w.heap.size w w') (h:ChAt w base p v C) (h1:124 ∉ ts) (h2:24 ∉ ts):ChAt w' base p v C:=⟨hs.row h.row h1,ownsRow_sorts hs h.own h2⟩
theorem ShAt.sorts {ts:List TypeId} {w w':World} {base p:Nat} {v:Value} {L:List BsV} (hs:Sorts ts w.heap.size w w') (h:ShAt w base p v L) (h1:114 ∉ ts) (h2:110 ∉ ts):ShAt w' base p v L:=⟨hs.row h.row h1,ownsRow_sorts hs h.own h2⟩
theorem RefAt.sorts {ts:List TypeId} {w w':World} {r:RefM} {M:MacV} {z:List KeptV} (hs:Sorts ts w.heap.size w w') (h:RefAt w r M z) (h1:204 ∉ ts) (h2:179 ∉ ts):RefAt w' r M z :=
 h.stay hs.size (fun b o e=>by obtain ⟨cs,hc⟩:=h.ty b o e;rw [hc];exact hs.row hc h1) (fun b o e=>by obtain ⟨cs,hc⟩:=h.kty b o e;rw [hc];exact hs.row hc h2)
theorem push_sorts {w w':World} {base p:Nat} {v:Value} {C:ChV} (h:ChAt w base p v C) (ho:Off (p::v.ownBlock.toList) w.heap.size w w'):Sorts [124,24] w.heap.size w w' :=
 sorts_off ho (fun k hk=>by
  rcases List.mem_cons.1 hk with rfl | hk
  ·
   exact ⟨_,_,_,h.row,by simp⟩
  ·
   obtain ⟨cs,hc⟩:=own_row h.own k (by simpa using hk);exact ⟨_,_,_,hc,by simp⟩)
theorem layBase (ρ:Operand→Value) (x:World) (o:Oper) (h:o.op=.alloc 110):(execOp ρ o).run Tryz.prog x=.ok (.value (RegL.ptr x.heap.size)) (x.alloc (.cells (bsCells bs0).toArray 110 (0,0))):=by
 simp only [execOp,h];go_simp;exact ⟨rfl,rfl⟩
theorem put_low (p:Nat) (Cp:Option Addr) (b:BsV) (M:MacV) (MP:Option Addr) (top:Nat) (tl:List UInt8) (htop:top≤4611686018427387904) (htl:tl.length≤1000000) (w:World)
  (hN:∀ y:World,Below w.heap.size w y→Calls Tryz.prog 39 #[.pointer (some ⟨p,0,none⟩)] y fun e w'=>e=.returned (bsV b)∧Below y.heap.size y w')
  (hT:∀ y:World,Below w.heap.size w y→Calls Tryz.prog 22 #[.pointer Cp] y fun e w'=>e=.returned (.int .u64 (top:Int))∧Below y.heap.size y w')
  (hL:∀ y:World,Below w.heap.size w y→Calls Tryz.prog 42 #[.pointer Cp] y fun e w'=>e=.returned (.string ⟨tl.toArray⟩)∧Below y.heap.size y w') (hlo:top≤b.top) :
  Calls Tryz.prog 11 #[.pointer (some ⟨p,0,none⟩),.pointer Cp,macV M MP] w fun e w'=>e=.returned (.int .i64 2)∧Below w.heap.size w w':=by
 have hle:(top:Int)≤(b.top:Int):=by omega
 clear hlo;have hb1:=(Below.refl w.heap.size w).alloc (Nat.le_refl _) (.cells (macCells M MP).toArray 38);have hm1:MacAt (w.alloc (.cells (macCells M MP).toArray 38)) w.heap.size M MP:=heap_alloc_new _ _;have hM:∀ y:World,Calls Tryz.prog 37 #[.agg #[.int .u8 (M.all:Int),.int .u8 (M.mem:Int),.int .u32 (M.tab.a.seq.toNat:Int),.int .u8 (M.tab.a.code:Int),.string M.tab.a.text,.int .u32 (M.tab.b.seq.toNat:Int),.int .u8 (M.tab.b.code:Int),.string M.tab.b.text,.int .u32 (M.tab.c.seq.toNat:Int),.int .u8 (M.tab.c.code:Int),.string M.tab.c.text,.int .u32 (M.tab.d.seq.toNat:Int),.int .u8 (M.tab.d.code:Int),.string M.tab.d.text,.pointer MP]] y fun e w'=>e=.returned (.int .u8 (M.mem:Int))∧Below y.heap.size y w':=fun y=>mmem_any M MP y
 have HN:=Lib.hid (show ∀ y:World,Below w.heap.size w y→Calls Tryz.prog 39 #[.pointer (some ⟨p,0,none⟩)] y fun e w'=>e=.returned (.agg #[.int .u8 (b.M.all:Int),.int .u8 (b.M.mem:Int),.int .u32 (b.M.tab.a.seq.toNat:Int),.int .u8 (b.M.tab.a.code:Int),.string b.M.tab.a.text,.int .u32 (b.M.tab.b.seq.toNat:Int),.int .u8 (b.M.tab.b.code:Int),.string b.M.tab.b.text,.int .u32 (b.M.tab.c.seq.toNat:Int),.int .u8 (b.M.tab.c.code:Int),.string b.M.tab.c.text,.int .u32 (b.M.tab.d.seq.toNat:Int),.int .u8 (b.M.tab.d.code:Int),.string b.M.tab.d.text,.pointer b.P,.int .u64 (b.top:Int),.string ⟨b.t.toArray⟩])∧Below y.heap.size y w' from hN);have HT:=Lib.hid hT;have HL:=Lib.hid hL;have HM:=Lib.hid hM;have Htl:=Lib.hid htl;have hgt:((4611686018427387904:Int)<(top:Int))=False:=by rw [eq_iff_iff,iff_false];omega
 clear hN hT hL hM htop htl;unfold macV;rw [mac_eta] at hb1 hm1 ⊢;go_enter Tryz.func11,Tryz.ntmps11
 go_upto_region 3 with fail;rw [← mac_eta] at hm1 hb1;have Hm1:=Lib.hid hm1;have Hb1:=Lib.hid hb1;clear hm1 hb1;simp only [← mac_eta];change Code.wp _ _ _ _ (w.alloc (.cells (macCells M MP).toArray 38));generalize w.alloc (.cells (macCells M MP).toArray 38)=w1 at *;refine (wpIn_wide (n:=1)).1 ?_;refine RegL.wpIn_region_lays (F:=Fence.wide) (KeptW w1) [⟨6,7,.cells (bsCells bs0).toArray 110 (0,0)⟩] [(0,0),(1,0),(3,0),(2,1),(4,1),(5,2),(7,3)] (by kernel_rfl) (by kernel_rfl) (by kernel_rfl) (fun p hp=>by rw [List.mem_singleton] at hp;subst hp;exact lays_any layBase rfl) (fun _ _ d _ _ h=>by cases d <;> exact h) (fun _ _ d _ _ h=>by cases d <;> exact h) ⟨rfl,rfl,rfl,Nat.le_refl _,fun _ _=>rfl⟩ (keptW_mono w1) ?_;dsimp only [RegK.pick,List.getElem?_cons_zero,List.getElem?_cons_succ];refine RegL.reads ?_;intro K hK;rw [if_pos (by simp [Region.wanted])];refine ⟨.agg #[.int .u8 (M.all:Int),.int .u8 (M.mem:Int),.int .u32 (M.tab.a.seq.toNat:Int),.int .u8 (M.tab.a.code:Int),.string M.tab.a.text,.int .u32 (M.tab.b.seq.toNat:Int),.int .u8 (M.tab.b.code:Int),.string M.tab.b.text,.int .u32 (M.tab.c.seq.toNat:Int),.int .u8 (M.tab.c.code:Int),.string M.tab.c.text,.int .u32 (M.tab.d.seq.toNat:Int),.int .u8 (M.tab.d.code:Int),.string M.tab.d.text,.pointer MP],fun y hy=>exec_load rfl rfl (row_loadAt (P:=Tryz.prog) (cs:=macCells M MP) (Hm1.out.below (KeptW.bel hy)) Tryz.underlying38 rfl mac_size),hK _ ?_⟩;clear hK K;go_simp;refine RegL.reads ?_;intro K hK;go_simp;(first | refine ⟨_,fun _ _=>rfl,hK _ ?_⟩ | refine hK _ ?_);clear hK K;refine RegL.reads ?_;intro K hK;go_simp;(first | refine ⟨_,fun _ _=>rfl,hK _ ?_⟩ | refine hK _ ?_);clear hK K;refine RegL.adds (fun _=>trivial) ?_;go_simp;intro xa1 hx K hK;refine ⟨trivial,?_⟩;refine (callsIn_wide.2 (HT.out xa1 (Hb1.out.trans ((KeptW.bel hx).mono Hb1.out.size)))).mono ?_;rintro e xc1 ⟨rfl,hb2⟩;have hxxc1:KeptW w1 xc1:=KeptW.mono hx hb2;refine hK (KeptW xc1) _ _ hb2 (fun y h=>KeptW.mono (KeptW.mono hx hb2) (KeptW.bel h)) (keptW_mono xc1) (Below.refl _ _) ?_;clear hK K hb2 hx;refine RegL.adds (fun _=>trivial) ?_;go_simp;intro xa2 hx K hK;refine ⟨trivial,?_⟩;refine (callsIn_wide.2 (HL.out xa2 (Hb1.out.trans ((KeptW.bel hxxc1).mono Hb1.out.size) |>.trans ((KeptW.bel hx).mono (Nat.le_trans Hb1.out.size (KeptW.bel hxxc1).size))))).mono ?_;rintro e xc2 ⟨rfl,hb2⟩;have hxxc2:KeptW w1 xc2:=KeptW.mono (KeptW.mono hxxc1 (KeptW.bel hx)) hb2;refine hK (KeptW xc2) _ _ hb2 (fun y h=>KeptW.mono (KeptW.mono hx hb2) (KeptW.bel h)) (keptW_mono xc2) (Below.refl _ _) ?_;clear hK K hb2 hx;refine RegL.pures ?_;intro K hK;go_simp;(first | (refine ⟨_,fun _=>rfl,hK _ ?_⟩) | (refine hK _ ?_));clear hK K;refine RegL.last ?_;intro g' y hF hy;have hyk:KeptW w1 y:=KeptW.mono hxxc2 (KeptW.bel hy);obtain ⟨hlgb,hngb⟩:=hF.1 ⟨6,7,.cells (bsCells bs0).toArray 110 (0,0)⟩ (by simp) rfl;simp only [RegL.putS,RegL.ptr,if_true];clear hF;generalize g' 6=gb at *;refine RegK.can_frees (fun _=>trivial) ?_;intro K K0 hK hK0;rw [if_pos (by simp [Region.wanted])];refine RegK.op_wide rfl ?_;refine wp_store_mid 110 _ _ rfl gb 0 (bsCells (⟨M,MP,top,tl⟩:BsV)).toArray rfl rfl (there_row (cs:=bsCells bs0) hlgb) base_size (all_oneCell_toArray (bs_one _)) ?_;rw [show (y).setCells gb 0 (bsCells (⟨M,MP,top,tl⟩:BsV)).toArray.toList=rowSt y gb 0 (bsCells (⟨M,MP,top,tl⟩:BsV)) from st_eq _ _ _];refine hK (fun _=>True) _ _ trivial ?_;clear hK K hK0 K0;have hz:=bsSt_at hlgb (⟨M,MP,top,tl⟩:BsV);have hbz:=rowSt_below hngb (bsCells (⟨M,MP,top,tl⟩:BsV)) 0 _ (KeptW.bel hyk);have hoz:=fun (k:Nat) (hk:k<w1.heap.size)=>((rowSt_other (g:=gb) (Nat.ne_of_lt (Nat.lt_of_lt_of_le hk hngb)) (bsCells (⟨M,MP,top,tl⟩:BsV)) 0 y).trans ((KeptW.bel hyk).block k hk))
 generalize rowSt y gb 0 (bsCells (⟨M,MP,top,tl⟩:BsV))=w3 at *
 refine RegK.can_nil ?_;have HZ:=Lib.hid hz;have Hbz:=Lib.hid hbz;have Hm3:=Lib.hid (show MacAt w3 w.heap.size M MP from (hoz _ Hm1.out.lt).trans Hm1.out);have Hb3:=Lib.hid (Hb1.out.trans (hbz.mono Hb1.out.size));have Hgb:=Lib.hid (Nat.le_trans Hb1.out.size hngb);clear hz hbz hoz hlgb hngb Hm1 hyk hxxc1 hxxc2 hy HT HL;go_upto_region 4 with fail;refine (wpIn_wide (n:=1)).1 ?_;refine RegJ.wpIn_region_plan (F:=Fence.wide) (KeptW w3) (.step 0 0 (.step 1 0 (.step 2 0 (.step 3 0 (.step 4 0 (.step 5 0 (.step 6 0 (.step 7 1 (.step 8 0 (.step 9 0 (.step 10 0 (.step 11 0 (.step 12 0 (.step 13 0 (.step 14 0 (.step 15 1 (.step 16 1 (.step 17 0 (.step 18 0 .nil))))))))))))))))))) (by kernel_rfl) (by kernel_rfl) (by kernel_rfl) (fun _ _ d _ _ h=>by cases d <;> exact h) ⟨rfl,rfl,rfl,Nat.le_refl _,fun _ _=>rfl⟩ ?_;dsimp only [RegJ.pickJ,List.getElem?_cons_zero,List.getElem?_cons_succ];change RegJ.Can _ _ _ _ _ _ _ _ w3.drew;have hkd:KeptW w3 w3.drew:=⟨rfl,rfl,rfl,Nat.le_refl _,fun _ _=>rfl⟩;generalize w3.drew=v1 at *;refine RegJ.reads ?_;intro K hK;go_simp;(first | refine ⟨_,fun _ _=>rfl,hK _ ?_⟩ | refine hK _ ?_);clear hK K
 refine RegJ.reads ?_;intro K hK;go_simp;refine ⟨.int .u64 (top:Int),fun y hy=>?_,hK _ ?_⟩
 ·
  have f0:y.cell? ⟨gb,15,none⟩=some (.int .u64 (top:Int)):=cell_of_row _ _ _ _ _ _ (HZ.out.below (KeptW.bel hy));go_simp
 clear hK K;iterate 3 (refine RegJ.reads ?_;intro K hK;go_simp;(first | refine ⟨_,fun _ _=>rfl,hK _ ?_⟩ | refine hK _ ?_);clear hK K)
 refine RegJ.reads ?_;intro K hK;go_simp;refine ⟨.int .u64 (top:Int),fun y hy=>?_,hK _ ?_⟩
 ·
  have f0:y.cell? ⟨gb,15,none⟩=some (.int .u64 (top:Int)):=cell_of_row _ _ _ _ _ _ (HZ.out.below (KeptW.bel hy));go_simp
 clear hK K;refine RegJ.reads ?_;intro K hK;go_simp;(first | refine ⟨_,fun _ _=>rfl,hK _ ?_⟩ | refine hK _ ?_);clear hK K
 refine RegJ.turns (fun _=>trivial) ?_;intro K K0 hK hK0;go_simp;refine ⟨trivial,?_⟩;refine (callsIn_wide.2 (HN.out v1 (Hb3.out.trans ((KeptW.bel hkd).mono Hb3.out.size)))).mono ?_;rintro e v2 ⟨rfl,hb7⟩;have v2k:KeptW w3 v2:=KeptW.mono hkd hb7;refine hK _ _ _ (fun _ h=>h) v2k ?_;clear hK K hK0 K0;iterate 4 (refine RegJ.reads ?_;intro K hK;go_simp;(first | refine ⟨_,fun _ _=>rfl,hK _ ?_⟩ | refine hK _ ?_);clear hK K)
 (refine RegJ.reads ?_;intro K hK;go_simp;refine hK _ ?_;clear hK K)
 (refine RegJ.reads ?_;intro K hK;go_simp;refine hK _ ?_;clear hK K)
 (refine RegJ.reads ?_;intro K hK;go_simp;refine hK _ ?_;clear hK K)
 (refine RegJ.turns (fun _=>trivial) ?_;intro K K0 hK hK0;go_simp;refine hK0 _ ?_;clear hK K hK0 K0)
 (refine RegJ.turns (fun _=>trivial) ?_;intro K K0 hK hK0;go_simp;refine hK0 _ ?_;clear hK K hK0 K0)
 (refine RegJ.reads ?_;intro K hK;go_simp;refine hK _ ?_;clear hK K)
 refine RegJ.reads ?_;intro K hK;go_simp;(first | refine ⟨_,fun _ _=>rfl,hK _ ?_⟩ | refine hK _ ?_);clear hK K
 refine RegJ.nil ?_;go_wp2_with fail;go_ret;exact ⟨rfl,Hb3.out.trans ((KeptW.bel v2k).mono Hb3.out.size)⟩
theorem run_copy_rowk {P:Program} (w:World) (dT sT ty elem:TypeId) (k g o dLen dCap:Nat) (a:Addr) (sLen sCap:Nat) (cur:Array Value) (t:TypeId) (cs:List Value)
  (hu:P.underlying dT=some (.slice elem)) (hs:(P.info? elem).map (·.size)=some k)
  (hg:w.heap[g]?=some (.cells cur t (0,0))) (hn:cs.length=Nat.min sLen dLen*k)
  (hsrc:∀ j v,cs[j]?=some v→w.cell? (a.add j)=some v) (hfit:o+cs.length≤cur.size) (h1:∀ v ∈ cs,v.oneCell'=true) :
  (Builtin.copy_ #[dT,sT] ty #[.slice (some ⟨g,o,none⟩) dLen dCap,.slice (some a) sLen sCap]).run P w =
   .ok (goInt (Nat.min sLen dLen)) (w.setRow g (cur.toList.take o++cs++cur.toList.drop (o+cs.length)).toArray):=by
 have hl:=run_loadCells_list (P:=P) w a cs hsrc;have hst:=run_storeCells_at P g o t cs 0 cur w hg (by simpa using hfit) h1;cases hq:P.info? elem with
 | none=>simp [hq] at hs
 | some i =>
  have hi:i.size=k:=by simpa [hq] using hs
  simp [Builtin.copy_,run_underlying hu,Builtin.lenOf,Builtin.firstCells,sizeOf,typeInfo,hq,hi, ← hn,hl,hst]
theorem canPure {F:Fence} {n:Nat} {P:Program} {ops:Array Oper} {Q:Exit→Act→World→Prop} {R:World→Prop} {a:Act} {w:World} {o:Oper} {r:List (Oper × Nat)}
  (h:∀ K:Act→Prop,(∀ a,RegK.Can F n P ops Q r R a w→K a)→if Region.wanted o (yielded ops a.tmps) then ∃ v,(∀ x,(execOp a.eval o).run P x=.ok (.value v) x)∧K (a.put o.dst v) else K (a.put o.dst undef)) :
  RegK.Can F n P ops Q ((o,2)::r) R a w:=⟨h _ (fun _ h=>h.out)⟩
def keep3 (L:List BsV):List BsV:=L.drop (L.length - 3)
theorem infoBase:(Tryz.prog.info? 110).map (fun i=>(i.zero,i.size,i.bytes))=some (some (bsV bs0),17,168):=by kernel_rfl
theorem bs_new (w:World) (b:BsV):SliceAt 17 bsCells (w.alloc (.cells (bsCells b).toArray 110)) (some ⟨w.heap.size,0,none⟩) 1 [b]:=by
 refine ⟨rfl,by unfold maxLen;omega,fun i x hi=>⟨w.heap.size,0,rfl,by rw [World.size_alloc];omega,fun j v hj=>?_⟩⟩;have h0:i=0:=by
  cases i with
  | zero=>rfl
  | succ i=>simp at hi
 subst h0;simp only [List.getElem?_cons_zero,Option.some.injEq] at hi;subst hi;simp only [World.cell?,heap_alloc_new];rw [Nat.zero_add,Nat.zero_mul,Nat.zero_add];simpa using hj
theorem ShAt.thawed {w:World} {base p:Nat} {v:Value} {L:List BsV} (h:ShAt w base p v L) (j:Nat):w.frozen? ⟨p,j,none⟩=false:=by
 unfold World.frozen?;rw [h.row];rfl
theorem ShAt.ne {w:World} {base p:Nat} {v:Value} {L:List BsV} (h:ShAt w base p v L):∀ k,v.ownBlock=some k→k≠p:=by
 rintro k hk rfl;obtain ⟨cs,hc⟩:=own_row h.own k hk;rw [h.row] at hc;simp at hc
theorem row_ne {w:World} {base p n:Nat} {v:Value} {xs cs:List Value} (ho:w.ownsRow base 110 17 v n xs) (hr:w.heap[p]?=some (.cells cs.toArray 114 (0,0))):∀ k,v.ownBlock=some k→k≠p:=by
 rintro k hk rfl;obtain ⟨cs,hc⟩:=own_row ho k hk;rw [hr] at hc;simp at hc
theorem ownsRow_setNe {w:World} {base p i:Nat} {t:TypeId} {size n:Nat} {v x:Value} {xs:List Value} (h:w.ownsRow base t size v n xs) (hne:∀ k,v.ownBlock=some k→k≠p):(w.setCell ⟨p,i,none⟩ x).ownsRow base t size v n xs:=by
 refine ⟨h.1,?_⟩;rcases h.2 with h2 | ⟨g,cap,cur,e,h3,hg,h4⟩
 ·
  exact .inl h2
 ·
  exact .inr ⟨g,cap,cur,e,h3,(Below.heap_setCell _ _ _ _ (by subst e;exact hne g rfl)).trans hg,h4⟩
theorem own_cell {w:World} {base:Nat} {e:TypeId} {k n:Nat} {v:Value} {xs:List Value} (h:w.ownsRow base e k v n xs) (hn:0<n):∃ g c,v=.slice (some ⟨g,0,none⟩) n c∧n≤c∧c≤maxLen∧∀ y:World,Below w.heap.size w y→∀ j u,xs[j]?=some u→y.cell? ⟨g,j,none⟩=some u:=by
 rcases h.2 with ⟨_,h3⟩ | ⟨g,cap,cur,e,_,hg,h4,h5,_,ht⟩
 ·
  omega
 ·
  refine ⟨g,cap,e,h4,h5,fun y hy j u hu=>?_⟩;have hy2:=(hy.block g (Array.getElem?_eq_some_iff.1 hg).1).trans hg;rw [← ht,List.getElem?_take] at hu;split at hu
  ·
   simp only [World.cell?,hy2];rw [Array.getElem?_toList] at hu;simpa using hu
  ·
   cases hu
theorem copy_full {w9:World} {gk base B7 c7:Nat} {xs cs:List Value} (ho:w9.ownsRow gk 110 17 (.slice (some ⟨gk,0,none⟩) 3 3) 3 xs) (hbase:base≤gk) (hcs:cs.length=51) (hsrc:∀ j u,cs[j]?=some u→w9.cell? ⟨B7,17+j,none⟩=some u) (h1:∀ u ∈ cs,u.oneCell'=true) :
  ∃ w10,(Builtin.copy_ #[112,112] 3 #[.slice (some ⟨gk,0,none⟩) 3 3,.slice (some ⟨B7,17,none⟩) 3 (c7 - 1)]).run Tryz.prog w9=.ok (goInt 3) w10∧w10.ownsRow base 110 17 (.slice (some ⟨gk,0,none⟩) 3 3) 3 cs∧Below gk w9 w10:=by
 rcases ho.2 with ⟨e,_⟩ | ⟨g,cap,cur,e,_,hg,_,_,hsz,_⟩
 ·
  cases e
 ·
  cases e
  have hr:=run_copy_rowk (P:=Tryz.prog) w9 112 112 3 110 17 gk 0 3 3 ⟨B7,17,none⟩ 3 (c7 - 1) cur 110 cs Tryz.underlying112 base_size hg (by rw [hcs];rfl) (fun j v hv=>by rw [Addr.add_mid];exact hsrc j v hv) (by rw [hcs,hsz];decide) h1;refine ⟨_,hr,⟨by rw [hcs],.inr ⟨gk,3,_,rfl,hbase,setRow_heap _ _ _ _ _ _ hg,Nat.le_refl _,by unfold maxLen;omega,?_,?_⟩⟩,below_setRow (Below.refl gk w9) (Nat.le_refl _) _⟩
  ·
   have:cur.toList.length=51:=by rw [Array.length_toList,hsz]
   simp [hcs];omega
  ·
   simp [← hcs]
structure PutC (w:World) (base p:Nat) (v':Value) (L:List BsV) (y:World):Prop where
 sh:ShAt y base p v' L
 st:Sorts [114,110] w.heap.size w y
 bn:∀ n,n≤w.heap.size→n≤p→n≤base→Below n w y
theorem put_step {w w5 w7:World} {base p:Nat} {v:Value} {A7:Option Addr} {c7:Nat} {L:List BsV} {b:BsV} (hs:ShAt w5 base p v L) (hb0:Below w.heap.size w w5) (hg:w5.grownBy w7 v.ownBlock)
  (ho:w7.ownsRow base 110 17 (.slice A7 (L.length+1) c7) (L.length+1) (flat bsCells L++flat bsCells [b])) :
  PutC w base p (.slice A7 (L.length+1) c7) (L++[b]) (w7.setCell ⟨p,0,none⟩ (.slice A7 (L.length+1) c7)):=by
 have hb:Sorts [114,110] w.heap.size w w5:=sorts_of hb0 _;have hr:w7.heap[p]?=some (.cells [v].toArray 114 (0,0)):=(hg.block p hs.lt (fun e=>hs.ne p e.symm rfl)).trans hs.row;refine ⟨⟨?_,?_⟩,?_,fun n h1 h2 h3=>?_⟩
 ·
  rw [heap_setCell_same _ _ _ _ _ _ hr];rfl
 ·
  rw [← flat_app] at ho;rw [List.length_append];exact ownsRow_setNe ho (row_ne ho hr)
 ·
  have h5:Sorts [114,110] w.heap.size w w7:=hb.trans ((sorts_grown hg (fun k hk=>by
   obtain ⟨cs,hc⟩:=own_row hs.own k hk;exact ⟨_,_,_,hc,by simp⟩)).mono hb.size (fun t ht=>ht))
  exact h5.trans (sorts_set hr (by simp) _)
 ·
  have hb7:Below n w5 w7:=⟨hg.os,hg.tape,hg.output,hg.size,fun q hq=>hg.block q (by have:=hb0.size;omega) (fun e=>by
   rcases hs.own.2 with ⟨e2,_⟩ | ⟨g,cap,cur,e2,h4,_⟩
   ·
    rw [e2] at e;cases e
   ·
    rw [e2] at e;have e3:q=g:=Option.some.inj e;omega)⟩
  exact below_setV ((hb0.mono h1).trans hb7) h2
def ShPut (w:World) (base p:Nat) (L:List BsV) (e:Ending) (w':World):Prop:=∃ v',e=.returned (.int .i64 0)∧ShAt w' base p v' L∧Sorts [114,110] w.heap.size w w'∧∀ n,n≤w.heap.size→n≤p→n≤base→Below n w w'
theorem put_ok (p:Nat) (Cp:Option Addr) (b:BsV) (M:MacV) (MP:Option Addr) (top:Nat) (tl:List UInt8) (htop:top≤4611686018427387904) (htl:tl.length≤1000000) (w:World)
  (hN:∀ y:World,Below w.heap.size w y→Calls Tryz.prog 39 #[.pointer (some ⟨p,0,none⟩)] y fun e w'=>e=.returned (bsV b)∧Below y.heap.size y w')
  (hT:∀ y:World,Below w.heap.size w y→Calls Tryz.prog 22 #[.pointer Cp] y fun e w'=>e=.returned (.int .u64 (top:Int))∧Below y.heap.size y w')
  (hL:∀ y:World,Below w.heap.size w y→Calls Tryz.prog 42 #[.pointer Cp] y fun e w'=>e=.returned (.string ⟨tl.toArray⟩)∧Below y.heap.size y w') (hlo:b.top<top) (hen:endsB tl M.mem=true) (base:Nat) (v:Value) (L:List BsV) (hsh:ShAt w base p v L) (hbs:base≤w.heap.size) (hl3:L.length≤3) :
  Calls Tryz.prog 11 #[.pointer (some ⟨p,0,none⟩),.pointer Cp,macV M MP] w (ShPut w base p (keep3 (L++[(⟨M,MP,top,tl⟩:BsV)]))):=by
 have hle : ¬ (top:Int)≤(b.top:Int):=by omega
 have he:=fun y:World=>ends_any tl htl M.mem y
 rw [hen] at he;have He:=Lib.hid he;have Hsh:=Lib.hid (And.intro hsh (And.intro hbs hl3));clear hlo he hen hsh hbs hl3;have hb1:=(Below.refl w.heap.size w).alloc (Nat.le_refl _) (.cells (macCells M MP).toArray 38);have hm1:MacAt (w.alloc (.cells (macCells M MP).toArray 38)) w.heap.size M MP:=heap_alloc_new _ _;have hM:∀ y:World,Calls Tryz.prog 37 #[.agg #[.int .u8 (M.all:Int),.int .u8 (M.mem:Int),.int .u32 (M.tab.a.seq.toNat:Int),.int .u8 (M.tab.a.code:Int),.string M.tab.a.text,.int .u32 (M.tab.b.seq.toNat:Int),.int .u8 (M.tab.b.code:Int),.string M.tab.b.text,.int .u32 (M.tab.c.seq.toNat:Int),.int .u8 (M.tab.c.code:Int),.string M.tab.c.text,.int .u32 (M.tab.d.seq.toNat:Int),.int .u8 (M.tab.d.code:Int),.string M.tab.d.text,.pointer MP]] y fun e w'=>e=.returned (.int .u8 (M.mem:Int))∧Below y.heap.size y w':=fun y=>mmem_any M MP y
 have HN:=Lib.hid (show ∀ y:World,Below w.heap.size w y→Calls Tryz.prog 39 #[.pointer (some ⟨p,0,none⟩)] y fun e w'=>e=.returned (.agg #[.int .u8 (b.M.all:Int),.int .u8 (b.M.mem:Int),.int .u32 (b.M.tab.a.seq.toNat:Int),.int .u8 (b.M.tab.a.code:Int),.string b.M.tab.a.text,.int .u32 (b.M.tab.b.seq.toNat:Int),.int .u8 (b.M.tab.b.code:Int),.string b.M.tab.b.text,.int .u32 (b.M.tab.c.seq.toNat:Int),.int .u8 (b.M.tab.c.code:Int),.string b.M.tab.c.text,.int .u32 (b.M.tab.d.seq.toNat:Int),.int .u8 (b.M.tab.d.code:Int),.string b.M.tab.d.text,.pointer b.P,.int .u64 (b.top:Int),.string ⟨b.t.toArray⟩])∧Below y.heap.size y w' from hN);have HT:=Lib.hid hT;have HL:=Lib.hid hL;have HM:=Lib.hid hM;have Htl:=Lib.hid htl;have hgt:((4611686018427387904:Int)<(top:Int))=False:=by rw [eq_iff_iff,iff_false];omega
 clear hN hT hL hM htop htl;unfold macV;rw [mac_eta] at hb1 hm1 ⊢;go_enter Tryz.func11,Tryz.ntmps11
 go_upto_region 3 with fail;rw [← mac_eta] at hm1 hb1;have Hm1:=Lib.hid hm1;have Hb1:=Lib.hid hb1;clear hm1 hb1;simp only [← mac_eta];change Code.wp _ _ _ _ (w.alloc (.cells (macCells M MP).toArray 38));generalize w.alloc (.cells (macCells M MP).toArray 38)=w1 at *;refine (wpIn_wide (n:=1)).1 ?_;refine RegL.wpIn_region_lays (F:=Fence.wide) (KeptW w1) [⟨6,7,.cells (bsCells bs0).toArray 110 (0,0)⟩] [(0,0),(1,0),(3,0),(2,1),(4,1),(5,2),(7,3)] (by kernel_rfl) (by kernel_rfl) (by kernel_rfl) (fun p hp=>by rw [List.mem_singleton] at hp;subst hp;exact lays_any layBase rfl) (fun _ _ d _ _ h=>by cases d <;> exact h) (fun _ _ d _ _ h=>by cases d <;> exact h) ⟨rfl,rfl,rfl,Nat.le_refl _,fun _ _=>rfl⟩ (keptW_mono w1) ?_;dsimp only [RegK.pick,List.getElem?_cons_zero,List.getElem?_cons_succ];refine RegL.reads ?_;intro K hK;rw [if_pos (by simp [Region.wanted])];refine ⟨.agg #[.int .u8 (M.all:Int),.int .u8 (M.mem:Int),.int .u32 (M.tab.a.seq.toNat:Int),.int .u8 (M.tab.a.code:Int),.string M.tab.a.text,.int .u32 (M.tab.b.seq.toNat:Int),.int .u8 (M.tab.b.code:Int),.string M.tab.b.text,.int .u32 (M.tab.c.seq.toNat:Int),.int .u8 (M.tab.c.code:Int),.string M.tab.c.text,.int .u32 (M.tab.d.seq.toNat:Int),.int .u8 (M.tab.d.code:Int),.string M.tab.d.text,.pointer MP],fun y hy=>exec_load rfl rfl (row_loadAt (P:=Tryz.prog) (cs:=macCells M MP) (Hm1.out.below (KeptW.bel hy)) Tryz.underlying38 rfl mac_size),hK _ ?_⟩;clear hK K;go_simp;refine RegL.reads ?_;intro K hK;go_simp;(first | refine ⟨_,fun _ _=>rfl,hK _ ?_⟩ | refine hK _ ?_);clear hK K;refine RegL.reads ?_;intro K hK;go_simp;(first | refine ⟨_,fun _ _=>rfl,hK _ ?_⟩ | refine hK _ ?_);clear hK K;refine RegL.adds (fun _=>trivial) ?_;go_simp;intro xa1 hx K hK;refine ⟨trivial,?_⟩;refine (callsIn_wide.2 (HT.out xa1 (Hb1.out.trans ((KeptW.bel hx).mono Hb1.out.size)))).mono ?_;rintro e xc1 ⟨rfl,hb2⟩;have hxxc1:KeptW w1 xc1:=KeptW.mono hx hb2;refine hK (KeptW xc1) _ _ hb2 (fun y h=>KeptW.mono (KeptW.mono hx hb2) (KeptW.bel h)) (keptW_mono xc1) (Below.refl _ _) ?_;clear hK K hb2 hx;refine RegL.adds (fun _=>trivial) ?_;go_simp;intro xa2 hx K hK;refine ⟨trivial,?_⟩;refine (callsIn_wide.2 (HL.out xa2 (Hb1.out.trans ((KeptW.bel hxxc1).mono Hb1.out.size) |>.trans ((KeptW.bel hx).mono (Nat.le_trans Hb1.out.size (KeptW.bel hxxc1).size))))).mono ?_;rintro e xc2 ⟨rfl,hb2⟩;have hxxc2:KeptW w1 xc2:=KeptW.mono (KeptW.mono hxxc1 (KeptW.bel hx)) hb2;refine hK (KeptW xc2) _ _ hb2 (fun y h=>KeptW.mono (KeptW.mono hx hb2) (KeptW.bel h)) (keptW_mono xc2) (Below.refl _ _) ?_;clear hK K hb2 hx;refine RegL.pures ?_;intro K hK;go_simp;(first | (refine ⟨_,fun _=>rfl,hK _ ?_⟩) | (refine hK _ ?_));clear hK K;refine RegL.last ?_;intro g' y hF hy;have hyk:KeptW w1 y:=KeptW.mono hxxc2 (KeptW.bel hy);obtain ⟨hlgb,hngb⟩:=hF.1 ⟨6,7,.cells (bsCells bs0).toArray 110 (0,0)⟩ (by simp) rfl;simp only [RegL.putS,RegL.ptr,if_true];clear hF;generalize g' 6=gb at *;refine RegK.can_frees (fun _=>trivial) ?_;intro K K0 hK hK0;rw [if_pos (by simp [Region.wanted])];refine RegK.op_wide rfl ?_;refine wp_store_mid 110 _ _ rfl gb 0 (bsCells (⟨M,MP,top,tl⟩:BsV)).toArray rfl rfl (there_row (cs:=bsCells bs0) hlgb) base_size (all_oneCell_toArray (bs_one _)) ?_;rw [show (y).setCells gb 0 (bsCells (⟨M,MP,top,tl⟩:BsV)).toArray.toList=rowSt y gb 0 (bsCells (⟨M,MP,top,tl⟩:BsV)) from st_eq _ _ _];refine hK (fun _=>True) _ _ trivial ?_;clear hK K hK0 K0;have hz:=bsSt_at hlgb (⟨M,MP,top,tl⟩:BsV);have hbz:=rowSt_below hngb (bsCells (⟨M,MP,top,tl⟩:BsV)) 0 _ (KeptW.bel hyk);have hoz:=fun (k:Nat) (hk:k<w1.heap.size)=>((rowSt_other (g:=gb) (Nat.ne_of_lt (Nat.lt_of_lt_of_le hk hngb)) (bsCells (⟨M,MP,top,tl⟩:BsV)) 0 y).trans ((KeptW.bel hyk).block k hk))
 generalize rowSt y gb 0 (bsCells (⟨M,MP,top,tl⟩:BsV))=w3 at *
 refine RegK.can_nil ?_;have HZ:=Lib.hid hz;have Hbz:=Lib.hid hbz;have Hm3:=Lib.hid (show MacAt w3 w.heap.size M MP from (hoz _ Hm1.out.lt).trans Hm1.out);have Hb3:=Lib.hid (Hb1.out.trans (hbz.mono Hb1.out.size));have Hgb:=Lib.hid (Nat.le_trans Hb1.out.size hngb);clear hz hbz hoz hlgb hngb Hm1 hyk hxxc1 hxxc2 hy HT HL;go_upto_region 4 with fail;refine (wpIn_wide (n:=1)).1 ?_;refine RegJ.wpIn_region_plan (F:=Fence.wide) (KeptW w3) (.step 0 0 (.step 1 0 (.step 2 0 (.step 3 0 (.step 4 0 (.step 5 0 (.step 6 0 (.step 7 1 (.step 8 0 (.step 9 0 (.step 10 0 (.step 11 0 (.step 12 0 (.step 13 0 (.step 14 0 (.step 15 1 (.step 16 1 (.step 17 0 (.step 18 0 .nil))))))))))))))))))) (by kernel_rfl) (by kernel_rfl) (by kernel_rfl) (fun _ _ d _ _ h=>by cases d <;> exact h) ⟨rfl,rfl,rfl,Nat.le_refl _,fun _ _=>rfl⟩ ?_;dsimp only [RegJ.pickJ,List.getElem?_cons_zero,List.getElem?_cons_succ];change RegJ.Can _ _ _ _ _ _ _ _ w3.drew;have hkd:KeptW w3 w3.drew:=⟨rfl,rfl,rfl,Nat.le_refl _,fun _ _=>rfl⟩;generalize w3.drew=v1 at *;refine RegJ.reads ?_;intro K hK;go_simp;(first | refine ⟨_,fun _ _=>rfl,hK _ ?_⟩ | refine hK _ ?_);clear hK K
 refine RegJ.reads ?_;intro K hK;go_simp;refine ⟨.int .u64 (top:Int),fun y hy=>?_,hK _ ?_⟩
 ·
  have f0:y.cell? ⟨gb,15,none⟩=some (.int .u64 (top:Int)):=cell_of_row _ _ _ _ _ _ (HZ.out.below (KeptW.bel hy));go_simp
 clear hK K;iterate 3 (refine RegJ.reads ?_;intro K hK;go_simp;(first | refine ⟨_,fun _ _=>rfl,hK _ ?_⟩ | refine hK _ ?_);clear hK K)
 refine RegJ.reads ?_;intro K hK;go_simp;refine ⟨.int .u64 (top:Int),fun y hy=>?_,hK _ ?_⟩
 ·
  have f0:y.cell? ⟨gb,15,none⟩=some (.int .u64 (top:Int)):=cell_of_row _ _ _ _ _ _ (HZ.out.below (KeptW.bel hy));go_simp
 clear hK K;refine RegJ.reads ?_;intro K hK;go_simp;(first | refine ⟨_,fun _ _=>rfl,hK _ ?_⟩ | refine hK _ ?_);clear hK K
 refine RegJ.turns (fun _=>trivial) ?_;intro K K0 hK hK0;go_simp;refine ⟨trivial,?_⟩;refine (callsIn_wide.2 (HN.out v1 (Hb3.out.trans ((KeptW.bel hkd).mono Hb3.out.size)))).mono ?_;rintro e v2 ⟨rfl,hb7⟩;have v2k:KeptW w3 v2:=KeptW.mono hkd hb7;refine hK _ _ _ (fun _ h=>h) v2k ?_;clear hK K hK0 K0;iterate 5 (refine RegJ.reads ?_;intro K hK;go_simp;(first | refine ⟨_,fun _ _=>rfl,hK _ ?_⟩ | refine hK _ ?_);clear hK K)
 refine RegJ.reads ?_;intro K hK;go_simp;refine ⟨.string ⟨tl.toArray⟩,fun y hy=>?_,hK _ ?_⟩
 ·
  have f0:y.cell? ⟨gb,16,none⟩=some (.string ⟨tl.toArray⟩):=cell_of_row _ _ _ _ _ _ (HZ.out.below (KeptW.bel hy));go_simp
 clear hK K;refine RegJ.reads ?_;intro K hK;rw [if_pos (by first | (simp [Region.wanted];done) | (go_simp;done))];refine ⟨.agg #[.int .u8 (M.all:Int),.int .u8 (M.mem:Int),.int .u32 (M.tab.a.seq.toNat:Int),.int .u8 (M.tab.a.code:Int),.string M.tab.a.text,.int .u32 (M.tab.b.seq.toNat:Int),.int .u8 (M.tab.b.code:Int),.string M.tab.b.text,.int .u32 (M.tab.c.seq.toNat:Int),.int .u8 (M.tab.c.code:Int),.string M.tab.c.text,.int .u32 (M.tab.d.seq.toNat:Int),.int .u8 (M.tab.d.code:Int),.string M.tab.d.text,.pointer MP],fun y hy=>exec_load rfl rfl (row_loadAt (P:=Tryz.prog) (cs:=macCells M MP) (Hm3.out.below (KeptW.bel hy)) Tryz.underlying38 rfl mac_size),hK _ ?_⟩;clear hK K;go_simp;refine RegJ.turns (fun _=>trivial) ?_;intro K K0 hK hK0;go_simp;refine ⟨trivial,?_⟩;refine (callsIn_wide.2 (HM.out v2)).mono ?_;rintro e v3 ⟨rfl,hb7⟩;have v3k:KeptW w3 v3:=KeptW.mono v2k hb7;refine hK _ _ _ (fun _ h=>h) v3k ?_;clear hK K hK0 K0;refine RegJ.turns (fun _=>trivial) ?_;intro K K0 hK hK0;go_simp;refine ⟨trivial,?_⟩;refine (callsIn_wide.2 ((show Calls Tryz.prog 43 #[.string ⟨tl.toArray⟩,.int .u8 (M.mem:Int)] v3 (fun e w'=>e=.returned (.bool true)∧Below (v3).heap.size v3 w') from (He.out v3).mono (fun e w' h=>⟨h.1,by rw [h.2];exact Below.refl _ _⟩)))).mono ?_;rintro e v4 ⟨rfl,hb7⟩;have v4k:KeptW w3 v4:=KeptW.mono v3k hb7;refine hK _ _ _ (fun _ h=>h) v4k ?_;clear hK K hK0 K0;iterate 2 (refine RegJ.reads ?_;intro K hK;go_simp;(first | refine ⟨_,fun _ _=>rfl,hK _ ?_⟩ | refine hK _ ?_);clear hK K)
 refine RegJ.nil ?_;go_upto_region 6 with fail;have hb5:Below w.heap.size w v4:=Hb3.out.trans ((KeptW.bel v4k).mono Hb3.out.size);have HZ5:=Lib.hid (HZ.out.below (KeptW.bel v4k));have Hs5:=Lib.hid (Hsh.out.1.below hb5);have Hl5:=Lib.hid (And.intro Hsh.out.2.2 (Nat.le_trans Hsh.out.2.1 hb5.size));have Hb5:=Lib.hid hb5;have Hbs:=Lib.hid Hsh.out.2.1;clear hb5 HZ Hb3 Hm3 HN HM He Hgb Hsh Htl;obtain ⟨i0,hi0,hz0,hs0,hb0⟩:=info_parts infoBase;refine (wpIn_wide (n:=1)).1 ?_;refine RegK.wpIn_region_can (F:=Fence.wide) (KeptW v4) [(0,2),(1,0),(2,0),(3,0),(4,0),(5,0),(6,1),(7,3),(8,0),(9,0),(10,3)] (by kernel_rfl) (by kernel_rfl) (by kernel_rfl) (fun _ _ d _ _ h=>by cases d <;> exact h) ⟨rfl,rfl,rfl,Nat.le_refl _,fun _ _=>rfl⟩ ?_;dsimp only [RegK.pick,List.getElem?_cons_zero,List.getElem?_cons_succ];change RegK.Can _ _ _ _ _ _ _ _ v4.drew;have hkd:KeptW v4 v4.drew:=⟨rfl,rfl,rfl,Nat.le_refl _,fun _ _=>rfl⟩;generalize v4.drew=y5 at *;obtain ⟨A,c,rfl⟩:=own_slice_of Hs5.out.own;refine canPure ?_;intro K hK;go_simp;(first | refine ⟨_,fun _=>rfl,hK _ ?_⟩ | refine hK _ ?_);clear hK K;refine RegK.can_reads ?_;intro K hK;go_simp;(first | refine ⟨_,fun _ _=>rfl,hK _ ?_⟩ | refine hK _ ?_);clear hK K;refine RegK.can_reads ?_;intro K hK;go_simp;(first | refine ⟨_,fun _ _=>rfl,hK _ ?_⟩ | refine hK _ ?_);clear hK K;refine RegK.can_reads ?_;intro K hK;go_simp;(first | refine ⟨_,fun _ _=>rfl,hK _ ?_⟩ | refine hK _ ?_);clear hK K;refine RegK.can_reads ?_;intro K hK;go_simp;refine ⟨.slice A L.length c,fun y hy=>?_,hK _ ?_⟩
 ·
  have f0:=(Hs5.out.below (KeptW.bel hy)).get;go_simp
 clear hK K;refine RegK.can_reads ?_;intro K hK;rw [if_pos (by first | (simp [Region.wanted];done) | (go_simp;done))];refine ⟨.agg #[.int .u8 (M.all:Int),.int .u8 (M.mem:Int),.int .u32 (M.tab.a.seq.toNat:Int),.int .u8 (M.tab.a.code:Int),.string M.tab.a.text,.int .u32 (M.tab.b.seq.toNat:Int),.int .u8 (M.tab.b.code:Int),.string M.tab.b.text,.int .u32 (M.tab.c.seq.toNat:Int),.int .u8 (M.tab.c.code:Int),.string M.tab.c.text,.int .u32 (M.tab.d.seq.toNat:Int),.int .u8 (M.tab.d.code:Int),.string M.tab.d.text,.pointer MP,.int .u64 (top:Int),.string ⟨tl.toArray⟩],fun y hy=>exec_load rfl rfl (row_loadAt (P:=Tryz.prog) (cs:=bsCells (⟨M,MP,top,tl⟩:BsV)) (HZ5.out.below (KeptW.bel hy)) Tryz.underlying110 rfl base_size),hK _ ?_⟩;clear hK K;go_simp;refine RegK.can_turns (fun _=>trivial) ?_;intro K K0 hK hK0;go_simp;have hsq:=bs_new y5 (⟨M,MP,top,tl⟩:BsV);have hbq:=(Below.refl y5.heap.size y5).alloc (Nat.le_refl _) (.cells (bsCells (⟨M,MP,top,tl⟩:BsV)).toArray 110);have hsh6:=(Hs5.out.below (KeptW.bel hkd)).below hbq;have hb6:=(KeptW.bel hkd).trans (hbq.mono (KeptW.bel hkd).size);have hk6:=KeptW.mono hkd hbq;refine hK _ (y5.alloc (.cells (bsCells (⟨M,MP,top,tl⟩:BsV)).toArray 110)) hk6 ?_;clear hK K hK0 K0;change RegK.Can _ _ _ _ _ _ _ _ (y5.alloc (.cells (bsCells (⟨M,MP,top,tl⟩:BsV)).toArray 110));generalize y5.alloc (.cells (bsCells (⟨M,MP,top,tl⟩:BsV)).toArray 110)=y6 at *
 generalize y5.heap.size=gq at *;have Hsh6:=Lib.hid hsh6;have Hb6:=Lib.hid hb6;have Hsq:=Lib.hid hsq;clear hsh6 hb6 hsq hbq hk6;refine RegK.can_frees (fun _=>trivial) ?_;intro K K0 hK hK0;rw [if_pos (by simp [Region.wanted])];refine RegK.op_wide rfl ?_;refine wp_append_slice (k:=17) (enc:=bsCells) _ _ 112 rfl base 110 i0 _ 168 Tryz.underlying112 hi0 hz0 hs0 hb0 rfl (by omega) bs_len bs_one (.slice A L.length c) L.length (flat bsCells L) rfl Hsh6.out.own (some ⟨gq,0,none⟩) 1 1 [(⟨M,MP,top,tl⟩:BsV)] rfl Hsq.out (fun e=>by cases e) (by unfold maxLen;have:=Hl5.out.1;omega) (by have:=Hl5.out.1;omega) (Nat.le_trans Hl5.out.2 Hb6.out.size) ?_;intro v7 w7 ho7 hg7;refine hK (fun _=>True) _ _ trivial ?_;clear hK K hK0 K0;obtain ⟨A7,c7,rfl⟩:=own_slice_of ho7;have hp:=put_step Hsh6.out (Hb5.out.trans (Hb6.out.mono Hb5.out.size)) hg7 ho7;have f0:w7.cell? ⟨p,0,none⟩=some (.slice A L.length c):=cell_of_row _ _ 0 _ _ _ ((hg7.block p Hsh6.out.lt (fun e=>Hsh6.out.ne p e.symm rfl)).trans Hsh6.out.row);have e0:w7.frozen? ⟨p,0,none⟩=false:=by
  unfold World.frozen?;rw [(hg7.block p Hsh6.out.lt (fun e=>Hsh6.out.ne p e.symm rfl)).trans Hsh6.out.row];rfl
 have Hp:=Lib.hid hp;clear hp ho7 hg7;iterate 2 (refine RegK.can_reads ?_;intro K hK;go_simp;(first | (refine ⟨_,fun _ _=>rfl,hK _ ?_⟩) | (refine hK _ ?_));clear hK K)
 refine RegK.can_frees (fun _=>trivial) ?_;intro K K0 hK hK0;go_simp;refine hK (fun _=>True) _ _ trivial ?_;clear hK K hK0 K0 f0 e0;refine RegK.can_nil ?_;generalize w7.setCell ⟨p,0,none⟩ (.slice A7 (L.length+1) c7)=w8 at *;clear Hsh6 Hsq Hb6 HZ5 Hs5;by_cases hfew:L.length≤2
 ·
  have hw1:IntKind.i64.wrap ((L.length:Int)+1 - 3)=(L.length:Int) - 2:=by rw [IntKind.wrap_i64];omega
  have hlt : ¬ (0:Int)<(L.length:Int) - 2:=by omega
  have f0:=Hp.out.sh.get;have Hfew:=Lib.hid hfew;clear hfew;go_wp2_with fail;refine bodyPost_ret (v:=.int .i64 0) (by simp [results,Tryz.results11,go_sem] <;> rfl) rfl ?_;refine ⟨.slice A7 (L.length+1) c7,rfl,?_,Hp.out.st,Hp.out.bn⟩;have e:keep3 (L++[(⟨M,MP,top,tl⟩:BsV)])=L++[(⟨M,MP,top,tl⟩:BsV)]:=by
   unfold keep3;rw [List.length_append,List.length_singleton,show L.length+1 - 3=0 by have:=Hfew.out;omega,List.drop_zero]
  rw [e];exact Hp.out.sh
 ·
  have h3:L.length=3:=by have:=Hl5.out.1;omega
  obtain ⟨x1,x2,x3,rfl⟩:∃ x1 x2 x3,L=[x1,x2,x3]:=by
   match L,h3 with
   | [x1,x2,x3],_=>exact ⟨x1,x2,x3,rfl⟩
  clear hfew h3;have f0:=Hp.out.sh.get;obtain ⟨B7,q7,e7,hc4,hcm,hget⟩:=own_cell Hp.out.sh.own (by simp);simp only [List.length_append,List.length_cons,List.length_nil,Value.slice.injEq] at e7 hc4;obtain ⟨rfl,_,rfl⟩:=e7;have hcr:=(show (0:Nat)+1+1+1+1=4 from rfl);have hge1:(1:Int)≤(c7:Int):=by omega
  have hcn : ¬ c7=1:=by omega
  have hcn2 : ¬ 1=c7:=by omega
  have Hget:=Lib.hid hget;have Hc7:=Lib.hid (And.intro hc4 hcm);clear hget hcm hc4 hcr;go_upto_region 10 with (refine wpList_make_full _ rfl _ _ 112 rfl w8.heap.size 110 i0 (bsV bs0) 17 Tryz.underlying112 hi0 hz0 hs0 .i64 .i64 _ _ 3 rfl rfl rfl rfl (by rw [hb0];omega) (by unfold maxLen;omega) (Nat.le_refl _) ?_;intro w9 ho9 hg9)
  have hb9:Below w8.heap.size w8 w9:=⟨hg9.os,hg9.tape,hg9.output,hg9.size,fun q hq=>hg9.block q hq (fun e=>by cases e)⟩;clear f0;have hp9:=Hp.out.sh.below hb9;have f0:w9.cell? ⟨p,0,none⟩=some (.slice (some ⟨B7,0,none⟩) 4 c7):=hp9.get;have Hn9:=Lib.hid (fun (n:Nat) (h1:n≤w.heap.size) (h2:n≤p) (h3:n≤base)=>(Hp.out.bn n h1 h2 h3).trans (hb9.mono (Nat.le_trans h1 Hp.out.st.size)));have Hs9:=Lib.hid (Hp.out.st.trans ((sorts_of hb9 [114,110]).mono Hp.out.st.size (fun t h=>h)));have Hp9:=Lib.hid hp9;have Ho9:=Lib.hid ho9;have Hget9:=Lib.hid (fun j u h=>Hget.out w9 hb9 j u h);have Hbs8:=Lib.hid (Nat.le_trans Hbs.out Hp.out.st.size);clear hb9 hp9 ho9 hg9 Hget;obtain ⟨w10,hcp,ho10,hb10⟩:=copy_full (c7:=c7) (cs:=flat bsCells [x2,x3,(⟨M,MP,top,tl⟩:BsV)]) Ho9.out Hbs8.out (by rw [flat_len bs_len];rfl) (fun j u hu=>Hget9.out (17+j) u (by
   show (flat bsCells ([x1]++[x2,x3,(⟨M,MP,top,tl⟩:BsV)]))[17+j]?=some u;rw [flat_app,List.getElem?_append_right (by rw [flat_len bs_len];simp),flat_len bs_len,List.length_singleton,Nat.one_mul,Nat.add_sub_cancel_left];exact hu)) (flat_one bs_one _)
  have Hcp:=Lib.hid (And.intro ho10 hb10);clear ho10 hb10;have hr10:=(Hcp.out.2.block p Hp.out.sh.lt).trans Hp9.out.row;have Hr10:=Lib.hid hr10;clear hr10;go_upto_region 11 with fail;clear f0 hcp;have f0:w10.cell? ⟨p,0,none⟩=some (.slice (some ⟨B7,0,none⟩) 4 c7):=cell_of_row _ _ 0 _ _ _ Hr10.out;have e0:=thawed_row 0 Hr10.out;go_wp2_with fail;refine bodyPost_ret (v:=.int .i64 0) (by simp [results,Tryz.results11,go_sem] <;> rfl) rfl ?_;refine ⟨.slice (some ⟨w8.heap.size,0,none⟩) 3 3,rfl,⟨?_,?_⟩,?_,fun n h1 h2 h3=>below_setV ((Hn9.out n h1 h2 h3).trans (Hcp.out.2.mono (Nat.le_trans h1 Hp.out.st.size))) h2⟩
  ·
   rw [heap_setCell_same _ _ _ _ _ _ Hr10.out];rfl
  ·
   exact ownsRow_setNe Hcp.out.1 (row_ne Hcp.out.1 (cs:=[_]) Hr10.out)
  ·
   exact (Hs9.out.trans ((sorts_of (Hcp.out.2) [114,110]).mono Hp.out.st.size (fun t h=>h))).trans (sorts_set Hr10.out (by simp) _)
end Go.Proofs.YtbckjgageofldaaGreat
