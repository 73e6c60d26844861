/- Chains: the document's bases: Put. Condition: the chain lies there. -/
import Derived.Test.YtbckjgageofldaaGreatZLearnPlays23
import Derived.Test.YtbckjgageofldaaGreatZLearnPlays24
import Derived.Test.YtbckjgageofldaaGreatZLearnPlays17
import Derived.Test.YtbckjgageofldaaGreatZLearnPlays6
import Derived.Test.YtbckjgageofldaaGreatZLearnPlays19
import Derived.Test.YtbckjgageofldaaGreatZLearnPlays16
import Derived.Test.YtbckjgageofldaaGreatZLearnPlays12
import Derived.Test.YtbckjgageofldaaGreatZLearnPlays8
set_option maxRecDepth 100000
set_option maxHeartbeats 16000000
namespace Go.Proofs.YtbckjgageofldaaGreat
open Go.RowKit
def keepR (L:List RbV):List RbV:=L.drop (L.length - 3)
def newR (L:List RbV):RbV:=L.getLast?.getD rb0
theorem slice_tail {α:Type} {k:Nat} {enc:α→List Value} {w:World} {g o m:Nat} {z:List α} (h:SliceAt k enc w (some ⟨g,o,none⟩) (m+1) z):SliceAt k enc w (some ⟨g,o+k,none⟩) m (z.drop 1):=by
 refine ⟨by rw [List.length_drop,h.hlen];rfl,Nat.le_trans (Nat.le_succ m) h.hmax,fun i x hx=>?_⟩;rw [List.getElem?_drop] at hx;obtain ⟨b,o2,e,hb,hc⟩:=h.cells _ x hx;cases e
 refine ⟨g,o+k,rfl,hb,fun j v hj=>?_⟩;have:=hc j v hj;rw [show o+k+(i*k+j)=o+((1+i)*k+j) by rw [Nat.add_mul,Nat.one_mul];omega];exact this
theorem rbs_at {w y:World} {a:Option Addr} {n:Nat} {L:List RbV} (h:SliceAt 6 rbCells w a n L) {i:Nat} {b:RbV} (hi:L[i]?=some b) (hy:Below w.heap.size w y):∃ B o,a=some ⟨B,o,none⟩∧y.rangeAt B (o+i*6) (rbCells b):=by
 obtain ⟨B,o,e,_,hc⟩:=(h.below hy).cells i b hi;refine ⟨B,o,e,fun j v hv=>?_⟩;have q:=hc j v hv;rw [← Nat.add_assoc] at q;exact q
def RPut (L:List RbV) (b:RbV) (w:World) (e:Ending) (w':World):Prop:=∃ A' n' c',e=.returned (.tuple #[.slice A' n' c',.int .i64 0])∧SliceAt 6 rbCells w' A' n' (keepR (L++[b]))∧(A'=none→n'=0∧c'=0)∧STy w' 86 A'∧Below w.heap.size w w'
structure RpuI (w:World) (v:Value) (r:RefM) (g:Nat) (y:World):Prop where
 bel:Below w.heap.size w y
 ch:y.heap[g]?=some (.cells #[.int .u64 0,v] 46 (0,0))
 mc:y.heap[g+1]?=some (.cells (refCells r).toArray 43 (0,0))
theorem RpuI.below {w y y':World} {v:Value} {r:RefM} {g:Nat} (h:RpuI w v r g y) (hb:Below y.heap.size y y'):RpuI w v r g y' :=
 ⟨h.bel.trans (hb.mono h.bel.size),(hb.block _ (Array.getElem?_eq_some_iff.1 h.ch).1).trans h.ch,(hb.block _ (Array.getElem?_eq_some_iff.1 h.mc).1).trans h.mc⟩
theorem rput24_any (L:List RbV) (A:Option Addr) (n c:Nat) (Dl:List UInt8) (v:Value) (base:Nat) (r:RefM) (M:MacV) (w:World) (hL:SliceAt 6 rbCells w A n L) (hnil:A=none→n=0∧c=0) (hn3:n≤3)
  (ho:OwnB w base 5 v Dl) (hDl:Dl.length≤1000000) (hlt:(newR L).s<Dl.length - 1) (hm:r.mem<256) (hlast:Dl.getLast?=some (UInt8.ofNat r.mem)) :
  Calls Tryz.prog 23 #[.slice A n c,.agg #[.int .u64 0,v],.agg (refCells r).toArray] w (RPut L ⟨Dl.length - 1,Dl.drop (Dl.length - 3),r,M⟩ w):=by
 obtain ⟨i0,hi0,hz0,hs0,hb0⟩:=info_parts infoRb;have Hi0:=Lib.hid (And.intro hi0 (And.intro hz0 (And.intro hs0 hb0)));clear hi0 hz0 hs0 hb0;have hln:=hL.hlen;have hD0:0<Dl.length:=by omega
 have Ht:=Lib.hid (fun (y:World) (hy:Below w.heap.size w y)=>rtop_any Dl v hD0 hDl base y (ho.below hy));have Htl:=Lib.hid (fun (y:World) (hy:Below w.heap.size w y)=>rtail_any Dl v hD0 hDl base y (ho.below hy));obtain ⟨va,vn,vc,rfl⟩:=ho.read.slice;have hvn:=ho.len;have hlx:Dl[vn - 1]?=some (UInt8.ofNat r.mem):=by rw [hvn, ← List.getLast?_eq_getElem?];exact hlast
 have hrow:∃ b o,va=some ⟨b,o,none⟩∧∀ y:World,Below w.heap.size w y→y.cell? ⟨b,o+(vn - 1),none⟩=some (.int .u8 (r.mem:Int)):=by
  obtain ⟨b,o,c3,e,hg⟩:=ho.read.get (j:=vn - 1) (by omega);cases e
  refine ⟨b,o,rfl,fun y hy=>?_⟩;have e2:Dl[Dl.length - 1]=UInt8.ofNat r.mem:=(List.getElem?_eq_some_iff.1 hlx).2;rw [hg y hy,e2];have e3:(UInt8.ofNat r.mem).toNat=r.mem:=by simp;omega
  rw [e3]
 obtain ⟨vb,vo,rfl,hrow⟩:=hrow;have hvn0:0<vn:=by omega
 have hv1:IntKind.i64.wrap ((vn:Int) - 1)=((vn - 1:Nat):Int):=by rw [IntKind.wrap_i64];omega
 have hv2 : ¬ ((vn - 1:Nat):Int)<0:=by omega
 have hv3:((vn - 1:Nat):Int)<(vn:Int):=by omega
 have Hlx:=Lib.hid (And.intro hlx (And.intro hvn (And.intro hD0 (And.intro hDl (And.intro hm (And.intro hlt (And.intro hln hn3)))))));have Hrow:=Lib.hid hrow;have HL:=Lib.hid (And.intro hL hnil);have Ho:=Lib.hid ho;obtain ⟨T,hT⟩:∃ T,Dl.length - 1=T:=⟨_,rfl⟩;rw [hT] at Ht hlt ⊢;have HT:=Lib.hid hT;obtain ⟨tl,htl⟩:∃ T,Dl.drop (Dl.length - 3)=T:=⟨_,rfl⟩;rw [htl] at Htl ⊢;clear hrow hlx hL hnil ho hlast hDl hT htl hvn hD0 hm hvn0;obtain ⟨g,hg⟩:∃ g,w.heap.size=g:=⟨_,rfl⟩;have hb1:=(Below.refl w.heap.size w).alloc (Nat.le_refl _) (.cells #[.int .u64 0,.slice (some ⟨vb,vo,none⟩) vn vc] 46);have hb2:=hb1.alloc hb1.size (.cells (refCells r).toArray 43);have hr1:=heap_alloc_new w (.cells #[.int .u64 0,.slice (some ⟨vb,vo,none⟩) vn vc] 46);have hr2:=heap_alloc_new (w.alloc (.cells #[.int .u64 0,.slice (some ⟨vb,vo,none⟩) vn vc] 46)) (.cells (refCells r).toArray 43);have hr1b:=(((Below.refl (w.heap.size+1) (w.alloc (.cells #[.int .u64 0,.slice (some ⟨vb,vo,none⟩) vn vc] 46))).alloc (by simp) (.cells (refCells r).toArray 43)).block w.heap.size (by omega)).trans hr1;rw [World.size_alloc] at hr2;have hc0:RpuI w (.slice (some ⟨vb,vo,none⟩) vn vc) r w.heap.size ((w.alloc (.cells #[.int .u64 0,.slice (some ⟨vb,vo,none⟩) vn vc] 46)).alloc (.cells (refCells r).toArray 43)):=⟨hb2,hr1b,hr2⟩;rw [hg] at hc0;have Hc0:=Lib.hid hc0;clear hb1 hb2 hr1 hr2 hr1b hc0;rw [ref_eta] at *
 go_enter Tryz.func23,Tryz.ntmps23
 go_upto_region 1 with fail;change Code.wp _ _ _ _ ((w.alloc (.cells #[.int .u64 0,.slice (some ⟨vb,vo,none⟩) vn vc] 46)).alloc (.cells #[.slice r.A r.n r.c,.int .u8 (r.all:Int),.int .u8 (r.mem:Int),.slice r.B r.k r.d] 43));generalize (w.alloc (.cells #[.int .u64 0,.slice (some ⟨vb,vo,none⟩) vn vc] 46)).alloc (.cells #[.slice r.A r.n r.c,.int .u8 (r.all:Int),.int .u8 (r.mem:Int),.slice r.B r.k r.d] 43)=w1 at *
 have Hg:=Lib.hid hg;clear hg;obtain ⟨ns,hns⟩:∃ q,(newR L).s=q:=⟨_,rfl⟩;rw [hns] at hlt;have hle : ¬ (T:Int)≤(ns:Int):=by omega
 have hgt:((4611686018427387904:Int)<(T:Int))=False:=by rw [eq_iff_iff,iff_false];have:=HT.out;have:=Hlx.out.2.2.2.1;omega
 have Hns:=Lib.hid hns;clear hns;go_upto_if 12 with fail
 go_cut [8,12] from 13 to 20 (fun s8 s12 wx=>s12=.bool (decide (0<n))∧w1=wx∧s8=.int .u64 (ns:Int))
 case first =>
  by_cases hn0:n=0
  ·
   subst hn0;have hL0:L=[]:=List.length_eq_zero_iff.1 hln;have hz:ns=0:=by rw [← Hns.out,hL0];rfl
   go_wp2_with fail;go_meet
   exact ⟨rfl,rfl,by rw [hz];rfl⟩
  ·
   have hn0':0<n:=by omega
   have hlast:L[n - 1]?=some (newR L):=by
    rw [← hln, ← List.getLast?_eq_getElem?];unfold newR;cases h:L.getLast? with
    | none=>rw [List.getLast?_eq_none_iff] at h;subst h;exact absurd hln.symm hn0
    | some x=>rfl
   obtain ⟨B,o,rfl,hrg⟩:=rbs_at HL.out.1 hlast Hc0.out.bel;have hw1:IntKind.i64.wrap ((n:Int) - 1)=((n - 1:Nat):Int):=by rw [IntKind.wrap_i64];have:=Hlx.out.2.2.2.2.2.2.2;omega
   have hb1 : ¬ ((n - 1:Nat):Int)<0:=by omega
   have hb2:((n - 1:Nat):Int)<(n:Int):=by omega
   have f0:w1.cell? ⟨B,o+(n - 1)*6,none⟩=some (.int .u64 (ns:Int)):=by
    rw [← Hns.out];exact hrg 0 _ rfl
   clear hlast hrg;go_wp2_with fail;go_meet
   exact ⟨by rw [decide_eq_true hn0'],rfl,rfl⟩
 case rest =>
  obtain ⟨rfl,rfl,rfl⟩:=hcut;clear hlt;go_upto_region 4 with fail;refine (wpIn_wide (n:=1)).1 ?_;refine RegJ.wpIn_region_plan (F:=Fence.wide) (KeptW w1) (.step 0 0 (.step 2 0 (.step 1 1 (.step 3 0 (.step 4 0 (.step 5 0 (.step 6 1 (.step 7 0 (.step 8 0 (.step 9 0 (.step 10 0 (.step 11 0 (.step 12 0 (.step 13 0 (.step 14 0 (.step 15 0 (.step 16 0 (.step 17 0 (.step 18 0 (.step 19 0 (.step 20 0 (.step 21 0 .nil)))))))))))))))))))))) (by kernel_rfl) (by kernel_rfl) (by kernel_rfl) (fun _ _ d _ _ h=>by cases d <;> exact h) ⟨rfl,rfl,rfl,Nat.le_refl _,fun _ _=>rfl⟩ ?_;dsimp only [RegJ.pickJ,List.getElem?_cons_zero,List.getElem?_cons_succ];change RegJ.Can _ _ _ _ _ _ _ _ w1.drew;have hkd:KeptW w1 w1.drew:=⟨rfl,rfl,rfl,Nat.le_refl _,fun _ _=>rfl⟩;generalize w1.drew=v1 at *;refine RegJ.reads ?_;intro K hK;rw [if_pos (by first | (simp [Region.wanted];done) | (go_simp;done))];refine ⟨.agg #[.int .u64 0,.slice (some ⟨vb,vo,none⟩) vn vc],fun y hy=>exec_load rfl rfl (row_loadAt (P:=Tryz.prog) (cs:=[.int .u64 0,.slice (some ⟨vb,vo,none⟩) vn vc]) (Hc0.out.below (KeptW.bel hy)).ch Tryz.underlying46 rfl rc_size),hK _ ?_⟩;clear hK K;go_simp;refine RegJ.reads ?_;intro K hK;go_simp;(first | refine ⟨_,fun _ _=>rfl,hK _ ?_⟩ | refine hK _ ?_);clear hK K
  refine RegJ.turns (fun _=>trivial) ?_;intro K K0 hK hK0;go_simp;refine ⟨trivial,?_⟩;refine (callsIn_wide.2 (Ht.out v1 (Hc0.out.bel.trans ((KeptW.bel hkd).mono Hc0.out.bel.size)))).mono ?_;rintro e v2 ⟨rfl,hb7⟩;have v2k:KeptW w1 v2:=KeptW.mono hkd hb7;refine hK _ _ _ (fun _ h=>h) v2k ?_;clear hK K hK0 K0;iterate 2 (refine RegJ.reads ?_;intro K hK;go_simp;(first | refine ⟨_,fun _ _=>rfl,hK _ ?_⟩ | refine hK _ ?_);clear hK K)
  refine RegJ.reads ?_;intro K hK;rw [if_pos (by first | (simp [Region.wanted];done) | (go_simp;done))];refine ⟨.agg #[.int .u64 0,.slice (some ⟨vb,vo,none⟩) vn vc],fun y hy=>exec_load rfl rfl (row_loadAt (P:=Tryz.prog) (cs:=[.int .u64 0,.slice (some ⟨vb,vo,none⟩) vn vc]) (Hc0.out.below (KeptW.bel hy)).ch Tryz.underlying46 rfl rc_size),hK _ ?_⟩;clear hK K;go_simp;refine RegJ.turns (fun _=>trivial) ?_;intro K K0 hK hK0;go_simp;refine ⟨trivial,?_⟩;refine (callsIn_wide.2 (Ht.out v2 (Hc0.out.bel.trans ((KeptW.bel v2k).mono Hc0.out.bel.size)))).mono ?_;rintro e v3 ⟨rfl,hb7⟩;have v3k:KeptW w1 v3:=KeptW.mono v2k hb7;refine hK _ _ _ (fun _ h=>h) v3k ?_;clear hK K hK0 K0;iterate 4 (refine RegJ.reads ?_;intro K hK;go_simp;(first | refine ⟨_,fun _ _=>rfl,hK _ ?_⟩ | refine hK _ ?_);clear hK K)
  refine RegJ.reads ?_;intro K hK;go_simp;refine ⟨.slice (some ⟨vb,vo,none⟩) vn vc,fun y hy=>?_,hK _ ?_⟩
  ·
   have f1:y.cell? ⟨g,1,none⟩=some (.slice (some ⟨vb,vo,none⟩) vn vc):=cell_of_row _ _ _ _ _ _ (Hc0.out.below (KeptW.bel hy)).ch;go_simp
  clear hK K;refine RegJ.reads ?_;intro K hK;go_simp;(first | refine ⟨_,fun _ _=>rfl,hK _ ?_⟩ | refine hK _ ?_);clear hK K
  refine RegJ.reads ?_;intro K hK;go_simp;refine ⟨.slice (some ⟨vb,vo,none⟩) vn vc,fun y hy=>?_,hK _ ?_⟩
  ·
   have f1:y.cell? ⟨g,1,none⟩=some (.slice (some ⟨vb,vo,none⟩) vn vc):=cell_of_row _ _ _ _ _ _ (Hc0.out.below (KeptW.bel hy)).ch;go_simp
  clear hK K;iterate 3 (refine RegJ.reads ?_;intro K hK;go_simp;(first | refine ⟨_,fun _ _=>rfl,hK _ ?_⟩ | refine hK _ ?_);clear hK K)
  refine RegJ.reads ?_;intro K hK;go_simp;refine ⟨.int .u8 (r.mem:Int),fun y hy=>?_,hK _ ?_⟩
  ·
   have f0:=Hrow.out y (Hc0.out.bel.trans ((KeptW.bel hy).mono Hc0.out.bel.size));go_simp
  clear hK K;refine RegJ.reads ?_;intro K hK;go_simp;(first | refine ⟨_,fun _ _=>rfl,hK _ ?_⟩ | refine hK _ ?_);clear hK K
  refine RegJ.reads ?_;intro K hK;go_simp;refine ⟨.int .u8 (r.mem:Int),fun y hy=>?_,hK _ ?_⟩
  ·
   have f2:y.cell? ⟨g+1,2,none⟩=some (.int .u8 (r.mem:Int)):=cell_of_row _ _ _ _ _ _ (Hc0.out.below (KeptW.bel hy)).mc;go_simp
  clear hK K;iterate 2 (refine RegJ.reads ?_;intro K hK;go_simp;(first | refine ⟨_,fun _ _=>rfl,hK _ ?_⟩ | refine hK _ ?_);clear hK K)
  refine RegJ.nil ?_;have Hc1:=Lib.hid (Hc0.out.below (KeptW.bel v3k));have hb1:=Hc0.out.bel.trans ((KeptW.bel v3k).mono Hc0.out.bel.size);have Hb1:=Lib.hid hb1;clear hb1 Hrow hv1 hv2 hv3 hle hgt Ho Hc0;generalize v3=w4 at *;go_upto_region 6 with fail;refine (wpIn_wide (n:=1)).1 ?_;refine RegJ.wpIn_region_plan (F:=Fence.wide) (KeptW w4) (.step 0 0 (.step 2 0 (.step 4 0 (.step 6 0 (.step 1 1 (.step 3 1 (.step 5 1 (.step 7 0 (.step 8 1 (.step 9 1 (.step 10 0 .nil))))))))))) (by kernel_rfl) (by kernel_rfl) (by kernel_rfl) (fun _ _ d _ _ h=>by cases d <;> exact h) ⟨rfl,rfl,rfl,Nat.le_refl _,fun _ _=>rfl⟩ ?_;dsimp only [RegJ.pickJ,List.getElem?_cons_zero,List.getElem?_cons_succ];change RegJ.Can _ _ _ _ _ _ _ _ w4.drew;have hkd:KeptW w4 w4.drew:=⟨rfl,rfl,rfl,Nat.le_refl _,fun _ _=>rfl⟩;generalize w4.drew=y1 at *;refine RegJ.reads ?_;intro K hK;go_simp;(first | refine ⟨_,fun _ _=>rfl,hK _ ?_⟩ | refine hK _ ?_);clear hK K
  refine RegJ.reads ?_;intro K hK;rw [if_pos (by first | (simp [Region.wanted];done) | (go_simp;done))];refine ⟨.agg #[.int .u64 0,.slice (some ⟨vb,vo,none⟩) vn vc],fun y hy=>exec_load rfl rfl (row_loadAt (P:=Tryz.prog) (cs:=[.int .u64 0,.slice (some ⟨vb,vo,none⟩) vn vc]) (Hc1.out.below (KeptW.bel hy)).ch Tryz.underlying46 rfl rc_size),hK _ ?_⟩;clear hK K;go_simp;refine RegJ.reads ?_;intro K hK;rw [if_pos (by first | (simp [Region.wanted];done) | (go_simp;done))];refine ⟨.agg #[.int .u64 0,.slice (some ⟨vb,vo,none⟩) vn vc],fun y hy=>exec_load rfl rfl (row_loadAt (P:=Tryz.prog) (cs:=[.int .u64 0,.slice (some ⟨vb,vo,none⟩) vn vc]) (Hc1.out.below (KeptW.bel hy)).ch Tryz.underlying46 rfl rc_size),hK _ ?_⟩;clear hK K;go_simp;refine RegJ.reads ?_;intro K hK;rw [if_pos (by first | (simp [Region.wanted];done) | (go_simp;done))];refine ⟨.agg #[.slice r.A r.n r.c,.int .u8 (r.all:Int),.int .u8 (r.mem:Int),.slice r.B r.k r.d],fun y hy=>exec_load rfl rfl (row_loadAt (P:=Tryz.prog) (cs:=refCells r) (Hc1.out.below (KeptW.bel hy)).mc Tryz.underlying43 rfl rfm_size),hK _ ?_⟩;clear hK K;go_simp;refine RegJ.turns (fun _=>trivial) ?_;intro K K0 hK hK0;rw [if_pos (by simp [Region.wanted])];refine RegK.op_wide rfl ?_;refine wp_append_slice (k:=6) (enc:=rbCells) _ _ 82 rfl w4.heap.size 86 i0 _ 80 Tryz.underlying82 Hi0.out.1 Hi0.out.2.1 Hi0.out.2.2.1 Hi0.out.2.2.2 rfl (by omega) rb_len rb_one (.slice none 0 0) 0 [] rfl (World.ownsRow_nil _ _ _ _) A n c L rfl (HL.out.1.below (Hb1.out.trans ((KeptW.bel hkd).mono Hb1.out.size))) HL.out.2 (by unfold maxLen;omega) (by omega) (KeptW.bel hkd).size ?_;intro v5 wa ho5 hg5;have hb5:Below y1.heap.size y1 wa:=⟨hg5.os,hg5.tape,hg5.output,hg5.size,fun q hq=>hg5.block q hq (fun e=>by cases e)⟩;have wak:KeptW w4 wa:=KeptW.mono hkd hb5;refine hK _ _ _ (fun _ h=>h) wak ?_;clear hK K hK0 K0 hg5;rw [Nat.zero_add,List.nil_append] at ho5;have Ho5:=Lib.hid ho5;clear ho5;refine RegJ.turns (fun _=>trivial) ?_;intro K K0 hK hK0;go_simp;refine ⟨trivial,?_⟩;refine (callsIn_wide.2 (Ht.out wa (Hb1.out.trans ((KeptW.bel wak).mono Hb1.out.size)))).mono ?_;rintro e v2 ⟨rfl,hb7⟩;have v2k:KeptW w4 v2:=KeptW.mono wak hb7;refine hK _ _ _ (fun _ h=>h) v2k ?_;clear hK K hK0 K0;have hbt:=hb7;refine RegJ.turns (fun _=>trivial) ?_;intro K K0 hK hK0;go_simp;refine ⟨trivial,?_⟩;refine (callsIn_wide.2 (Htl.out v2 (Hb1.out.trans ((KeptW.bel v2k).mono Hb1.out.size)))).mono ?_;rintro e v3 ⟨rfl,hb7⟩;have v3k:KeptW w4 v3:=KeptW.mono v2k hb7;refine hK _ _ _ (fun _ h=>h) v3k ?_;clear hK K hK0 K0;have hbt:=hbt.trans (hb7.mono hbt.size);refine RegJ.reads ?_;intro K hK;go_simp;(first | refine ⟨_,fun _ _=>rfl,hK _ ?_⟩ | refine hK _ ?_);clear hK K
  refine RegJ.turns (fun _=>trivial) ?_;intro K K0 hK hK0;go_simp;have hb6:=(Below.refl v3.heap.size v3).alloc (Nat.le_refl _) (.cells (rbCells ⟨T,tl,r,M⟩).toArray 86);have hn6:=rb_new v3 ⟨T,tl,r,M⟩;have wbk:KeptW w4 _:=KeptW.mono v3k hb6;have ho6:=(ownsRow_sorts (sorts_of hbt []) Ho5.out (by simp)).alloc (.cells (rbCells ⟨T,tl,r,M⟩).toArray 86);refine hK _ _ (v3.alloc (.cells (rbCells ⟨T,tl,r,M⟩).toArray 86)) (fun _ h=>h) wbk ?_;clear hK K hK0 K0;generalize v3.alloc (.cells (rbCells ⟨T,tl,r,M⟩).toArray 86)=wb at *;generalize v3.heap.size=g5 at *;refine RegJ.turns (fun _=>trivial) ?_;intro K K0 hK hK0;rw [if_pos (by simp [Region.wanted])];refine RegK.op_wide rfl ?_;refine wp_append_slice (k:=6) (enc:=rbCells) _ _ 82 rfl w4.heap.size 86 i0 _ 80 Tryz.underlying82 Hi0.out.1 Hi0.out.2.1 Hi0.out.2.2.1 Hi0.out.2.2.2 rfl (by omega) rb_len rb_one v5 n (flat rbCells L) rfl ho6 (some ⟨g5,0,none⟩) 1 1 [⟨T,tl,r,M⟩] rfl hn6 (fun e=>by cases e) (by unfold maxLen;omega) (by omega) (KeptW.bel wbk).size ?_;intro v7 w7 ho7 hg7;have hk7:KeptW w4 w7:=below_grown hg7 (KeptW.bel wbk) (KeptW.bel wbk).size (fun q hq=>(World.ownsRow.lt ho6 q hq).1);refine hK _ _ _ (fun _ h=>h) hk7 ?_;clear hK K hK0 K0;have H7:=Lib.hid (And.intro ho7 hk7);clear ho7 hk7 hg7 ho6 hn6 Ho5;refine RegJ.reads ?_;intro K hK;go_simp;(first | refine ⟨_,fun _ _=>rfl,hK _ ?_⟩ | refine hK _ ?_);clear hK K
  refine RegJ.nil ?_;obtain ⟨n1,hn1⟩:∃ k,n+1=k:=⟨_,rfl⟩;have h7:=H7.out.1;rw [hn1, ← flat_app] at h7;obtain ⟨A7,c7,rfl⟩:=own_slice_of h7;have hs7:SliceAt 6 rbCells w7 A7 n1 (L++[⟨T,tl,r,M⟩]):=own_slice rb_len h7 (by rw [List.length_append,hln];exact hn1) (by unfold maxLen;omega);have hn7:=own_nil h7;have ht7:=own_sty h7;have hb7:Below w.heap.size w w7:=Hb1.out.trans ((KeptW.bel H7.out.2).mono Hb1.out.size);by_cases hn4:n1=4
  ·
   subst hn4;obtain ⟨g7,c8,e,hc8,_⟩:=own_cell h7 (by omega);cases e
   have Hs7:=Lib.hid (slice_tail hs7);have Hb7:=Lib.hid hb7;have Ht7:=Lib.hid ht7;have hkp:keepR (L++[(⟨T,tl,r,M⟩:RbV)])=(L++[(⟨T,tl,r,M⟩:RbV)]).drop 1:=by
    unfold keepR;rw [List.length_append,hln,show n+[(⟨T,tl,r,M⟩:RbV)].length - 3=1 by simp;omega]
   have Hkp:=Lib.hid hkp;have hc1 : ¬ c7=1:=by omega
   have hc2:4≤c7:=by omega
   clear hs7 hn7 hb7 ht7 hkp H7 h7 HL hln hc8 hn1 hn3;go_wp2_with fail;refine bodyPost_ret (v:=.tuple #[.slice (some ⟨g7,6,none⟩) 3 (c7 - 1),.int .i64 0]) (by simp [results,Tryz.results23,go_sem]) rfl ?_;refine ⟨_,_,_,rfl,?_,(fun e=>by cases e),(fun b o e=>by cases e;exact Ht7.out _ _ rfl),Hb7.out⟩;rw [Hkp.out];exact Hs7.out
  ·
   have hnk : ¬ (3:Int)<(n1:Int):=by omega
   have hkp:keepR (L++[(⟨T,tl,r,M⟩:RbV)])=L++[⟨T,tl,r,M⟩]:=by unfold keepR;rw [List.length_append,hln,show n+[(⟨T,tl,r,M⟩:RbV)].length - 3=0 by simp;omega];rfl
   have HF:=Lib.hid (show SliceAt 6 rbCells w7 A7 n1 (keepR (L++[⟨T,tl,r,M⟩]))∧(A7=none→n1=0∧c7=0)∧STy w7 86 A7∧Below w.heap.size w w7 by rw [hkp];exact ⟨hs7,hn7,ht7,hb7⟩);clear hs7 hn7 hb7 ht7 hkp H7 h7 HL hln hn1 hn3 hn4;go_wp2_with fail;refine bodyPost_ret (v:=.tuple #[.slice A7 n1 c7,.int .i64 0]) (by simp [results,Tryz.results23,go_sem]) rfl ?_;exact ⟨_,_,_,rfl,HF.out.1,HF.out.2.1,HF.out.2.2.1,HF.out.2.2.2⟩
theorem leB_div (x i:Nat):leB x (i+1)=leB x i++[UInt8.ofNat (x / 256 ^ i)]:=rfl
set_option maxHeartbeats 8000000 in
theorem rsum_any (r:RefM) (M:MacV) (z:List KeptV) (hM:MacBy M) (hlen:(macB M).length≤maxLen) (w:World) (h:RefAt w r M z) :
  Calls Tryz.prog 123 #[.agg (refCells r).toArray] w fun e w'=>e=.returned (.string ⟨(sumB M).toArray⟩)∧Below w.heap.size w w':=by
 obtain ⟨i0,hi0,hz0,hs0,hb0⟩:=info_parts info8;have hr1:RefRow (w.alloc (.cells (refCells r).toArray 43)) w.heap.size r:=heap_alloc_new _ _;have hb1:=(Below.refl w.heap.size w).alloc (Nat.le_refl _) (.cells (refCells r).toArray 43);have hby:=fun (y:World) (hy:Below w.heap.size w y)=>rbytes_any r M z hM y (h.below hy)
 have hsum:=fun y:World=>refsum_any ⟨(macB M).toArray⟩ (by simpa [ByteArray.size] using hlen) y
 obtain ⟨SA,hSA⟩:∃ S:ByteArray,(⟨(macB M).toArray⟩:ByteArray)=S:=⟨_,rfl⟩;have hx:(Crc.sum 0#64 SA.data.toList).toNat=sumM M:=by rw [← hSA];rfl
 rw [hSA] at hby hsum;rw [hx] at hsum;have hxl:=sumM_lt M;rw [show sumB M=leB (sumM M) 8 from rfl];obtain ⟨x,hxe⟩:∃ x,sumM M=x:=⟨_,rfl⟩;rw [hxe] at hsum hxl ⊢;clear hx hxe hSA h;rw [ref_eta] at hby ⊢;have Hby:=Lib.hid hby;clear hby
 have Hsum:=Lib.hid hsum;clear hsum
 go_enter Tryz.func123,Tryz.ntmps123
 go_upto_region 1 with fail;change Code.wp _ _ _ _ (w.alloc (.cells (refCells r).toArray 43));generalize w.alloc (.cells (refCells r).toArray 43)=w1 at *;obtain ⟨c0,c1,c2,c3⟩:=hr1.cells;have Hb1:=Lib.hid hb1;clear hb1 hr1
 go_wp2_with (first
  | ((with_reducible refine (Hby.out _ Hb1.out).mono ?_);rintro e w2 ⟨rfl,hb2⟩;have Hb2:=Lib.hid hb2;clear hb2)
  | ((with_reducible refine (Hsum.out _).mono ?_);rintro e w' ⟨rfl,rfl⟩))
 clear c0 c1 c2 c3 Hby Hsum;have Hb:=Lib.hid (Hb1.out.trans (Hb2.out.mono Hb1.out.size));have Hle:=Lib.hid (Nat.le_trans Hb1.out.size Hb2.out.size);clear Hb1 Hb2;go_loopw [3,4,5] (fun s3 s4 s5 wr=>∃ (i:Nat),i≤8∧s5=.int .i64 (i:Int)∧s3=.int .u64 ((x / 256 ^ i:Nat):Int)∧OwnB wr w.heap.size 5 s4 (leB x i)∧Below w.heap.size w wr) (fun _ _ s5 _=>8 - (intOf s5).toNat)
 case atStart=>exact ⟨0,by omega,rfl,by rw [Nat.pow_zero,Nat.div_one],OwnB.nil _ _ _,Hb.out⟩
 case round =>
  clear Hb Hle;obtain ⟨i,hi,rfl,rfl,ho,hbel⟩:=hrel;obtain ⟨a,n,c,rfl⟩:=ho.read.slice;have Hbel:=Lib.hid hbel;clear hbel
  have Ho:=Lib.hid ho;clear ho
  by_cases hi8:i<8
  ·
   have hi8':(i:Int)<8:=by omega
   have hsucc:=tsucc (n:=i) (by omega);have hdiv:x / 256 ^ (i+1)=x / 256 ^ i / 256:=by rw [Nat.pow_succ,Nat.div_div_eq_div_mul]
   have hstep:=leB_div x i;have hyl:x / 256 ^ i<18446744073709551616:=Nat.lt_of_le_of_lt (Nat.div_le_self _ _) hxl;generalize x / 256 ^ i=y at *;have hm1:(y:Int).tmod 256=((y % 256:Nat):Int):=by rw [Int.tmod_eq_emod_of_nonneg (by omega)];omega
   have hm2:IntKind.u64.wrap ((y:Int) / 256)=((y / 256:Nat):Int):=by rw [IntKind.wrap_u64];omega
   have hnews:bcells [UInt8.ofNat y]=[.int .u8 ((y:Int) % 256)]:=by simp [bcells]
   have Hnews:=Lib.hid hnews;clear hnews
   have Hle:=Lib.hid Hbel.out.size;have Hlen:=Lib.hid (show (leB x i).length≤100 by rw [leB_len];omega);have Hstep:=Lib.hid (And.intro hstep hdiv);clear hstep hdiv
   go_wp2_with (at_builtin;refine wpList_append_own_at _ rfl _ _ 44 rfl w.heap.size 5 i0 (.int .u8 0) 1 1 Tryz.underlying44 hi0 hz0 hs0 hb0 rfl (by decide) _ _ _ rfl (World.ownsRow.alloc Ho.out _) ⟨wr.heap.size,0,none⟩ 1 1 (bcells [UInt8.ofNat y]) rfl rfl (by rw [Hnews.out];exact cells_one _ _ _) (bcells_one _) (by have:=Hlen.out;unfold maxLen;omega) (by have:=Hlen.out;omega) (by have:=Hle.out;simp;omega) ?_;intro v4 w4 ho4 hg4 _ _;have Ho4:=Lib.hid ho4;have Hg4:=Lib.hid hg4;clear ho4 hg4);go_roundw
   case rel =>
    refine ⟨i+1,by omega,rfl,by rw [Hstep.out.2];exact congrArg (Value.int .u64) (by omega),?_,below_grown Hg4.out ((Hbel.out.alloc Hle.out _)) (by have:=Hle.out;simp;omega) Ho.out.block⟩;rw [Hstep.out.1];exact OwnB.of Ho4.out rfl rfl
   case measure=>simp [intOf];omega
  ·
   have hi8' : ¬ (i:Int)<8:=by omega
   obtain rfl:i=8:=by omega
   clear hi8 hi;have hcv:=Ho.out.read.conv Tryz.underlying44 Tryz.underlying5 Tryz.underlying9;go_wp2_with fail;go_ret;exact ⟨rfl,Hbel.out⟩
theorem rdiff_reg14 (w0:World) (g:Nat) (xc:BitVec 8) (xs:BitVec 32) (xo:Nat) (xt Y:ByteArray) {Q:Exit→Act→World→Prop}
  (hQ:∀ c a d v w,Q (.panic c) (Act.put a d v) w→Q (.panic c) a w) (HK:Hid (KeptRow w0 g ⟨xc,xs,xo,xt⟩)) (hcode:xo<256) (htext:xt.size≤4096) (hY:Y.size≤1000000)
  (u0 u1 u2 u3 u4 u5 u6 u7 u9 u10 u12 u13 u14 u15 u16 u17 u18 u19 u20 u21 u22 u23 u24 u25 u26 u27 u28 u29 u30 u31 u32 u33 u34 u35 u36 u37 u38 u39 u40 u41 u42 u43 u44 u45 u46 u47 u48 u49 u50 u51 u52 u53 u54 u55 u56 u57 u58 u59 u60 u61 u62 u63 u64 u65 u66 u67 u68 u69 u70 u71 u72 u73 u74 u75 u76 u77 u78 u79 u80 u81 u82 u83 u84 u85 u86 u87 u88 u89 u90 u91 u92 u93 u94 u95 u96 u97 u98 u99 u100 u101 u102 u103 u104 u105 u106 u107 u108 u109 u110 u111 u112 u113 u114 u115 u116 u117 u118 u119 u120 u121 u122 u123 u124 u125:Value)
  (Hk:Hid (∀ (s57 s58 s59 s60 s61 s62 s63 s64 s65 s66 s67:Value) (w2:World),Below w0.heap.size w0 w2→Q .normal ⟨List.toArray (u0::u1::u2::u3::u4::u5::u6::u7::Value.string (Y++⟨[UInt8.ofNat xo].toArray⟩++⟨(strL xt).toArray⟩)::u9::u10::Value.pointer (some ⟨g,0,none⟩)::u12::u13::u14::u15::u16::u17::u18::u19::u20::u21::u22::u23::u24::u25::u26::u27::u28::u29::u30::u31::u32::u33::u34::u35::u36::u37::u38::u39::u40::u41::u42::u43::u44::u45::u46::u47::u48::u49::u50::u51::u52::u53::u54::u55::u56::s57::s58::s59::s60::s61::s62::s63::s64::s65::s66::s67::Value.string (Y++⟨[UInt8.ofNat xo].toArray⟩++⟨(strL xt).toArray⟩)::u69::u70::u71::u72::u73::u74::u75::u76::u77::u78::u79::u80::u81::u82::u83::u84::u85::u86::u87::u88::u89::u90::u91::u92::u93::u94::u95::u96::u97::u98::u99::u100::u101::u102::u103::u104::u105::u106::u107::u108::u109::u110::u111::u112::u113::u114::u115::u116::u117::u118::u119::u120::u121::u122::u123::u124::u125::[]),[]⟩ w2)) :
  Code.wp Tryz.prog (findR 14 (Tryz.f63.body.getD .skip)) Q ⟨List.toArray (u0::u1::u2::u3::u4::u5::u6::u7::Value.string Y::u9::u10::Value.pointer (some ⟨g,0,none⟩)::u12::u13::u14::u15::u16::u17::u18::u19::u20::u21::u22::u23::u24::u25::u26::u27::u28::u29::u30::u31::u32::u33::u34::u35::u36::u37::u38::u39::u40::u41::u42::u43::u44::u45::u46::u47::u48::u49::u50::u51::u52::u53::u54::u55::u56::u57::u58::u59::u60::u61::u62::u63::u64::u65::u66::u67::u68::u69::u70::u71::u72::u73::u74::u75::u76::u77::u78::u79::u80::u81::u82::u83::u84::u85::u86::u87::u88::u89::u90::u91::u92::u93::u94::u95::u96::u97::u98::u99::u100::u101::u102::u103::u104::u105::u106::u107::u108::u109::u110::u111::u112::u113::u114::u115::u116::u117::u118::u119::u120::u121::u122::u123::u124::u125::[]),[]⟩ w0:=by
 conv=>arg 2;whnf
 have Hlt:=Lib.hid (show g<w0.heap.size from (Array.getElem?_eq_some_iff.1 HK.out).1);have hc8:((UInt8.ofNat xo).toNat:Int)=(xo:Int):=by simp;omega
 have Hone:=Lib.hid (fun y:World=>(show ReadB (y.alloc (.cells #[.int .u8 (xo:Int)] 5)) (.slice (some ⟨y.heap.size,0,none⟩) 1 1) [UInt8.ofNat xo] by have h:=ReadB.one y (UInt8.ofNat xo) 5;rwa [hc8] at h));clear hc8;have Hstr:=Lib.hid (fun y:World=>rstr_any xt (by omega) y);have hT1:(⟨(strL xt).toArray⟩:ByteArray).size≤4200:=by rw [bs_size];have:=strL_len xt;omega
 have hC1:(⟨[UInt8.ofNat xo].toArray⟩:ByteArray).size=1:=rfl;obtain ⟨T1,hTe⟩:∃ S:ByteArray,(⟨(strL xt).toArray⟩:ByteArray)=S:=⟨_,rfl⟩;obtain ⟨C1,hCe⟩:∃ S:ByteArray,(⟨[UInt8.ofNat xo].toArray⟩:ByteArray)=S:=⟨_,rfl⟩;rw [hTe] at Hstr hT1 Hk;rw [hCe] at hC1 Hk;have HC:=Lib.hid hCe;clear hTe hCe
 have hYC:(Y++C1).size≤1000001:=by rw [ByteArray.size_append];omega
 refine (wpIn_wide (n:=1)).1 ?_;refine RegJ.wpIn_region_plan (F:=Fence.wide) (KeptW w0) (.step 0 0 (.step 1 0 (.step 2 0 (.step 3 0 (.step 7 0 (.step 8 0 (.step 9 0 (.fork 4 (.step 5 0 (.step 6 0 (.step 10 1 (.step 11 0 (.step 12 0 .nil))))) 10 (.step 4 1 (.step 5 0 (.step 6 0 (.step 11 0 (.step 12 0 .nil))))))))))))) (by kernel_rfl) (by kernel_rfl) (by kernel_rfl) hQ ⟨rfl,rfl,rfl,Nat.le_refl _,fun _ _=>rfl⟩ ?_;dsimp only [RegJ.pickJ,List.getElem?_cons_zero,List.getElem?_cons_succ];change RegJ.Can _ _ _ _ _ _ _ _ w0.drew;have hkd:KeptW w0 w0.drew:=⟨rfl,rfl,rfl,Nat.le_refl _,fun _ _=>rfl⟩;have hkp:=hkd;generalize w0.drew=v1 at *;refine RegJ.reads ?_;intro K hK;go_simp;(first | refine ⟨_,fun _ _=>rfl,hK _ ?_⟩ | refine hK _ ?_);clear hK K;refine RegJ.reads ?_;intro K hK;go_simp;(first | refine ⟨_,fun _ _=>rfl,hK _ ?_⟩ | refine hK _ ?_);clear hK K;refine RegJ.reads ?_;intro K hK;go_simp;(first | refine ⟨_,fun _ _=>rfl,hK _ ?_⟩ | refine hK _ ?_);clear hK K;refine RegJ.reads ?_;intro K hK;go_simp;refine ⟨.int .u8 (xo:Int),fun y hy=>?_,hK _ ?_⟩
 ·
  have f0:y.cell? ⟨g,2,none⟩=some (.int .u8 (xo:Int)):=cell_of_row _ _ _ _ _ _ (((KeptW.bel hy).block g Hlt.out).trans HK.out);go_simp
 clear hK K;refine RegJ.reads ?_;intro K hK;go_simp;(first | refine ⟨_,fun _ _=>rfl,hK _ ?_⟩ | refine hK _ ?_);clear hK K;refine RegJ.reads ?_;intro K hK;go_simp;(first | refine ⟨_,fun _ _=>rfl,hK _ ?_⟩ | refine hK _ ?_);clear hK K;refine RegJ.reads ?_;intro K hK;go_simp;refine ⟨.string xt,fun y hy=>?_,hK _ ?_⟩
 ·
  have f0:y.cell? ⟨g,3,none⟩=some (.string xt):=cell_of_row _ _ _ _ _ _ (((KeptW.bel hy).block g Hlt.out).trans HK.out);go_simp
 clear hK K;refine RegJ.forks ?_ ?_
 ·
  skip
  refine RegJ.turns (fun _=>trivial) ?_;intro K K0 hK hK0;go_simp;have hbq:=(Below.refl v1.heap.size v1).alloc (Nat.le_refl _) (.cells #[.int .u8 (xo:Int)] 5);have x1k:KeptW w0 (v1.alloc (.cells #[.int .u8 (xo:Int)] 5)):=KeptW.mono hkd hbq;have x1p:KeptW w0 (v1.alloc (.cells #[.int .u8 (xo:Int)] 5)):=KeptW.mono hkp hbq;have hone:=Hone.out v1;refine hK (KeptW (v1.alloc (.cells #[.int .u8 (xo:Int)] 5))) _ (v1.alloc (.cells #[.int .u8 (xo:Int)] 5)) (fun y hy=>KeptW.mono x1p (KeptW.bel hy)) (KeptW.refl _) ?_;clear hK K hK0 K0 hbq;generalize v1.alloc (.cells #[.int .u8 (xo:Int)] 5)=x1 at *
  generalize v1.heap.size=gx1 at *;have x1r:=KeptW.refl x1;refine RegJ.reads ?_;intro K hK;go_simp;refine ⟨.string C1,fun y hy=>?_,hK _ ?_⟩
  ·
   have hcv:=(hone.below (KeptW.bel hy)).conv Tryz.underlying44 Tryz.underlying5 Tryz.underlying9;rw [HC.out] at hcv;rw [hcv];rfl
  clear hK K;refine RegJ.reads ?_;intro K hK;go_simp;refine ⟨.string (Y++C1),fun y hy=>?_,hK _ ?_⟩
  ·
   first | rfl | (rw [if_neg (by omega)]) | (rw [if_neg (by simp only [ByteArray.size_append] at *; omega)])
  clear hK K;refine RegJ.turns (fun _=>trivial) ?_;intro K K0 hK hK0;go_simp;refine ⟨trivial,?_⟩;refine (callsIn_wide.2 (Hstr.out x1)).mono ?_;rintro e x2 ⟨rfl,hb7⟩;have x2k:KeptW w0 x2:=KeptW.mono x1k hb7;have x2p:KeptW x1 x2:=KeptW.mono x1r hb7;refine hK (KeptW x2) _ x2 (fun y hy=>KeptW.mono x2p (KeptW.bel hy)) (KeptW.refl x2) ?_;clear hK K hK0 K0 hb7;have x2r:=KeptW.refl x2;refine RegJ.reads ?_;intro K hK;go_simp;refine ⟨.string (Y++C1++T1),fun y hy=>?_,hK _ ?_⟩
  ·
   first | rfl | (rw [if_neg (by omega)]) | (rw [if_neg (by simp only [ByteArray.size_append] at *; omega)])
  clear hK K;refine RegJ.reads ?_;intro K hK;go_simp;(first | refine ⟨_,fun _ _=>rfl,hK _ ?_⟩ | refine hK _ ?_);clear hK K;refine RegJ.nil ?_;exact Hk.out _ _ _ _ _ _ _ _ _ _ _ _ (KeptW.bel x2k)
 ·
  skip
  refine RegJ.turns (fun _=>trivial) ?_;intro K K0 hK hK0;go_simp;refine ⟨trivial,?_⟩;refine (callsIn_wide.2 (Hstr.out v1)).mono ?_;rintro e x3 ⟨rfl,hb7⟩;have x3k:KeptW w0 x3:=KeptW.mono hkd hb7;have x3p:KeptW w0 x3:=KeptW.mono hkp hb7;refine hK (KeptW x3) _ x3 (fun y hy=>KeptW.mono x3p (KeptW.bel hy)) (KeptW.refl x3) ?_;clear hK K hK0 K0 hb7;have x3r:=KeptW.refl x3;refine RegJ.turns (fun _=>trivial) ?_;intro K K0 hK hK0;go_simp;have hbq:=(Below.refl x3.heap.size x3).alloc (Nat.le_refl _) (.cells #[.int .u8 (xo:Int)] 5);have x4k:KeptW w0 (x3.alloc (.cells #[.int .u8 (xo:Int)] 5)):=KeptW.mono x3k hbq;have x4p:KeptW x3 (x3.alloc (.cells #[.int .u8 (xo:Int)] 5)):=KeptW.mono x3r hbq;have hone:=Hone.out x3;refine hK (KeptW (x3.alloc (.cells #[.int .u8 (xo:Int)] 5))) _ (x3.alloc (.cells #[.int .u8 (xo:Int)] 5)) (fun y hy=>KeptW.mono x4p (KeptW.bel hy)) (KeptW.refl _) ?_;clear hK K hK0 K0 hbq;generalize x3.alloc (.cells #[.int .u8 (xo:Int)] 5)=x4 at *
  generalize x3.heap.size=gx4 at *;have x4r:=KeptW.refl x4;refine RegJ.reads ?_;intro K hK;go_simp;refine ⟨.string C1,fun y hy=>?_,hK _ ?_⟩
  ·
   have hcv:=(hone.below (KeptW.bel hy)).conv Tryz.underlying44 Tryz.underlying5 Tryz.underlying9;rw [HC.out] at hcv;rw [hcv];rfl
  clear hK K;refine RegJ.reads ?_;intro K hK;go_simp;refine ⟨.string (Y++C1),fun y hy=>?_,hK _ ?_⟩
  ·
   first | rfl | (rw [if_neg (by omega)]) | (rw [if_neg (by simp only [ByteArray.size_append] at *; omega)])
  clear hK K;refine RegJ.reads ?_;intro K hK;go_simp;refine ⟨.string (Y++C1++T1),fun y hy=>?_,hK _ ?_⟩
  ·
   first | rfl | (rw [if_neg (by omega)]) | (rw [if_neg (by simp only [ByteArray.size_append] at *; omega)])
  clear hK K;refine RegJ.reads ?_;intro K hK;go_simp;(first | refine ⟨_,fun _ _=>rfl,hK _ ?_⟩ | refine hK _ ?_);clear hK K;refine RegJ.nil ?_;exact Hk.out _ _ _ _ _ _ _ _ _ _ _ _ (KeptW.bel x4k)
theorem rdiff_reg25 (w0:World) (g1 g2 m:Nat) (R:ByteArray) (r s:RefM) (A B:MacV) (z y:List KeptV) {Q:Exit→Act→World→Prop}
  (hQ:∀ c a d v w,Q (.panic c) (Act.put a d v) w→Q (.panic c) a w) (H1:Hid (RefRow w0 g1 r∧RefAt w0 r A z)) (H2:Hid (RefRow w0 g2 s∧RefAt w0 s B y)) (HA:Hid (MacBy A∧(macB A).length≤maxLen)) (HB:Hid (MacBy B∧(macB B).length≤maxLen)) (hm:m<16) (hR:R.size≤5000000)
  (u0 u1 u4 u5 u7 u9 u10 u11 u12 u13 u14 u15 u16 u17 u18 u19 u20 u21 u22 u23 u24 u25 u26 u27 u28 u29 u30 u31 u32 u33 u34 u35 u36 u37 u38 u39 u40 u41 u42 u43 u44 u45 u46 u47 u48 u49 u50 u51 u52 u53 u54 u55 u56 u57 u58 u59 u60 u61 u62 u63 u64 u65 u66 u67 u68 u69 u70 u71 u72 u73 u74 u75 u76 u77 u78 u79 u80 u81 u82 u83 u84 u85 u86 u87 u88 u89 u90 u91 u92 u93 u94 u95 u96 u97 u98 u99 u100 u101 u102 u103 u104 u105 u106 u107 u108 u109 u110 u111 u112 u113 u114 u115 u116 u117 u118 u119 u120 u121 u122 u123 u124 u125:Value)
  (Hk:Hid (∀ (s112 s113 s114 s115 s116 s117 s118 s119 s120 s121 s122 s123 s124:Value) (w2:World),Below w0.heap.size w0 w2→Q .normal ⟨List.toArray (u0::u1::Value.pointer (some ⟨g1,0,none⟩)::Value.pointer (some ⟨g2,0,none⟩)::Value.string (⟨(sumB A).toArray⟩++⟨(sumB B).toArray⟩++⟨[UInt8.ofNat B.mem,UInt8.ofNat m].toArray⟩++R)::Value.int .i64 0::Value.int .i64 (m:Int)::u7::Value.string R::u9::u10::u11::u12::u13::u14::u15::u16::u17::u18::u19::u20::u21::u22::u23::u24::u25::u26::u27::u28::u29::u30::u31::u32::u33::u34::u35::u36::u37::u38::u39::u40::u41::u42::u43::u44::u45::u46::u47::u48::u49::u50::u51::u52::u53::u54::u55::u56::u57::u58::u59::u60::u61::u62::u63::u64::u65::u66::u67::u68::u69::u70::u71::u72::u73::u74::u75::u76::u77::u78::u79::u80::u81::u82::u83::u84::u85::u86::u87::u88::u89::u90::u91::u92::u93::u94::u95::u96::u97::u98::u99::u100::u101::u102::u103::u104::u105::u106::u107::u108::u109::u110::u111::s112::s113::s114::s115::s116::s117::s118::s119::s120::s121::s122::s123::s124::Value.string (⟨(sumB A).toArray⟩++⟨(sumB B).toArray⟩++⟨[UInt8.ofNat B.mem,UInt8.ofNat m].toArray⟩++R)::[]),[]⟩ w2)) :
  Code.wp Tryz.prog (findR 25 (Tryz.f63.body.getD .skip)) Q ⟨List.toArray (u0::u1::Value.pointer (some ⟨g1,0,none⟩)::Value.pointer (some ⟨g2,0,none⟩)::u4::u5::Value.int .i64 (m:Int)::u7::Value.string R::u9::u10::u11::u12::u13::u14::u15::u16::u17::u18::u19::u20::u21::u22::u23::u24::u25::u26::u27::u28::u29::u30::u31::u32::u33::u34::u35::u36::u37::u38::u39::u40::u41::u42::u43::u44::u45::u46::u47::u48::u49::u50::u51::u52::u53::u54::u55::u56::u57::u58::u59::u60::u61::u62::u63::u64::u65::u66::u67::u68::u69::u70::u71::u72::u73::u74::u75::u76::u77::u78::u79::u80::u81::u82::u83::u84::u85::u86::u87::u88::u89::u90::u91::u92::u93::u94::u95::u96::u97::u98::u99::u100::u101::u102::u103::u104::u105::u106::u107::u108::u109::u110::u111::u112::u113::u114::u115::u116::u117::u118::u119::u120::u121::u122::u123::u124::u125::[]),[]⟩ w0:=by
 conv=>arg 2;whnf
 have hmem:=H2.out.2.mem;have hml:=HB.out.1.mem;have hc8:((UInt8.ofNat B.mem).toNat:Int)=(B.mem:Int):=by simp;omega
 have hc9:((UInt8.ofNat m).toNat:Int)=(m:Int):=by simp;omega
 have hw8:IntKind.u8.wrap (m:Int)=(m:Int):=by rw [IntKind.wrap_u8];omega
 have Htwo:=Lib.hid (fun x:World=>(show ReadB (x.alloc (.cells #[.int .u8 (s.mem:Int),.int .u8 (m:Int)] 5)) (.slice (some ⟨x.heap.size,0,none⟩) 2 2) [UInt8.ofNat B.mem,UInt8.ofNat m] from ReadB.cells x [UInt8.ofNat B.mem,UInt8.ofNat m] 5 _ (by rw [hmem, ← hc8, ← hc9];rfl) 2));clear hc8 hc9 hmem hml;have HS1:=Lib.hid (fun (x:World) (hx:KeptW w0 x)=>rsum_any r A z HA.out.1 HA.out.2 x (H1.out.2.below (KeptW.bel hx)));have HS2:=Lib.hid (fun (x:World) (hx:KeptW w0 x)=>rsum_any s B y HB.out.1 HB.out.2 x (H2.out.2.below (KeptW.bel hx)));have hz1:(⟨(sumB A).toArray⟩:ByteArray).size=8:=by rw [bs_size];exact leB_len _ 8
 have hz2:(⟨(sumB B).toArray⟩:ByteArray).size=8:=by rw [bs_size];exact leB_len _ 8
 have hz3:(⟨[UInt8.ofNat B.mem,UInt8.ofNat m].toArray⟩:ByteArray).size=2:=rfl;obtain ⟨SA,hSA⟩:∃ S:ByteArray,(⟨(sumB A).toArray⟩:ByteArray)=S:=⟨_,rfl⟩;obtain ⟨SB,hSB⟩:∃ S:ByteArray,(⟨(sumB B).toArray⟩:ByteArray)=S:=⟨_,rfl⟩;obtain ⟨C2,hCe⟩:∃ S:ByteArray,(⟨[UInt8.ofNat B.mem,UInt8.ofNat m].toArray⟩:ByteArray)=S:=⟨_,rfl⟩;rw [hSA] at HS1 hz1 Hk;rw [hSB] at HS2 hz2 Hk;rw [hCe] at hz3 Hk;have HC:=Lib.hid hCe;clear hSA hSB hCe
 have hz4:(SA++SB).size=16:=by rw [ByteArray.size_append];omega
 have hz5:(SA++SB++C2).size=18:=by rw [ByteArray.size_append];omega
 obtain ⟨VA,hVA⟩:∃ V,Value.agg (refCells r).toArray=V:=⟨_,rfl⟩;obtain ⟨VB,hVB⟩:∃ V,Value.agg (refCells s).toArray=V:=⟨_,rfl⟩;rw [hVA] at HS1;rw [hVB] at HS2;have HVA:=Lib.hid hVA;clear hVA
 have HVB:=Lib.hid hVB;clear hVB
 refine (wpIn_wide (n:=1)).1 ?_;refine RegJ.wpIn_region_plan (F:=Fence.wide) (KeptW w0) (.step 0 0 (.step 2 0 (.step 5 0 (.step 6 0 (.step 7 0 (.step 8 0 (.step 12 0 (.fork 1 (.fork 3 (.step 4 0 (.step 9 1 (.step 10 0 (.step 11 0 (.step 13 0 (.step 14 0 (.step 15 0 .nil))))))) 9 (.step 10 0 (.step 3 1 (.step 4 0 (.step 11 0 (.step 13 0 (.step 14 0 (.step 15 0 .nil)))))))) 9 (.step 10 0 (.step 1 1 (.step 3 1 (.step 4 0 (.step 11 0 (.step 13 0 (.step 14 0 (.step 15 0 .nil)))))))))))))))) (by kernel_rfl) (by kernel_rfl) (by kernel_rfl) hQ ⟨rfl,rfl,rfl,Nat.le_refl _,fun _ _=>rfl⟩ ?_;dsimp only [RegJ.pickJ,List.getElem?_cons_zero,List.getElem?_cons_succ];change RegJ.Can _ _ _ _ _ _ _ _ w0.drew;have hkd:KeptW w0 w0.drew:=⟨rfl,rfl,rfl,Nat.le_refl _,fun _ _=>rfl⟩;have hkp:=hkd;generalize w0.drew=v1 at *;refine RegJ.reads ?_;intro K hK;go_simp;refine ⟨VA,fun y hy=>?_,hK _ ?_⟩
 ·
  obtain ⟨f0,f1,f2,f3⟩:=(H1.out.1.below (KeptW.bel hy)).cells;rw [← HVA.out,ref_eta];go_simp
 clear hK K;refine RegJ.reads ?_;intro K hK;go_simp;refine ⟨VB,fun y hy=>?_,hK _ ?_⟩
 ·
  obtain ⟨f0,f1,f2,f3⟩:=(H2.out.1.below (KeptW.bel hy)).cells;rw [← HVB.out,ref_eta];go_simp
 clear hK K;refine RegJ.reads ?_;intro K hK;go_simp;(first | refine ⟨_,fun _ _=>rfl,hK _ ?_⟩ | refine hK _ ?_);clear hK K;refine RegJ.reads ?_;intro K hK;go_simp;refine ⟨.int .u8 (s.mem:Int),fun y hy=>?_,hK _ ?_⟩
 ·
  have f0:=(H2.out.1.below (KeptW.bel hy)).cells.2.2.1;go_simp
 clear hK K;refine RegJ.reads ?_;intro K hK;go_simp;(first | refine ⟨_,fun _ _=>rfl,hK _ ?_⟩ | refine hK _ ?_);clear hK K;refine RegJ.reads ?_;intro K hK;go_simp;(first | refine ⟨_,fun _ _=>rfl,hK _ ?_⟩ | refine hK _ ?_);clear hK K;refine RegJ.reads ?_;intro K hK;go_simp;(first | refine ⟨_,fun _ _=>rfl,hK _ ?_⟩ | refine hK _ ?_);clear hK K;refine RegJ.forks ?_ ?_
 ·
  skip
  refine RegJ.turns (fun _=>trivial) ?_;intro K K0 hK hK0;go_simp;refine ⟨trivial,?_⟩;refine (callsIn_wide.2 (HS1.out v1 hkd)).mono ?_;rintro e x1 ⟨rfl,hb7⟩;have x1k:KeptW w0 x1:=KeptW.mono hkd hb7;have x1p:KeptW w0 x1:=KeptW.mono hkp hb7;refine hK (KeptW x1) _ x1 (fun y hy=>KeptW.mono x1p (KeptW.bel hy)) (KeptW.refl x1) ?_;clear hK K hK0 K0 hb7;have x1r:=KeptW.refl x1;refine RegJ.forks ?_ ?_
  ·
   skip
   refine RegJ.turns (fun _=>trivial) ?_;intro K K0 hK hK0;go_simp;refine ⟨trivial,?_⟩;refine (callsIn_wide.2 (HS2.out x1 x1k)).mono ?_;rintro e x2 ⟨rfl,hb7⟩;have x2k:KeptW w0 x2:=KeptW.mono x1k hb7;have x2p:KeptW x1 x2:=KeptW.mono x1r hb7;refine hK (KeptW x2) _ x2 (fun y hy=>KeptW.mono x2p (KeptW.bel hy)) (KeptW.refl x2) ?_;clear hK K hK0 K0 hb7;have x2r:=KeptW.refl x2;refine RegJ.reads ?_;intro K hK;go_simp;refine ⟨.string (SA++SB),fun y hy=>?_,hK _ ?_⟩
   ·
    first | rfl | (rw [if_neg (by omega)]) | (rw [if_neg (by simp only [ByteArray.size_append] at *; omega)])
   clear hK K;refine RegJ.turns (fun _=>trivial) ?_;intro K K0 hK hK0;go_simp;have hbq:=(Below.refl x2.heap.size x2).alloc (Nat.le_refl _) (.cells #[.int .u8 (s.mem:Int),.int .u8 (m:Int)] 5);have x3k:KeptW w0 (x2.alloc (.cells #[.int .u8 (s.mem:Int),.int .u8 (m:Int)] 5)):=KeptW.mono x2k hbq;have x3p:KeptW x2 (x2.alloc (.cells #[.int .u8 (s.mem:Int),.int .u8 (m:Int)] 5)):=KeptW.mono x2r hbq;have hone:=Htwo.out x2;refine hK (KeptW (x2.alloc (.cells #[.int .u8 (s.mem:Int),.int .u8 (m:Int)] 5))) _ (x2.alloc (.cells #[.int .u8 (s.mem:Int),.int .u8 (m:Int)] 5)) (fun y hy=>KeptW.mono x3p (KeptW.bel hy)) (KeptW.refl _) ?_;clear hK K hK0 K0 hbq;generalize x2.alloc (.cells #[.int .u8 (s.mem:Int),.int .u8 (m:Int)] 5)=x3 at *
   generalize x2.heap.size=gx3 at *;have x3r:=KeptW.refl x3;refine RegJ.reads ?_;intro K hK;go_simp;refine ⟨.string C2,fun y hy=>?_,hK _ ?_⟩
   ·
    have hcv:=(hone.below (KeptW.bel hy)).conv Tryz.underlying44 Tryz.underlying5 Tryz.underlying9;rw [HC.out] at hcv;rw [hcv];rfl
   clear hK K;refine RegJ.reads ?_;intro K hK;go_simp;refine ⟨.string (SA++SB++C2),fun y hy=>?_,hK _ ?_⟩
   ·
    first | rfl | (rw [if_neg (by omega)]) | (rw [if_neg (by simp only [ByteArray.size_append] at *; omega)])
   clear hK K;refine RegJ.reads ?_;intro K hK;go_simp;refine ⟨.string (SA++SB++C2++R),fun y hy=>?_,hK _ ?_⟩
   ·
    first | rfl | (rw [if_neg (by omega)]) | (rw [if_neg (by simp only [ByteArray.size_append] at *; omega)])
   clear hK K;refine RegJ.reads ?_;intro K hK;go_simp;(first | refine ⟨_,fun _ _=>rfl,hK _ ?_⟩ | refine hK _ ?_);clear hK K;refine RegJ.reads ?_;intro K hK;go_simp;(first | refine ⟨_,fun _ _=>rfl,hK _ ?_⟩ | refine hK _ ?_);clear hK K;refine RegJ.nil ?_;exact Hk.out _ _ _ _ _ _ _ _ _ _ _ _ _ _ (KeptW.bel x3k)
  ·
   skip
   refine RegJ.turns (fun _=>trivial) ?_;intro K K0 hK hK0;go_simp;have hbq:=(Below.refl x1.heap.size x1).alloc (Nat.le_refl _) (.cells #[.int .u8 (s.mem:Int),.int .u8 (m:Int)] 5);have x4k:KeptW w0 (x1.alloc (.cells #[.int .u8 (s.mem:Int),.int .u8 (m:Int)] 5)):=KeptW.mono x1k hbq;have x4p:KeptW x1 (x1.alloc (.cells #[.int .u8 (s.mem:Int),.int .u8 (m:Int)] 5)):=KeptW.mono x1r hbq;have hone:=Htwo.out x1;refine hK (KeptW (x1.alloc (.cells #[.int .u8 (s.mem:Int),.int .u8 (m:Int)] 5))) _ (x1.alloc (.cells #[.int .u8 (s.mem:Int),.int .u8 (m:Int)] 5)) (fun y hy=>KeptW.mono x4p (KeptW.bel hy)) (KeptW.refl _) ?_;clear hK K hK0 K0 hbq;generalize x1.alloc (.cells #[.int .u8 (s.mem:Int),.int .u8 (m:Int)] 5)=x4 at *
   generalize x1.heap.size=gx4 at *;have x4r:=KeptW.refl x4;refine RegJ.reads ?_;intro K hK;go_simp;refine ⟨.string C2,fun y hy=>?_,hK _ ?_⟩
   ·
    have hcv:=(hone.below (KeptW.bel hy)).conv Tryz.underlying44 Tryz.underlying5 Tryz.underlying9;rw [HC.out] at hcv;rw [hcv];rfl
   clear hK K;refine RegJ.turns (fun _=>trivial) ?_;intro K K0 hK hK0;go_simp;refine ⟨trivial,?_⟩;refine (callsIn_wide.2 (HS2.out x4 x4k)).mono ?_;rintro e x5 ⟨rfl,hb7⟩;have x5k:KeptW w0 x5:=KeptW.mono x4k hb7;have x5p:KeptW x4 x5:=KeptW.mono x4r hb7;refine hK (KeptW x5) _ x5 (fun y hy=>KeptW.mono x5p (KeptW.bel hy)) (KeptW.refl x5) ?_;clear hK K hK0 K0 hb7;have x5r:=KeptW.refl x5;refine RegJ.reads ?_;intro K hK;go_simp;refine ⟨.string (SA++SB),fun y hy=>?_,hK _ ?_⟩
   ·
    first | rfl | (rw [if_neg (by omega)]) | (rw [if_neg (by simp only [ByteArray.size_append] at *; omega)])
   clear hK K;refine RegJ.reads ?_;intro K hK;go_simp;refine ⟨.string (SA++SB++C2),fun y hy=>?_,hK _ ?_⟩
   ·
    first | rfl | (rw [if_neg (by omega)]) | (rw [if_neg (by simp only [ByteArray.size_append] at *; omega)])
   clear hK K;refine RegJ.reads ?_;intro K hK;go_simp;refine ⟨.string (SA++SB++C2++R),fun y hy=>?_,hK _ ?_⟩
   ·
    first | rfl | (rw [if_neg (by omega)]) | (rw [if_neg (by simp only [ByteArray.size_append] at *; omega)])
   clear hK K;refine RegJ.reads ?_;intro K hK;go_simp;(first | refine ⟨_,fun _ _=>rfl,hK _ ?_⟩ | refine hK _ ?_);clear hK K;refine RegJ.reads ?_;intro K hK;go_simp;(first | refine ⟨_,fun _ _=>rfl,hK _ ?_⟩ | refine hK _ ?_);clear hK K;refine RegJ.nil ?_;exact Hk.out _ _ _ _ _ _ _ _ _ _ _ _ _ _ (KeptW.bel x5k)
 ·
  skip
  refine RegJ.turns (fun _=>trivial) ?_;intro K K0 hK hK0;go_simp;have hbq:=(Below.refl v1.heap.size v1).alloc (Nat.le_refl _) (.cells #[.int .u8 (s.mem:Int),.int .u8 (m:Int)] 5);have x6k:KeptW w0 (v1.alloc (.cells #[.int .u8 (s.mem:Int),.int .u8 (m:Int)] 5)):=KeptW.mono hkd hbq;have x6p:KeptW w0 (v1.alloc (.cells #[.int .u8 (s.mem:Int),.int .u8 (m:Int)] 5)):=KeptW.mono hkp hbq;have hone:=Htwo.out v1;refine hK (KeptW (v1.alloc (.cells #[.int .u8 (s.mem:Int),.int .u8 (m:Int)] 5))) _ (v1.alloc (.cells #[.int .u8 (s.mem:Int),.int .u8 (m:Int)] 5)) (fun y hy=>KeptW.mono x6p (KeptW.bel hy)) (KeptW.refl _) ?_;clear hK K hK0 K0 hbq;generalize v1.alloc (.cells #[.int .u8 (s.mem:Int),.int .u8 (m:Int)] 5)=x6 at *
  generalize v1.heap.size=gx6 at *;have x6r:=KeptW.refl x6;refine RegJ.reads ?_;intro K hK;go_simp;refine ⟨.string C2,fun y hy=>?_,hK _ ?_⟩
  ·
   have hcv:=(hone.below (KeptW.bel hy)).conv Tryz.underlying44 Tryz.underlying5 Tryz.underlying9;rw [HC.out] at hcv;rw [hcv];rfl
  clear hK K;refine RegJ.turns (fun _=>trivial) ?_;intro K K0 hK hK0;go_simp;refine ⟨trivial,?_⟩;refine (callsIn_wide.2 (HS1.out x6 x6k)).mono ?_;rintro e x7 ⟨rfl,hb7⟩;have x7k:KeptW w0 x7:=KeptW.mono x6k hb7;have x7p:KeptW x6 x7:=KeptW.mono x6r hb7;refine hK (KeptW x7) _ x7 (fun y hy=>KeptW.mono x7p (KeptW.bel hy)) (KeptW.refl x7) ?_;clear hK K hK0 K0 hb7;have x7r:=KeptW.refl x7;refine RegJ.turns (fun _=>trivial) ?_;intro K K0 hK hK0;go_simp;refine ⟨trivial,?_⟩;refine (callsIn_wide.2 (HS2.out x7 x7k)).mono ?_;rintro e x8 ⟨rfl,hb7⟩;have x8k:KeptW w0 x8:=KeptW.mono x7k hb7;have x8p:KeptW x7 x8:=KeptW.mono x7r hb7;refine hK (KeptW x8) _ x8 (fun y hy=>KeptW.mono x8p (KeptW.bel hy)) (KeptW.refl x8) ?_;clear hK K hK0 K0 hb7;have x8r:=KeptW.refl x8;refine RegJ.reads ?_;intro K hK;go_simp;refine ⟨.string (SA++SB),fun y hy=>?_,hK _ ?_⟩
  ·
   first | rfl | (rw [if_neg (by omega)]) | (rw [if_neg (by simp only [ByteArray.size_append] at *; omega)])
  clear hK K;refine RegJ.reads ?_;intro K hK;go_simp;refine ⟨.string (SA++SB++C2),fun y hy=>?_,hK _ ?_⟩
  ·
   first | rfl | (rw [if_neg (by omega)]) | (rw [if_neg (by simp only [ByteArray.size_append] at *; omega)])
  clear hK K;refine RegJ.reads ?_;intro K hK;go_simp;refine ⟨.string (SA++SB++C2++R),fun y hy=>?_,hK _ ?_⟩
  ·
   first | rfl | (rw [if_neg (by omega)]) | (rw [if_neg (by simp only [ByteArray.size_append] at *; omega)])
  clear hK K;refine RegJ.reads ?_;intro K hK;go_simp;(first | refine ⟨_,fun _ _=>rfl,hK _ ?_⟩ | refine hK _ ?_);clear hK K;refine RegJ.reads ?_;intro K hK;go_simp;(first | refine ⟨_,fun _ _=>rfl,hK _ ?_⟩ | refine hK _ ?_);clear hK K;refine RegJ.nil ?_;exact Hk.out _ _ _ _ _ _ _ _ _ _ _ _ _ _ (KeptW.bel x8k)
end Go.Proofs.YtbckjgageofldaaGreat
