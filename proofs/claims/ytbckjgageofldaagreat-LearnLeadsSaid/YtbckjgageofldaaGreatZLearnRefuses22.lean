/- Chains: Lead, of none. Condition: the chain lies there. -/
import Derived.Test.YtbckjgageofldaaGreatZLearnRefuses21
import Derived.Deep.MidRow
import Derived.Test.YtbckjgageofldaaGreatZLearnRefuses7
import Derived.Test.YtbckjgageofldaaGreatZLearnRefuses20
import Derived.Deep.DeepCutAuto
import Derived.Test.YtbckjgageofldaaGreatZLearnRefuses6
import Derived.Test.YtbckjgageofldaaGreatZLearnRefuses11
import Derived.Test.YtbckjgageofldaaGreatZLearnRefuses2
set_option maxRecDepth 100000
set_option maxHeartbeats 16000000
namespace Go.Proofs.YtbckjgageofldaaGreat
open Go.RowKit
structure LmV where
 k:Nat
 f:Nat
 s:Nat
 x:List UInt8
def lmCells (m:LmV):List Value:=[.int .u8 (m.k:Int),.int .u64 0,.int .u8 0,.int .u64 (m.f:Int),.int .u64 (m.s:Int),.int .u8 0,.string ⟨m.x.toArray⟩,.slice none 0 0,.slice none 0 0,.int .u8 0,.int .u32 0,.int .u8 0,.string ByteArray.empty,.string ByteArray.empty,.string ByteArray.empty,.int .u8 0,.int .u8 0,.string ByteArray.empty]
def lmV (m:LmV):Value:=.agg (lmCells m).toArray
def lm0:LmV:=⟨0,0,0,[]⟩
def LmAt (w:World) (g:Nat) (m:LmV):Prop:=w.heap[g]?=some (.cells (lmCells m).toArray 58 (0,0))
theorem LmAt.lt {w:World} {g:Nat} {m:LmV} (h:LmAt w g m):g<w.heap.size:=(Array.getElem?_eq_some_iff.1 h).1
theorem LmAt.below {w w':World} {g:Nat} {m:LmV} (h:LmAt w g m) (hb:Below w.heap.size w w'):LmAt w' g m:=(hb.block g h.lt).trans h
theorem LmAt.thawed {w:World} {g:Nat} {m:LmV} (h:LmAt w g m) (j:Nat):w.frozen? ⟨g,j,none⟩=false:=by
 unfold LmAt at h;unfold World.frozen?;rw [h];rfl
theorem LmAt.cells {w:World} {g:Nat} {m:LmV} (h:LmAt w g m):w.cell? ⟨g,0,none⟩=some (.int .u8 (m.k:Int))∧w.cell? ⟨g,1,none⟩=some (.int .u64 0)∧w.cell? ⟨g,2,none⟩=some (.int .u8 0)∧w.cell? ⟨g,3,none⟩=some (.int .u64 (m.f:Int))∧w.cell? ⟨g,4,none⟩=some (.int .u64 (m.s:Int))∧w.cell? ⟨g,5,none⟩=some (.int .u8 0)∧w.cell? ⟨g,6,none⟩=some (.string ⟨m.x.toArray⟩)∧w.cell? ⟨g,7,none⟩=some (.slice none 0 0)∧w.cell? ⟨g,8,none⟩=some (.slice none 0 0)∧w.cell? ⟨g,9,none⟩=some (.int .u8 0)∧w.cell? ⟨g,10,none⟩=some (.int .u32 0)∧w.cell? ⟨g,11,none⟩=some (.int .u8 0)∧w.cell? ⟨g,12,none⟩=some (.string ByteArray.empty)∧w.cell? ⟨g,13,none⟩=some (.string ByteArray.empty)∧w.cell? ⟨g,14,none⟩=some (.string ByteArray.empty)∧w.cell? ⟨g,15,none⟩=some (.int .u8 0)∧w.cell? ⟨g,16,none⟩=some (.int .u8 0)∧w.cell? ⟨g,17,none⟩=some (.string ByteArray.empty) :=
 ⟨cell_of_row _ _ _ _ _ _ h,cell_of_row _ _ _ _ _ _ h,cell_of_row _ _ _ _ _ _ h,cell_of_row _ _ _ _ _ _ h,cell_of_row _ _ _ _ _ _ h,cell_of_row _ _ _ _ _ _ h,cell_of_row _ _ _ _ _ _ h,cell_of_row _ _ _ _ _ _ h,cell_of_row _ _ _ _ _ _ h,cell_of_row _ _ _ _ _ _ h,cell_of_row _ _ _ _ _ _ h,cell_of_row _ _ _ _ _ _ h,cell_of_row _ _ _ _ _ _ h,cell_of_row _ _ _ _ _ _ h,cell_of_row _ _ _ _ _ _ h,cell_of_row _ _ _ _ _ _ h,cell_of_row _ _ _ _ _ _ h,cell_of_row _ _ _ _ _ _ h⟩
theorem lmSt_at {y:World} {g:Nat} {m0:LmV} (h:LmAt y g m0) (m:LmV):LmAt (rowSt y g 0 (lmCells m)) g m:=rowSt_row (lmCells m) [] (lmCells m0) y h rfl
theorem lm_size:(Tryz.prog.info? 58).map (·.size)=some 18:=by kernel_rfl
theorem lm_loadVar {y:World} {g:Nat} {m:LmV} (h:LmAt y g m):(loadVar 58 ⟨g,0,none⟩).run Tryz.prog y=.ok (lmV m) y :=
 run_loadVar_row y g _ _ (lmCells m).toArray (0,0) _ h Tryz.underlying58 rfl lm_size
theorem lead_none (P:Option Addr) (b:BsV) (n:Nat) (hn:b.top≤n) (w:World) (hN:∀ y:World,Below w.heap.size w y→Calls Tryz.prog 39 #[.pointer P] y fun e w'=>e=.returned (bsV b)∧Below y.heap.size y w') :
  Calls Tryz.prog 9 #[.pointer P,.int .u64 (n:Int)] w fun e w'=>e=.returned (.tuple #[lmV lm0,.bool false])∧Below w.heap.size w w':=by
 have hb1:=(Below.refl w.heap.size w).alloc (Nat.le_refl _) (.cells (lmCells lm0).toArray 58);have hm1:LmAt (w.alloc (.cells (lmCells lm0).toArray 58)) w.heap.size lm0:=heap_alloc_new _ _;have HN:=Lib.hid (show Calls Tryz.prog 39 #[.pointer P] (w.alloc (.cells (lmCells lm0).toArray 58)) fun e w'=>e=.returned (.agg #[.int .u8 (b.M.all:Int),.int .u8 (b.M.mem:Int),.int .u32 (b.M.tab.a.seq.toNat:Int),.int .u8 (b.M.tab.a.code:Int),.string b.M.tab.a.text,.int .u32 (b.M.tab.b.seq.toNat:Int),.int .u8 (b.M.tab.b.code:Int),.string b.M.tab.b.text,.int .u32 (b.M.tab.c.seq.toNat:Int),.int .u8 (b.M.tab.c.code:Int),.string b.M.tab.c.text,.int .u32 (b.M.tab.d.seq.toNat:Int),.int .u8 (b.M.tab.d.code:Int),.string b.M.tab.d.text,.pointer b.P,.int .u64 (b.top:Int),.string ⟨b.t.toArray⟩])∧Below (w.alloc (.cells (lmCells lm0).toArray 58)).heap.size (w.alloc (.cells (lmCells lm0).toArray 58)) w' from hN _ hb1);have hge:(b.top:Int)≤(n:Int):=by omega
 clear hN hn;obtain ⟨g,hg⟩:∃ g,w.heap.size=g:=⟨_,rfl⟩;rw [hg] at hm1;go_enter Tryz.func9,Tryz.ntmps9
 go_upto_region 1 with fail;change Code.wp _ _ _ _ (w.alloc (.cells (lmCells lm0).toArray 58));generalize w.alloc (.cells (lmCells lm0).toArray 58)=w1 at *;have Hm0:=Lib.hid hm1;have Hb0:=Lib.hid hb1;have Hg:=Lib.hid (Nat.le_of_eq hg);clear hm1 hb1 hg;go_upto_region 2 with ((with_reducible refine HN.out.mono ?_);rintro e w2 ⟨rfl,h2⟩)
 change Code.wp _ _ _ _ (w2.alloc (.cells (bsCells b).toArray 110));have hb3:=((Below.refl w2.heap.size w2).alloc (Nat.le_refl _) (.cells (bsCells b).toArray 110));have Hm2:=Lib.hid (show BsAt (w2.alloc (.cells (bsCells b).toArray 110)) w2.heap.size b from heap_alloc_new _ _);have Hm1:=Lib.hid ((Hm0.out.below h2).below hb3);have Hbel:=Lib.hid (Hb0.out.trans ((h2.trans (hb3.mono h2.size)).mono Hb0.out.size));clear h2 HN hb3 Hm0 Hb0;generalize w2.alloc (.cells (bsCells b).toArray 110)=w3 at *;generalize w2.heap.size=gb at *;obtain ⟨_,_,_,_,_,_,_,_,_,_,_,_,_,_,_,f15,_⟩:=Hm2.out.cells;obtain ⟨o0,o1,o2,o3,o4,o5,o6,o7,o8,o9,o10,o11,o12,o13,o14,o15,o16,o17⟩:=Hm1.out.cells;have q0:=Hm1.out.thawed 0;have q1:=Hm1.out.thawed 1;have q2:=Hm1.out.thawed 2;have q3:=Hm1.out.thawed 3;have q4:=Hm1.out.thawed 4;have q5:=Hm1.out.thawed 5;have q6:=Hm1.out.thawed 6;have q7:=Hm1.out.thawed 7;have q8:=Hm1.out.thawed 8;have q9:=Hm1.out.thawed 9;have q10:=Hm1.out.thawed 10;have q11:=Hm1.out.thawed 11;have q12:=Hm1.out.thawed 12;have q13:=Hm1.out.thawed 13;have q14:=Hm1.out.thawed 14;have q15:=Hm1.out.thawed 15;have q16:=Hm1.out.thawed 16;have q17:=Hm1.out.thawed 17;go_wp2_with fail;change bodyPost _ _ _ _ _ (rowSt w3 g 0 (lmCells lm0));have HZ:=Lib.hid (lmSt_at Hm1.out lm0);have Hbz:=Lib.hid (rowSt_below Hg.out (lmCells lm0) 0 _ Hbel.out);clear f15 o0 o1 o2 o3 o4 o5 o6 o7 o8 o9 o10 o11 o12 o13 o14 o15 o16 o17 q0 q1 q2 q3 q4 q5 q6 q7 q8 q9 q10 q11 q12 q13 q14 q15 q16 q17;generalize rowSt w3 g 0 (lmCells lm0)=w9 at *;refine bodyPost_ret (v:=.tuple #[lmV lm0,.bool false]) (by simp [results,Tryz.results9,show (asAddr (Value.pointer (some ⟨g,0,none⟩))).run Tryz.prog w9=.ok ⟨g,0,none⟩ w9 from rfl,lm_loadVar HZ.out]) rfl ?_;exact ⟨rfl,Hbz.out⟩
theorem st_eq {g:Nat}:∀ (vs:List Value) (i:Nat) (y:World),y.setCells g i vs=rowSt y g i vs
 | [],_,_=>rfl
 | _::r,i,_=>st_eq r (i+1) _
theorem range_row {y:World} {g:Nat} {cs:List Value} {t:TypeId} (h:y.heap[g]?=some (.cells cs.toArray t (0,0))):y.rangeAt g 0 cs:=fun j v hv=>by
 rw [Nat.zero_add];simp only [World.cell?,h];simpa using hv
theorem there_row {y:World} {g:Nat} {cs:List Value} {t:TypeId} (h:y.heap[g]?=some (.cells cs.toArray t (0,0))):y.there g 0 cs.length:=fun j hj=>⟨by
 rw [Nat.zero_add];simp only [World.cell?,h];simp [hj],by
 rw [Nat.zero_add];unfold World.frozen?;rw [h];rfl⟩
theorem row_loadAt {P:Program} {y:World} {g:Nat} {cs:List Value} {t:TypeId} {d:TypeDesc} (h:y.heap[g]?=some (.cells cs.toArray t (0,0))) (hu:P.underlying t=some d) (hd:d.isRow=true) (hs:(P.info? t).map (·.size)=some cs.length) :
  (Instr.loadAt t (.pointer (some ⟨g,0,none⟩))).run P y=.ok (.agg cs.toArray) y:=run_loadAt_mid y g 0 t cs d (range_row h) hu hd hs
theorem mid_row {g:Nat} {t:TypeId}:∀ (vs pre old post:List Value) (y:World),y.heap[g]?=some (.cells (pre++old++post).toArray t (0,0))→old.length=vs.length→(rowSt y g pre.length vs).heap[g]?=some (.cells (pre++vs++post).toArray t (0,0))
 | [],pre,old,post,y,h,hl=>by
  have:old=[]:=List.length_eq_zero_iff.1 hl;subst this;exact h
 | v::r,pre,[],post,y,h,hl=>by simp at hl
 | v::r,pre,o::old,post,y,h,hl=>by
  have e:=mid_row r (pre++[v]) old post (y.setCell ⟨g,pre.length,none⟩ v) (by
   rw [heap_setCell_same _ _ _ _ _ _ h];congr 2
   simp) (by simpa using hl)
  rw [List.length_append,List.length_singleton] at e;show (rowSt (y.setCell ⟨g,pre.length,none⟩ v) g (pre.length+1) r).heap[g]?=_;rw [e];simp
theorem mid_loadAt {P:Program} {y:World} {g:Nat} {pre cs post:List Value} {t e:TypeId} {d:TypeDesc} (h:y.heap[g]?=some (.cells (pre++cs++post).toArray t (0,0))) (hu:P.underlying e=some d) (hd:d.isRow=true) (hs:(P.info? e).map (·.size)=some cs.length) :
  (Instr.loadAt e (.pointer (some ⟨g,pre.length,none⟩))).run P y=.ok (.agg cs.toArray) y :=
 run_loadAt_mid y g pre.length e cs d (fun j v hv=>by
  have k:=range_row h (pre.length+j) v (by
   rw [List.append_assoc,List.getElem?_append_right (by omega),Nat.add_sub_cancel_left,List.getElem?_append_left (List.getElem?_eq_some_iff.1 hv).1];exact hv)
  rwa [Nat.zero_add] at k) hu hd hs
theorem exec_load {P:Program} {ρ:Operand→Value} {o:Oper} {t:TypeId} {a:Operand} (h:o.op=.load t a) {p:Value} (ha:ρ a=p) {y:World} {V:Value} (hr:(Instr.loadAt t p).run P y=.ok V y):(execOp ρ o).run P y=.ok (.value V) y:=by
 simp only [execOp,h,ha,Sem.run_bind,hr,Result.andThen_ok,Sem.run_pure]
theorem box_row (y:World) (cs0 cs:List Value) (t:TypeId) (hl:cs0.length=cs.length):((y.alloc (.cells cs0.toArray t)).setCells y.heap.size 0 cs).heap[y.heap.size]?=some (.cells cs.toArray t (0,0)):=by
 rw [st_eq];exact rowSt_row cs [] cs0 _ (heap_alloc_new _ _) hl
theorem box_below (y:World) (cs0 cs:List Value) (t:TypeId):Below y.heap.size y ((y.alloc (.cells cs0.toArray t)).setCells y.heap.size 0 cs):=by
 rw [st_eq];exact rowSt_below (Nat.le_refl _) cs 0 _ ((Below.refl _ _).alloc (Nat.le_refl _) _)
theorem mac_size:(Tryz.prog.info? 38).map (·.size)=some 15:=by kernel_rfl
theorem mac_size2 (M:MacV) (P:Option Addr):(Tryz.prog.info? 38).map (·.size)=some (macCells M P).length:=mac_size
theorem bs_range {y:World} {g:Nat} {b:BsV} (h:BsAt y g b):y.rangeAt g 0 (macCells b.M b.P):=fun j v hv=>range_row h j v (by
 unfold bsCells;rw [List.getElem?_append_left (List.getElem?_eq_some_iff.1 hv).1];exact hv)
theorem lm_one (m:LmV):∀ v ∈ lmCells m,v.oneCell'=true:=by simp [lmCells,Value.oneCell']
theorem ch_start {w:World} (b c:BsV) (X Y:Tr) (hX:TreeAt w X) (hY:TreeAt w Y):∀ y,y=((w.alloc (.cells (bsCells b).toArray 110)).alloc (.cells (bsCells c).toArray 110)).alloc (.cells (lmCells lm0).toArray 58)→BsAt y w.heap.size b∧BsAt y (w.heap.size+1) c∧LmAt y (w.heap.size+1+1) lm0∧TreeAt y X∧TreeAt y Y∧Below w.heap.size w y:=by
 rintro y rfl;have b1:=(Below.refl w.heap.size w).alloc (Nat.le_refl _) (.cells (bsCells b).toArray 110);have m1:BsAt (w.alloc (.cells (bsCells b).toArray 110)) w.heap.size b:=heap_alloc_new _ _;generalize hq1:w.alloc (.cells (bsCells b).toArray 110)=w1 at *
 have b2:=(Below.refl w1.heap.size w1).alloc (Nat.le_refl _) (.cells (bsCells c).toArray 110);have m2:BsAt (w1.alloc (.cells (bsCells c).toArray 110)) w1.heap.size c:=heap_alloc_new _ _;have s1:w1.heap.size=w.heap.size+1:=by rw [← hq1,World.size_alloc]
 generalize hq2:w1.alloc (.cells (bsCells c).toArray 110)=w2 at *
 have b3:=(Below.refl w2.heap.size w2).alloc (Nat.le_refl _) (.cells (lmCells lm0).toArray 58);have m3:LmAt (w2.alloc (.cells (lmCells lm0).toArray 58)) w2.heap.size lm0:=heap_alloc_new _ _;have s2:w2.heap.size=w1.heap.size+1:=by rw [← hq2,World.size_alloc]
 have b23:=b2.trans (b3.mono b2.size);have ball:=b1.trans (b23.mono b1.size);rw [s1] at m2;rw [s2,s1] at m3;exact ⟨m1.below b23,m2.below b3,m3,hX.below ball,hY.below ball,ball⟩
theorem lchange_any (b c:BsV) (X Y:Tr) (hb:MacAll b.M) (hc:MacAll c.M) (hall:b.M.all=c.M.all) (htl:c.t.length≤3) (hbt:b.top<18446744073709551616) (hct:c.top<18446744073709551616) (hPX:b.P=X.ptr) (hPY:c.P=Y.ptr) (w:World) (hX:TreeAt w X) (hY:TreeAt w Y) (hsX:X.sh=b.M.sh) (hsY:Y.sh=c.M.sh) :
  Calls Tryz.prog 40 #[bsV b,bsV c] w fun e w'=>e=.returned (.tuple #[lmV ⟨13,b.top,c.top,leadB c.t b.M c.M⟩,.bool true])∧Below w.heap.size w w':=by
 obtain ⟨S,hS⟩:∃ S:ByteArray,(⟨(diffM b.M c.M).toArray⟩:ByteArray)=S:=⟨_,rfl⟩;obtain ⟨ca,hVA⟩:∃ V,macCells b.M b.P=V:=⟨_,rfl⟩;obtain ⟨cb,hVB⟩:∃ V,macCells c.M c.P=V:=⟨_,rfl⟩;have hd:∀ y:World,TreeAt y X→TreeAt y Y→Calls Tryz.prog 76 #[.agg ca.toArray,.agg cb.toArray] y fun e w'=>e=.returned (.tuple #[.string S,.int .i64 0])∧Below y.heap.size y w':=fun y h1 h2=>by
  have k:=diff_calls hb hc hall h1 h2 hsX hsY;unfold macV at k;rw [← hPX, ← hPY,hVA,hVB,hS] at k;exact k
 have hval:strL ⟨c.t.toArray⟩++(diffM b.M c.M)=leadB c.t b.M c.M:=by
  unfold strL leadB;rfl
 have hin:=inside_len hb hc htl b.top c.top;have hvl:=leadB_len hb hc htl;have Hd:=Lib.hid hd;have Hl:=Lib.hid (And.intro htl (And.intro hbt hct));have Hval:=Lib.hid hval;have HS:=Lib.hid hS;have HV:=Lib.hid (And.intro hVA hVB);have Hin:=Lib.hid (And.intro hin hvl);have Hst:=Lib.hid (ch_start b c X Y hX hY);clear hd hval hS hVA hVB hin hvl hX hY htl hbt hct hb hc hall hPX hPY hsX hsY;obtain ⟨g,hg⟩:∃ g,w.heap.size=g:=⟨_,rfl⟩;rw [hg] at Hst;unfold bsV;rw [bs_eta,bs_eta];go_enter Tryz.func40,Tryz.ntmps40
 go_upto_region 1 with fail;simp only [← bs_eta];change Code.wp _ _ _ _ (((w.alloc (.cells (bsCells b).toArray 110)).alloc (.cells (bsCells c).toArray 110)).alloc (.cells (lmCells lm0).toArray 58));obtain ⟨w1,hw1⟩:∃ y,y=((w.alloc (.cells (bsCells b).toArray 110)).alloc (.cells (bsCells c).toArray 110)).alloc (.cells (lmCells lm0).toArray 58):=⟨_,rfl⟩;rw [← hw1];obtain ⟨h1,h2,h3,h4,h5,h6⟩:=Hst.out w1 hw1;have HI:=Lib.hid (And.intro h1 (And.intro h2 h3));have hd:=Hd.out w1 h4 h5;have HB:=Lib.hid h6;have Hg:=Lib.hid hg;have la:=bs_range h1;have lb:=bs_range h2;rw [HV.out.1] at la;rw [HV.out.2] at lb;have la2:=mac_size2 b.M b.P;have lb2:=mac_size2 c.M c.P;rw [HV.out.1] at la2;rw [HV.out.2] at lb2;have Hla:=Lib.hid (And.intro la la2);have Hlb:=Lib.hid (And.intro lb lb2);clear la lb la2 lb2;have Hd1:=Lib.hid hd;clear hd h1 h2 h3 h4 h5 h6 hw1 Hst Hd hg;go_upto_region 4 with (first
  | (with_reducible refine wpList_load_mid rfl 38 _ rfl g 0 rfl ca _ Hla.out.1 Tryz.underlying38 rfl Hla.out.2 ?_)
  | (with_reducible refine wpList_load_mid rfl 38 _ rfl (g+1) 0 rfl cb _ Hlb.out.1 Tryz.underlying38 rfl Hlb.out.2 ?_)
  | ((with_reducible refine Hd1.out.mono ?_);rintro e w2 ⟨rfl,hb2⟩;have HB2:=Lib.hid hb2;clear hb2))
 have HI2:=Lib.hid (And.intro (HI.out.1.below HB2.out) (And.intro (HI.out.2.1.below HB2.out) (HI.out.2.2.below HB2.out)));have HB3:=Lib.hid (show Below g w w2 by have h6:=HB.out;have h7:=HB2.out;exact h6.trans (h7.mono (Nat.le_trans (Nat.le_of_eq Hg.out.symm) h6.size)));clear HI HB HB2 Hd1 Hla Hlb;have f16:w2.cell? ⟨g+1,16,none⟩=some (.string ⟨c.t.toArray⟩):=cell_of_row _ _ _ _ _ _ HI2.out.2.1;have hsz:(⟨c.t.toArray⟩:ByteArray).size=c.t.length:=rfl;have hs:=str_any _ [] ⟨c.t.toArray⟩ (by rw [hsz];have:=Hl.out.1;simp;omega) w2 (ReadB.nil _);have Hs:=Lib.hid hs;clear hs hsz;have hlim : ¬ 9223372036854775807<(strL ⟨c.t.toArray⟩).length+S.size:=by
  have h1:=strL_len ⟨c.t.toArray⟩;have h2:(⟨c.t.toArray⟩:ByteArray).size=c.t.length:=rfl;have h3:S.size=(diffM b.M c.M).length:=by rw [← HS.out];rfl
  have h4:=Hl.out.1;have h5:=Hin.out.2;rw [← Hval.out,List.length_append] at h5;omega
 go_upto_region 5 with ((with_reducible refine Hs.out.mono ?_);rintro e w3 ⟨v3,rfl,ho3,hb3⟩;have HB3b:=Lib.hid hb3;have hcv:=ho3.read.conv Tryz.underlying44 Tryz.underlying5 Tryz.underlying9;rw [List.nil_append] at hcv;clear ho3 hb3)
 have HI3:=Lib.hid (And.intro (HI2.out.1.below HB3b.out) (And.intro (HI2.out.2.1.below HB3b.out) (HI2.out.2.2.below HB3b.out)));have HB4:=Lib.hid (show Below g w w3 by have h6:=HB3.out;have h7:=HB3b.out;exact h6.trans (h7.mono (Nat.le_trans (Nat.le_of_eq Hg.out.symm) h6.size)));clear HI2 HB3 HB3b Hs f16 hcv hlim;obtain ⟨V,hV⟩:∃ V:ByteArray,(⟨(strL ⟨c.t.toArray⟩).toArray⟩:ByteArray)++S=V:=⟨_,rfl⟩;rw [hV];have hV2:V=⟨(leadB c.t b.M c.M).toArray⟩:=by
  rw [← hV, ← HS.out, ← Hval.out];exact str_app _ _
 have HV2:=Lib.hid hV2;clear hV hV2;refine (wpIn_wide (n:=1)).1 ?_;refine RegJ.wpIn_region_plan (F:=Fence.wide) (KeptW w3) (.step 1 0 (.step 2 0 (.step 4 0 (.step 5 0 (.step 7 0 (.step 0 1 (.step 3 1 (.step 6 1 (.step 8 1 (.step 9 0 .nil)))))))))) (by kernel_rfl) (by kernel_rfl) (by kernel_rfl) (fun _ _ d _ _ h=>by cases d <;> exact h) ⟨rfl,rfl,rfl,Nat.le_refl _,fun _ _=>rfl⟩ ?_;dsimp only [RegJ.pickJ,List.getElem?_cons_zero,List.getElem?_cons_succ];change RegJ.Can _ _ _ _ _ _ _ _ w3.drew;have hkd:KeptW w3 w3.drew:=⟨rfl,rfl,rfl,Nat.le_refl _,fun _ _=>rfl⟩;have hkp:=hkd;generalize w3.drew=v1 at *;refine RegJ.reads ?_;intro K hK;go_simp;(first | refine ⟨_,fun _ _=>rfl,hK _ ?_⟩ | refine hK _ ?_);clear hK K;refine RegJ.reads ?_;intro K hK;go_simp;refine ⟨.int .u64 (b.top:Int),fun y hy=>?_,hK _ ?_⟩
 ·
  have f0:y.cell? ⟨g,15,none⟩=some (.int .u64 (b.top:Int)):=cell_of_row _ _ _ _ _ _ (HI3.out.1.below (KeptW.bel hy));go_simp
 clear hK K;refine RegJ.reads ?_;intro K hK;go_simp;(first | refine ⟨_,fun _ _=>rfl,hK _ ?_⟩ | refine hK _ ?_);clear hK K;refine RegJ.reads ?_;intro K hK;go_simp;refine ⟨.int .u64 (c.top:Int),fun y hy=>?_,hK _ ?_⟩
 ·
  have f0:y.cell? ⟨g+1,15,none⟩=some (.int .u64 (c.top:Int)):=cell_of_row _ _ _ _ _ _ (HI3.out.2.1.below (KeptW.bel hy));go_simp
 clear hK K;refine RegJ.reads ?_;intro K hK;go_simp;(first | refine ⟨_,fun _ _=>rfl,hK _ ?_⟩ | refine hK _ ?_);clear hK K;refine RegJ.turns (fun _=>trivial) ?_;intro K K0 hK hK0;go_simp;have hbq:=(Below.refl v1.heap.size v1).alloc (Nat.le_refl _) (.cells #[.int .u8 13] 5);have x1k:KeptW w3 (v1.alloc (.cells #[.int .u8 13] 5)):=KeptW.mono hkd hbq;have x1p:KeptW w3 (v1.alloc (.cells #[.int .u8 13] 5)):=KeptW.mono hkp hbq;have Hone:=Lib.hid (show ReadB (v1.alloc (.cells #[.int .u8 13] 5)) (.slice (some ⟨v1.heap.size,0,none⟩) 1 1) [13] from ReadB.one v1 13 5);refine hK (KeptW (v1.alloc (.cells #[.int .u8 13] 5))) _ (v1.alloc (.cells #[.int .u8 13] 5)) (fun y hy=>KeptW.mono x1p (KeptW.bel hy)) (KeptW.refl _) ?_;clear hK K hK0 K0 hbq;generalize v1.alloc (.cells #[.int .u8 13] 5)=x1 at *;generalize v1.heap.size=gx1 at *;have x1r:=KeptW.refl x1;refine RegJ.turns (fun _=>trivial) ?_;intro K K0 hK hK0;go_simp;refine ⟨trivial,?_⟩;refine (callsIn_wide.2 (num_any _ [13] b.top Hl.out.2.1 (by simp) x1 Hone.out)).mono ?_;rintro e x2 ⟨n1,rfl,ho1,hb7⟩;have x2k:KeptW w3 x2:=KeptW.mono x1k hb7;have x2p:KeptW x1 x2:=KeptW.mono x1r hb7;refine hK (KeptW x2) _ x2 (fun y hy=>KeptW.mono x2p (KeptW.bel hy)) (KeptW.refl x2) ?_;clear hK K hK0 K0 hb7;have Ho1:=Lib.hid ho1.read;clear ho1;have x2r:=KeptW.refl x2;refine RegJ.turns (fun _=>trivial) ?_;intro K K0 hK hK0;go_simp;refine ⟨trivial,?_⟩;refine (callsIn_wide.2 (num_any _ ([13]++numL b.top) c.top Hl.out.2.2 (by rw [List.length_append];have:=(numL_len b.top).1;simp;omega) x2 Ho1.out)).mono ?_;rintro e x3 ⟨n2,rfl,ho2,hb7⟩;have x3k:KeptW w3 x3:=KeptW.mono x2k hb7;have x3p:KeptW x2 x3:=KeptW.mono x2r hb7;refine hK (KeptW x3) _ x3 (fun y hy=>KeptW.mono x3p (KeptW.bel hy)) (KeptW.refl x3) ?_;clear hK K hK0 K0 hb7;have Ho2:=Lib.hid ho2.read;clear ho2;have x3r:=KeptW.refl x3;refine RegJ.turns (fun _=>trivial) ?_;intro K K0 hK hK0;go_simp;refine ⟨trivial,?_⟩;refine (callsIn_wide.2 (str_any _ ([13]++numL b.top++numL c.top) V (by rw [List.length_append,List.length_append,HV2.out];have h1:=(numL_len b.top).1;have h2:=(numL_len c.top).1;have h3:=Hin.out.2;have h4:(⟨(leadB c.t b.M c.M).toArray⟩:ByteArray).size=(leadB c.t b.M c.M).length:=rfl;rw [h4];simp;omega) x3 Ho2.out)).mono ?_;rintro e x4 ⟨n3,rfl,ho3,hb7⟩;have x4k:KeptW w3 x4:=KeptW.mono x3k hb7;have x4p:KeptW x3 x4:=KeptW.mono x3r hb7;refine hK (KeptW x4) _ x4 (fun y hy=>KeptW.mono x4p (KeptW.bel hy)) (KeptW.refl x4) ?_;clear hK K hK0 K0 hb7;have Ho3:=Lib.hid ho3;clear ho3;have x4r:=KeptW.refl x4;refine RegJ.reads ?_;intro K hK;go_simp;(first | refine ⟨_,fun _ _=>rfl,hK _ ?_⟩ | refine hK _ ?_);clear hK K;refine RegJ.nil ?_;have hlen:(([13]++numL b.top++numL c.top)++strL V).length≤43200:=by
  have e:=Hin.out.1;unfold insideB at e;rw [HV2.out];exact e
 obtain ⟨a3,q3,c3,rfl⟩:=Ho3.out.read.slice;have hq:=Ho3.out.len;have hq3:q3≤43200:=by rw [hq];exact hlen
 clear hlen hq;have hle:(65536:Int)<(q3:Int) ↔ False:=by rw [iff_false];omega
 have hle2:=propext hle;clear hle hq3;have HB5:=Lib.hid (show Below g w x4 by have h6:=HB4.out;have h7:=KeptW.bel x4k;exact h6.trans (h7.mono (Nat.le_trans (Nat.le_of_eq Hg.out.symm) h6.size)));have HI5:=Lib.hid (And.intro (HI3.out.1.below (KeptW.bel x4k)) (And.intro (HI3.out.2.1.below (KeptW.bel x4k)) (HI3.out.2.2.below (KeptW.bel x4k))));clear HI3 HB4 Ho1 Ho2 Ho3 Hone;have f15:x4.cell? ⟨g,15,none⟩=some (.int .u64 (b.top:Int)):=cell_of_row _ _ _ _ _ _ HI5.out.1;have f15c:x4.cell? ⟨g+1,15,none⟩=some (.int .u64 (c.top:Int)):=cell_of_row _ _ _ _ _ _ HI5.out.2.1;have hth:=there_row (cs:=lmCells lm0) HI5.out.2.2;have hz:=lmSt_at HI5.out.2.2 ⟨13,b.top,c.top,leadB c.t b.M c.M⟩;have hbz:=rowSt_below (g:=g+1+1) (show g≤g+1+1 by omega) (lmCells ⟨13,b.top,c.top,leadB c.t b.M c.M⟩) 0 _ HB5.out;have Hth:=Lib.hid hth;have HZ:=Lib.hid hz;have HBz:=Lib.hid hbz;clear hz hbz hth;have e:=HV2.out;subst e;go_wp2_with ((with_reducible refine wpList_store_mid rfl 58 _ _ rfl (g+1+1) 0 _ rfl rfl ?_ ?_ ?_ ?_);exact Hth.out;exact lm_size;exact all_oneCell_toArray (lm_one ⟨13,b.top,c.top,leadB c.t b.M c.M⟩));change bodyPost _ _ _ _ _ (rowSt x4 (g+1+1) 0 (lmCells ⟨13,b.top,c.top,leadB c.t b.M c.M⟩));generalize rowSt x4 (g+1+1) 0 (lmCells ⟨13,b.top,c.top,leadB c.t b.M c.M⟩)=w9 at *;refine bodyPost_ret (v:=.tuple #[lmV ⟨13,b.top,c.top,leadB c.t b.M c.M⟩,.bool true]) (by simp [results,Tryz.results40,show (asAddr (Value.pointer (some ⟨g+1+1,0,none⟩))).run Tryz.prog w9=.ok ⟨g+1+1,0,none⟩ w9 from rfl,lm_loadVar HZ.out]) rfl ?_;refine ⟨rfl,?_⟩;rw [Hg.out];exact HBz.out
theorem base_size2 (b:BsV):(Tryz.prog.info? 110).map (·.size)=some (bsCells b).length:=base_size
theorem lm_size2 (m:LmV):(Tryz.prog.info? 58).map (·.size)=some (lmCells m).length:=lm_size
theorem th_new (y:World) (cs0:List Value) (t:TypeId):(y.alloc (.cells cs0.toArray t)).there y.heap.size 0 cs0.length:=there_row (heap_alloc_new _ _)
theorem at_cells {w y:World} {base p B q:Nat} {L:List BsV} (h:ShAt w base p (.slice (some ⟨B,0,none⟩) L.length q) L) {i:Nat} {x:BsV} (hx:L[i]?=some x) (hy:Below w.heap.size w y):y.rangeAt B (i*17) (bsCells x):=by
 obtain ⟨B2,c2,e,hk⟩:=h.at_ hx;cases e
 exact hk y hy
theorem lead_snap (base p:Nat) (v:Value) (L:List BsV) (c:BsV) (hL:L[L.length - 1]?=some c) (hsz:L.length≤1000000) (n:Nat) (hn:n<c.top) (hno:∀ x ∈ L,x.top≠n) (hM:MacFit c.M) (hl:c.t.length≤1000000) (T:Tr) (hP:c.P=T.ptr) (hsh:T.sh=c.M.sh) (w:World) (h:ShAt w base p v L) (hat:TreeAt w T) :
  Calls Tryz.prog 9 #[.pointer (some ⟨p,0,none⟩),.int .u64 (n:Int)] w fun e w'=>e=.returned (.tuple #[lmV ⟨12,0,c.top,textB c.t c.M⟩,.bool true])∧Below w.heap.size w w':=by
 have hb1:=(Below.refl w.heap.size w).alloc (Nat.le_refl _) (.cells (lmCells lm0).toArray 58);have hm1:LmAt (w.alloc (.cells (lmCells lm0).toArray 58)) w.heap.size lm0:=heap_alloc_new _ _;have hN:=newest_last base p v L c hL hsz _ (h.below hb1);unfold bsV at hN;have HN:=Lib.hid hN;have hge : ¬ (c.top:Int)≤(n:Int):=by omega
 have Hsh:=Lib.hid (h.below hb1);have Hn:=Lib.hid (And.intro hn hsz);clear hN hn hsz h;obtain ⟨g,hg⟩:∃ g,w.heap.size=g:=⟨_,rfl⟩;rw [hg] at hm1;go_enter Tryz.func9,Tryz.ntmps9
 go_upto_region 1 with fail;change Code.wp _ _ _ _ (w.alloc (.cells (lmCells lm0).toArray 58));generalize w.alloc (.cells (lmCells lm0).toArray 58)=w1 at *;have Hm0:=Lib.hid hm1;have Hb0:=Lib.hid hb1;have Hg:=Lib.hid (Nat.le_of_eq hg);clear hm1 hb1 hg;go_upto_region 2 with (first
  | ((with_reducible refine HN.out.mono ?_);rintro e w2 ⟨rfl,h2⟩;have H2:=Lib.hid h2;clear h2)
  | ((with_reducible refine wpList_store_mid rfl 110 _ _ rfl w2.heap.size 0 _ rfl rfl ?_ ?_ ?_ ?_);exact th_new w2 (bsCells bs0) 110;exact base_size;exact all_oneCell_toArray (bs_one c)))
 change Code.wp _ _ _ _ ((w2.alloc (.cells (bsCells bs0).toArray 110)).setCells w2.heap.size 0 (bsCells c));have hbx:=box_below w2 (bsCells bs0) (bsCells c) 110;have Hm2:=Lib.hid (show BsAt _ _ c from box_row w2 (bsCells bs0) (bsCells c) 110 rfl);have hb3:=H2.out.trans (hbx.mono H2.out.size);have Hm1:=Lib.hid (Hm0.out.below hb3);have Hs3:=Lib.hid (Hsh.out.below hb3);have Hbel:=Lib.hid (Hb0.out.trans (hb3.mono Hb0.out.size));clear H2 HN hb3 hbx Hm0 Hb0 Hsh;generalize (w2.alloc (.cells (bsCells bs0).toArray 110)).setCells w2.heap.size 0 (bsCells c)=w3 at *;generalize w2.heap.size=gb at *;have f15:w3.cell? ⟨gb,15,none⟩=some (.int .u64 (c.top:Int)):=cell_of_row _ _ _ _ _ _ Hm2.out;obtain ⟨B,q,hv,_⟩:=Hs3.out.at_ hL;subst hv;have Hat3:=Lib.hid (fun (i:Nat) (x:BsV) (hx:L[i]?=some x) (y:World) (hy:Below w3.heap.size w3 y)=>at_cells Hs3.out hx hy);have HL:=Lib.hid hL;clear hL;have f0:=Hs3.out.get;go_upto_region 5 with fail;go_loopw [23] (fun s23 wr=>∃ i:Nat,i≤L.length∧s23=.int .i64 (i:Int)∧Below w3.heap.size w3 wr) (fun s23 _=>L.length - (intOf s23).toNat)
 case atStart=>exact ⟨0,by omega,rfl,Below.refl _ _⟩
 case round =>
  obtain ⟨i,hi,rfl,hb⟩:=hrel;have Hb:=Lib.hid hb;clear hb f0 f15;by_cases hlt:i<L.length
  ·
   skip
   have hlt':(i:Int)<(L.length:Int):=by omega
   have hlt0 : ¬ (i:Int)<0:=by omega
   have hsucc:=tsucc (n:=i) (by have:=Hn.out.2;omega);obtain ⟨x,hx⟩:∃ x,L[i]?=some x:=⟨_,List.getElem?_eq_getElem hlt⟩;have Hx:=Lib.hid (And.intro hx (Hat3.out i x hx wr Hb.out));clear hx;go_upto_region 7 with (first
    | (with_reducible refine wpList_load_mid rfl 110 _ rfl B (i*17) rfl (bsCells x) _ Hx.out.2 Tryz.underlying110 rfl (base_size2 x) ?_)
    | ((with_reducible refine wpList_store_mid rfl 110 _ _ rfl wr.heap.size 0 _ rfl rfl ?_ ?_ ?_ ?_);exact th_new wr (bsCells bs0) 110;exact base_size;exact all_oneCell_toArray (bs_one x)))
   change Code.wp _ _ _ _ ((wr.alloc (.cells (bsCells bs0).toArray 110)).setCells wr.heap.size 0 (bsCells x));have hbx:=box_below wr (bsCells bs0) (bsCells x) 110;have Hmx:=Lib.hid (show BsAt _ _ x from box_row wr (bsCells bs0) (bsCells x) 110 rfl);have Hb4:=Lib.hid (Hb.out.trans (hbx.mono Hb.out.size));clear hbx Hb;generalize (wr.alloc (.cells (bsCells bs0).toArray 110)).setCells wr.heap.size 0 (bsCells x)=w4 at *;generalize wr.heap.size=gx at *;have f15:w4.cell? ⟨gx,15,none⟩=some (.int .u64 (x.top:Int)):=cell_of_row _ _ _ _ _ _ Hmx.out;have hxn:x.top≠n:=hno x (List.mem_of_getElem? Hx.out.1);have hne:((x.top:Int) != (n:Int))=true:=by rw [bne_iff_ne];omega
   go_wp2_with fail;go_roundw
   case rel=>exact ⟨_,_,_,_,_,⟨i+1,by omega,rfl,Hb4.out⟩,rfl,rfl,rfl,rfl,rfl⟩
   case measure =>
    simp only [intOf];omega
  ·
   have hlt' : ¬ (i:Int)<(L.length:Int):=by omega
   have Hm9:=Lib.hid (Hm1.out.below Hb.out);have Hm8:=Lib.hid (Hm2.out.below Hb.out);have Hbel9:=Lib.hid (Hbel.out.trans (Hb.out.mono Hbel.out.size));have HT:=Lib.hid (fun (y:World) (hy:Below w.heap.size w y)=>btext_any c T hM hl hP y (hat.below hy) hsh);unfold bsV at HT;clear Hm1 Hm2 Hbel Hb hno Hat3 HL hi hlt;go_upto_region 12 with fail;refine (wpIn_wide (n:=1)).1 ?_;refine RegK.wpIn_region_can (F:=Fence.wide) (KeptW wr) [(0,0),(1,0),(2,0),(3,1),(4,0),(5,3),(6,0)] (by kernel_rfl) (by kernel_rfl) (by kernel_rfl) (fun _ _ d _ _ h=>by cases d <;> exact h) ⟨rfl,rfl,rfl,Nat.le_refl _,fun _ _=>rfl⟩ ?_;dsimp only [RegK.pick,List.getElem?_cons_zero,List.getElem?_cons_succ];change RegK.Can _ _ _ _ _ _ _ _ wr.drew;have hkd:KeptW wr wr.drew:=⟨rfl,rfl,rfl,Nat.le_refl _,fun _ _=>rfl⟩;generalize wr.drew=v1 at *;refine RegK.can_reads ?_;intro K hK;go_simp;(first | refine ⟨_,fun _ _=>rfl,hK _ ?_⟩ | refine hK _ ?_);clear hK K
   refine RegK.can_reads ?_;intro K hK;go_simp;refine ⟨.int .u64 (c.top:Int),fun y hy=>?_,hK _ ?_⟩
   ·
    have f0:y.cell? ⟨gb,15,none⟩=some (.int .u64 (c.top:Int)):=cell_of_row _ _ _ _ _ _ (Hm8.out.below (KeptW.bel hy));go_simp
   clear hK K;refine RegK.can_reads ?_;intro K hK;rw [if_pos (by first | (simp [Region.wanted];done) | (go_simp;done))];refine ⟨.agg (bsCells c).toArray,fun y hy=>exec_load rfl rfl (row_loadAt (P:=Tryz.prog) (cs:=bsCells c) (Hm8.out.below (KeptW.bel hy)) Tryz.underlying110 rfl (base_size2 c)),hK _ ?_⟩;clear hK K;go_simp;refine RegK.can_turns (fun _=>trivial) ?_;intro K K0 hK hK0;go_simp;refine ⟨trivial,?_⟩;refine (callsIn_wide.2 (HT.out v1 (Hbel9.out.trans ((KeptW.bel hkd).mono Hbel9.out.size)))).mono ?_;rintro e v2 ⟨rfl,hb7⟩;have v2k:KeptW wr v2:=KeptW.mono hkd hb7;refine hK _ _ v2k ?_;clear hK K hK0 K0;refine RegK.can_reads ?_;intro K hK;go_simp;(first | refine ⟨_,fun _ _=>rfl,hK _ ?_⟩ | refine hK _ ?_);clear hK K
   have Hm7:=Lib.hid (Hm9.out.below (KeptW.bel v2k));have hz:=lmSt_at Hm7.out ⟨12,0,c.top,textB c.t c.M⟩;have hbz:=rowSt_below Hg.out (lmCells ⟨12,0,c.top,textB c.t c.M⟩) 0 _ (Hbel9.out.trans ((KeptW.bel v2k).mono Hbel9.out.size));have HZ:=Lib.hid hz;have Hbz:=Lib.hid hbz;clear hz hbz;refine RegK.can_frees (fun _=>trivial) ?_;intro K K0 hK hK0;rw [if_pos (by simp [Region.wanted])];refine RegK.op_wide rfl ?_;refine wp_store_mid 58 _ _ rfl g 0 (lmCells ⟨12,0,c.top,textB c.t c.M⟩).toArray rfl rfl (there_row (cs:=lmCells lm0) Hm7.out) lm_size (all_oneCell_toArray (lm_one _)) ?_;rw [show (v2).setCells g 0 (lmCells ⟨12,0,c.top,textB c.t c.M⟩).toArray.toList=rowSt v2 g 0 (lmCells ⟨12,0,c.top,textB c.t c.M⟩) from st_eq _ _ _];refine hK (fun _=>True) _ _ trivial ?_;clear hK K hK0 K0;generalize rowSt v2 g 0 (lmCells ⟨12,0,c.top,textB c.t c.M⟩)=w9 at *;refine RegK.can_reads ?_;intro K hK;go_simp;(first | refine ⟨_,fun _ _=>rfl,hK _ ?_⟩ | refine hK _ ?_);clear hK K
   refine RegK.can_nil ?_;go_wp2_with fail;refine bodyPost_ret (v:=.tuple #[lmV ⟨12,0,c.top,textB c.t c.M⟩,.bool true]) (by simp [results,Tryz.results9,show (asAddr (Value.pointer (some ⟨g,0,none⟩))).run Tryz.prog w9=.ok ⟨g,0,none⟩ w9 from rfl,lm_loadVar HZ.out]) rfl ?_;exact ⟨rfl,Hbz.out⟩
theorem lead_delta (base p:Nat) (v:Value) (L:List BsV) (c:BsV) (hL:L[L.length - 1]?=some c) (hsz:L.length≤1000000) (n:Nat) (hn:n<c.top) (J:Nat) (b:BsV) (hJ:L[J]?=some b) (hbn:b.top=n) (hlo:∀ (i:Nat) (x:BsV),i<J→L[i]?=some x→x.top≠n) (X Y:Tr) (hb:MacAll b.M) (hc:MacAll c.M) (hall:b.M.all=c.M.all) (htl:c.t.length≤3) (hct:c.top<18446744073709551616) (hPX:b.P=X.ptr) (hPY:c.P=Y.ptr) (hsX:X.sh=b.M.sh) (hsY:Y.sh=c.M.sh) (w:World) (h:ShAt w base p v L) (hX:TreeAt w X) (hY:TreeAt w Y) :
  Calls Tryz.prog 9 #[.pointer (some ⟨p,0,none⟩),.int .u64 (n:Int)] w fun e w'=>e=.returned (.tuple #[lmV ⟨13,n,c.top,leadB c.t b.M c.M⟩,.bool true])∧Below w.heap.size w w':=by
 have hb1:=(Below.refl w.heap.size w).alloc (Nat.le_refl _) (.cells (lmCells lm0).toArray 58);have hm1:LmAt (w.alloc (.cells (lmCells lm0).toArray 58)) w.heap.size lm0:=heap_alloc_new _ _;have hN:=newest_last base p v L c hL hsz _ (h.below hb1);unfold bsV at hN;have HN:=Lib.hid hN;have hge : ¬ (c.top:Int)≤(n:Int):=by omega
 have Hsh:=Lib.hid (h.below hb1);have Hn:=Lib.hid (And.intro hn hsz);clear hN hn hsz h;obtain ⟨g,hg⟩:∃ g,w.heap.size=g:=⟨_,rfl⟩;rw [hg] at hm1;go_enter Tryz.func9,Tryz.ntmps9
 go_upto_region 1 with fail;change Code.wp _ _ _ _ (w.alloc (.cells (lmCells lm0).toArray 58));generalize w.alloc (.cells (lmCells lm0).toArray 58)=w1 at *;have Hm0:=Lib.hid hm1;have Hb0:=Lib.hid hb1;have Hg:=Lib.hid (Nat.le_of_eq hg);clear hm1 hb1 hg;go_upto_region 2 with (first
  | ((with_reducible refine HN.out.mono ?_);rintro e w2 ⟨rfl,h2⟩;have H2:=Lib.hid h2;clear h2)
  | ((with_reducible refine wpList_store_mid rfl 110 _ _ rfl w2.heap.size 0 _ rfl rfl ?_ ?_ ?_ ?_);exact th_new w2 (bsCells bs0) 110;exact base_size;exact all_oneCell_toArray (bs_one c)))
 change Code.wp _ _ _ _ ((w2.alloc (.cells (bsCells bs0).toArray 110)).setCells w2.heap.size 0 (bsCells c));have hbx:=box_below w2 (bsCells bs0) (bsCells c) 110;have Hm2:=Lib.hid (show BsAt _ _ c from box_row w2 (bsCells bs0) (bsCells c) 110 rfl);have hb3:=H2.out.trans (hbx.mono H2.out.size);have Hm1:=Lib.hid (Hm0.out.below hb3);have Hs3:=Lib.hid (Hsh.out.below hb3);have Hbel:=Lib.hid (Hb0.out.trans (hb3.mono Hb0.out.size));clear H2 HN hb3 hbx Hm0 Hb0 Hsh;generalize (w2.alloc (.cells (bsCells bs0).toArray 110)).setCells w2.heap.size 0 (bsCells c)=w3 at *;generalize w2.heap.size=gb at *;have f15:w3.cell? ⟨gb,15,none⟩=some (.int .u64 (c.top:Int)):=cell_of_row _ _ _ _ _ _ Hm2.out;obtain ⟨B,q,hv,_⟩:=Hs3.out.at_ hL;subst hv;have Hat3:=Lib.hid (fun (i:Nat) (x:BsV) (hx:L[i]?=some x) (y:World) (hy:Below w3.heap.size w3 y)=>at_cells Hs3.out hx hy);have HL:=Lib.hid hL;clear hL;have f0:=Hs3.out.get;go_upto_region 5 with fail;have HCH:=Lib.hid (fun (y:World) (hy:Below w.heap.size w y)=>lchange_any b c X Y hb hc hall htl (by have:=Hn.out.1;omega) hct hPX hPY y (hX.below hy) (hY.below hy) hsX hsY);unfold bsV at HCH;have HJ:=Lib.hid (And.intro hJ (And.intro hbn hlo));have hJL:J<L.length:=(List.getElem?_eq_some_iff.1 hJ).1;clear hJ hbn hlo hb hc hall htl hct hPX hPY hsX hsY hX hY;go_loopw [23] (fun s23 wr=>∃ i:Nat,i≤J∧s23=.int .i64 (i:Int)∧Below w3.heap.size w3 wr) (fun s23 _=>L.length - (intOf s23).toNat)
 case atStart=>exact ⟨0,by omega,rfl,Below.refl _ _⟩
 case round =>
  obtain ⟨i,hi,rfl,hb⟩:=hrel;have Hb:=Lib.hid hb;clear hb f0 f15;have hlt:i<L.length:=by omega
  skip
  have hlt':(i:Int)<(L.length:Int):=by omega
  have hlt0 : ¬ (i:Int)<0:=by omega
  have hsucc:=tsucc (n:=i) (by have:=Hn.out.2;omega);obtain ⟨x,hx⟩:∃ x,L[i]?=some x:=⟨_,List.getElem?_eq_getElem hlt⟩;have Hx:=Lib.hid (And.intro hx (Hat3.out i x hx wr Hb.out));clear hx;go_upto_region 7 with (first
   | (with_reducible refine wpList_load_mid rfl 110 _ rfl B (i*17) rfl (bsCells x) _ Hx.out.2 Tryz.underlying110 rfl (base_size2 x) ?_)
   | ((with_reducible refine wpList_store_mid rfl 110 _ _ rfl wr.heap.size 0 _ rfl rfl ?_ ?_ ?_ ?_);exact th_new wr (bsCells bs0) 110;exact base_size;exact all_oneCell_toArray (bs_one x)))
  change Code.wp _ _ _ _ ((wr.alloc (.cells (bsCells bs0).toArray 110)).setCells wr.heap.size 0 (bsCells x));have hbx:=box_below wr (bsCells bs0) (bsCells x) 110;have Hmx:=Lib.hid (show BsAt _ _ x from box_row wr (bsCells bs0) (bsCells x) 110 rfl);have Hb4:=Lib.hid (Hb.out.trans (hbx.mono Hb.out.size));clear hbx Hb;generalize (wr.alloc (.cells (bsCells bs0).toArray 110)).setCells wr.heap.size 0 (bsCells x)=w4 at *;generalize wr.heap.size=gx at *;have f15:w4.cell? ⟨gx,15,none⟩=some (.int .u64 (x.top:Int)):=cell_of_row _ _ _ _ _ _ Hmx.out;by_cases hiJ:i=J
  ·
   subst hiJ;have hxb:x=b:=by have h1:=Hx.out.1;rw [HJ.out.1] at h1;exact (Option.some.inj h1).symm
   subst hxb;have heq:((x.top:Int) != (n:Int))=false:=by rw [bne_eq_false_iff_eq];have:=HJ.out.2.1;omega
   have Hmc:=Lib.hid (Hm2.out.below Hb4.out);have Hm9:=Lib.hid (Hm1.out.below Hb4.out);have Hbel4:=Lib.hid (Hbel.out.trans (Hb4.out.mono Hbel.out.size));have hc4:=HCH.out w4 Hbel4.out;have hx1:=HJ.out.2.1;rw [hx1] at hc4;have Hc4:=Lib.hid hc4;have Hrx:=Lib.hid (show w4.rangeAt gx 0 (bsCells x) from range_row Hmx.out);have Hrc:=Lib.hid (show w4.rangeAt gb 0 (bsCells c) from range_row Hmc.out);clear hc4 hx1 HCH Hm2 Hm1 Hbel Hb4;go_upto_region 9 with (first
    | (with_reducible refine wpList_load_mid rfl 110 _ rfl gx 0 rfl (bsCells x) _ Hrx.out Tryz.underlying110 rfl (base_size2 x) ?_)
    | (with_reducible refine wpList_load_mid rfl 110 _ rfl gb 0 rfl (bsCells c) _ Hrc.out Tryz.underlying110 rfl (base_size2 c) ?_)
    | ((with_reducible refine Hc4.out.mono ?_);rintro e w5 ⟨rfl,h5⟩;have H5:=Lib.hid h5;clear h5)
    | ((with_reducible refine wpList_store_mid rfl 58 _ _ rfl w5.heap.size 0 _ rfl rfl ?_ ?_ ?_ ?_);exact th_new w5 (lmCells lm0) 58;exact lm_size;exact all_oneCell_toArray (lm_one ⟨13,n,c.top,leadB c.t x.M c.M⟩)))
   change Code.wp _ _ _ _ ((w5.alloc (.cells (lmCells lm0).toArray 58)).setCells w5.heap.size 0 (lmCells ⟨13,n,c.top,leadB c.t x.M c.M⟩));have hb6:=box_below w5 (lmCells lm0) (lmCells ⟨13,n,c.top,leadB c.t x.M c.M⟩) 58;have Hr6:=Lib.hid (show LmAt _ _ ⟨13,n,c.top,leadB c.t x.M c.M⟩ from box_row w5 (lmCells lm0) (lmCells ⟨13,n,c.top,leadB c.t x.M c.M⟩) 58 rfl);have hb56:=H5.out.trans (hb6.mono H5.out.size);have Hm6:=Lib.hid (Hm9.out.below hb56);have Hbel6:=Lib.hid (Hbel4.out.trans (hb56.mono Hbel4.out.size));clear hb6 hb56 H5 Hm9 Hbel4 Hc4 Hrx Hrc Hmx Hmc f15;generalize (w5.alloc (.cells (lmCells lm0).toArray 58)).setCells w5.heap.size 0 (lmCells ⟨13,n,c.top,leadB c.t x.M c.M⟩)=w6 at *;generalize w5.heap.size=g6 at *;have Hrl:=Lib.hid (show w6.rangeAt g6 0 (lmCells ⟨13,n,c.top,leadB c.t x.M c.M⟩) from range_row Hr6.out);have Hth:=Lib.hid (show w6.there g 0 18 from there_row (cs:=lmCells lm0) Hm6.out);have hz:=lmSt_at Hm6.out ⟨13,n,c.top,leadB c.t x.M c.M⟩;have hbz:=rowSt_below Hg.out (lmCells ⟨13,n,c.top,leadB c.t x.M c.M⟩) 0 _ Hbel6.out;have HZ:=Lib.hid hz;have Hbz:=Lib.hid hbz;clear hz hbz;go_wp2_with (first
    | (with_reducible refine wpList_load_mid rfl 58 _ rfl g6 0 rfl (lmCells ⟨13,n,c.top,leadB c.t x.M c.M⟩) _ Hrl.out Tryz.underlying58 rfl (lm_size2 _) ?_)
    | ((with_reducible refine wpList_store_mid rfl 58 _ _ rfl g 0 _ rfl rfl ?_ ?_ ?_ ?_);exact Hth.out;exact lm_size;exact all_oneCell_toArray (lm_one ⟨13,n,c.top,leadB c.t x.M c.M⟩)))
   rw [show w6.setCells g 0 (lmCells ⟨13,n,c.top,leadB c.t x.M c.M⟩).toArray.toList=rowSt w6 g 0 (lmCells ⟨13,n,c.top,leadB c.t x.M c.M⟩) from st_eq _ _ _];generalize rowSt w6 g 0 (lmCells ⟨13,n,c.top,leadB c.t x.M c.M⟩)=w9 at *;refine bodyPost_ret (v:=.tuple #[lmV ⟨13,n,c.top,leadB c.t x.M c.M⟩,.bool true]) (by simp [results,Tryz.results9,show (asAddr (Value.pointer (some ⟨g,0,none⟩))).run Tryz.prog w9=.ok ⟨g,0,none⟩ w9 from rfl,lm_loadVar HZ.out]) rfl ?_;exact ⟨rfl,Hbz.out⟩
  ·
   have hxn:x.top≠n:=HJ.out.2.2 i x (by omega) Hx.out.1;have hne:((x.top:Int) != (n:Int))=true:=by rw [bne_iff_ne];omega
   go_wp2_with fail;go_roundw
   case rel=>exact ⟨_,_,_,_,_,⟨i+1,by omega,rfl,Hb4.out⟩,rfl,rfl,rfl,rfl,rfl⟩
   case measure =>
    simp only [intOf];omega
structure KeptV where
 client:BitVec 8
 seq:BitVec 32
 code:Nat
 text:ByteArray
def keptCells (k:KeptV):List Value:=[.int .u8 (k.client.toNat:Int),.int .u32 (k.seq.toNat:Int),.int .u8 (k.code:Int),.string k.text]
theorem kept_eta (k:KeptV):(keptCells k).toArray=#[.int .u8 (k.client.toNat:Int),.int .u32 (k.seq.toNat:Int),.int .u8 (k.code:Int),.string k.text]:=rfl
abbrev KeptsAt:=SliceAt 4 keptCells
def keptNone (c:BitVec 8):KeptV:=⟨c,0#32,0,ByteArray.empty⟩
instance:Inhabited KeptV:=⟨keptNone 0#8⟩
def lastR (c:BitVec 8) (z:List KeptV):KeptV:=z.foldl (fun o x=>if x.client=c then x else o) (keptNone c)
theorem lastR_step (c:BitVec 8) (z:List KeptV) {i:Nat} (hi:i<z.length):lastR c (z.take (i+1))=if (z.getD i default).client=c then z.getD i default else lastR c (z.take i):=by
 unfold lastR;rw [List.take_succ_eq_append_getElem hi,List.foldl_append];simp [List.getD,List.getElem?_eq_getElem hi]
def KeptRow (w:World) (g:Nat) (k:KeptV):Prop:=w.heap[g]?=some (.cells (keptCells k).toArray 179 (0,0))
theorem KeptRow.cells {w:World} {g:Nat} {k:KeptV} (h:KeptRow w g k):w.cell? ⟨g,0,none⟩=some (.int .u8 (k.client.toNat:Int))∧w.cell? ⟨g,1,none⟩=some (.int .u32 (k.seq.toNat:Int))∧w.cell? ⟨g,2,none⟩=some (.int .u8 (k.code:Int))∧w.cell? ⟨g,3,none⟩=some (.string k.text) :=
 ⟨cell_of_row _ _ _ _ _ _ h,cell_of_row _ _ _ _ _ _ h,cell_of_row _ _ _ _ _ _ h,cell_of_row _ _ _ _ _ _ h⟩
theorem KeptRow.thawed {w:World} {g:Nat} {k:KeptV} (h:KeptRow w g k) (j:Nat):w.frozen? ⟨g,j,none⟩=false:=by
 unfold KeptRow at h;simp [World.frozen?,h]
theorem KeptRow.lt {w:World} {g:Nat} {k:KeptV} (h:KeptRow w g k):g<w.heap.size:=(Array.getElem?_eq_some_iff.1 h).1
theorem KeptRow.below {w w':World} {g:Nat} {k:KeptV} (h:KeptRow w g k) (hb:Below w.heap.size w w'):KeptRow w' g k:=(hb.block g h.lt).trans h
theorem KeptRow.set {w:World} {g:Nat} {k:KeptV} (h:KeptRow w g k) (x:KeptV):KeptRow (rowSt w g 0 (keptCells x)) g x:=rowSt_row (keptCells x) [] (keptCells k) w h rfl
theorem kept_cells {w:World} {a:Option Addr} {len:Nat} {z:List KeptV} (h:KeptsAt w a len z) {i:Nat} (hi:i<len) :
  ∃ b o,a=some ⟨b,o,none⟩∧b<w.heap.size∧w.cell? ⟨b,o+i*4,none⟩=some (.int .u8 ((z.getD i default).client.toNat:Int)) ∧
   w.cell? ⟨b,o+i*4+1,none⟩=some (.int .u32 ((z.getD i default).seq.toNat:Int))∧w.cell? ⟨b,o+i*4+2,none⟩=some (.int .u8 ((z.getD i default).code:Int)) ∧
   w.cell? ⟨b,o+i*4+3,none⟩=some (.string (z.getD i default).text):=by
 have hl:=h.hlen;have hz:z[i]?=some (z.getD i default):=by simp [List.getD,List.getElem?_eq_getElem (show i<z.length by omega)]
 obtain ⟨b,o,h1,h2,h3⟩:=h.cells i _ hz;exact ⟨b,o,h1,h2,h3 0 _ rfl,h3 1 _ rfl,h3 2 _ rfl,h3 3 _ rfl⟩
set_option maxHeartbeats 4000000 in
theorem rlast_any (A:Option Addr) (n cap:Nat) (z:List KeptV) (c:BitVec 8) (w:World) (h:KeptsAt w A n z) :
  Calls Tryz.prog 121 #[.slice A n cap,.int .u8 (c.toNat:Int)] w fun e w'=>e=.returned (.agg (keptCells (lastR c z)).toArray)∧Below w.heap.size w w':=by
 have hlen:=h.hlen;have hmax:=h.hmax;unfold maxLen at hmax;have H:=Lib.hid h;clear h
 have r0:KeptRow (w.alloc (.cells (keptCells (keptNone 0#8)).toArray 179)) w.heap.size (keptNone 0#8):=heap_alloc_new _ _;have s0:(w.alloc (.cells (keptCells (keptNone 0#8)).toArray 179)).heap.size=w.heap.size+1:=by simp
 have r1:KeptRow ((w.alloc (.cells (keptCells (keptNone 0#8)).toArray 179)).alloc (.cells (keptCells (keptNone c)).toArray 179)) (w.heap.size+1) (keptNone c):=by rw [← s0];exact heap_alloc_new _ _
 have r00:=r0.below ((Below.refl _ _).alloc (Nat.le_refl _) (.cells (keptCells (keptNone c)).toArray 179));have hb:=((Below.refl w.heap.size w).alloc (Nat.le_refl _) (.cells (keptCells (keptNone 0#8)).toArray 179)).alloc (by simp) (.cells (keptCells (keptNone c)).toArray 179);go_enter Tryz.func121,Tryz.ntmps121
 go_upto_region 2 with fail;change Code.wp _ _ _ _ ((w.alloc (.cells (keptCells (keptNone 0#8)).toArray 179)).alloc (.cells (keptCells (keptNone c)).toArray 179));generalize (w.alloc (.cells (keptCells (keptNone 0#8)).toArray 179)).alloc (.cells (keptCells (keptNone c)).toArray 179)=w1 at *;clear r0 s0;have R0:=Lib.hid r00;clear r00
 have R1:=Lib.hid r1;clear r1
 have HB:=Lib.hid hb;clear hb
 have Hlen:=Lib.hid hlen;clear hlen
 go_wp2_with fail;go_loopw [6] (fun s6 wr=>∃ i:Nat,i≤n∧s6=.int .i64 (i:Int)∧KeptRow wr w.heap.size (keptNone 0#8)∧KeptRow wr (w.heap.size+1) (lastR c (z.take i))∧Below w.heap.size w wr) (fun s6 _=>n - (intOf s6).toNat)
 case atStart=>exact ⟨0,by omega,rfl,R0.out,R1.out,HB.out⟩
 case round =>
  clear R0 R1 HB;obtain ⟨i,hi,rfl,hr0,hr1,hb⟩:=hrel;have R0:=Lib.hid hr0;clear hr0
  have R1:=Lib.hid hr1;clear hr1
  have HB:=Lib.hid hb;clear hb
  by_cases hlt:i<n
  ·
   have hlt':(i:Int)<(n:Int):=by omega
   obtain ⟨b,o,rfl,hbl,c0,c1,c2,c3⟩:=kept_cells (H.out.below HB.out) hlt;have hst:=lastR_step c z (i:=i) (by have:=Hlen.out;omega);generalize z.getD i default=x at *;have hsucc:=tsucc (n:=i) (by omega);have Hst:=Lib.hid hst;clear hst
   by_cases hx:x.client=c
   ·
    subst hx;obtain ⟨d0,d1,d2,d3⟩:=R1.out.cells;have z0:=R1.out.thawed 0;have z1:=R1.out.thawed 1;have z2:=R1.out.thawed 2;have z3:=R1.out.thawed 3;have RS:=Lib.hid (R1.out.set x);have R0S:=Lib.hid (show KeptRow (rowSt wr (w.heap.size+1) 0 (keptCells x)) w.heap.size (keptNone 0#8) from (rowSt_other (by omega) _ _ _).trans R0.out);have HBS:=Lib.hid (rowSt_below (g:=w.heap.size+1) (by omega) (keptCells x) 0 _ HB.out);go_wp2_with fail;clear d0 d1 d2 d3 z0 z1 z2 z3;go_roundw
    case rel=>exact ⟨i+1,hlt,rfl,R0S.out,by rw [Hst.out,if_pos rfl];exact RS.out,HBS.out⟩
    case measure=>simp [intOf];omega
   ·
    have hx':((x.client.toNat:Int) == (c.toNat:Int))=false:=by
     rw [beq_eq_false_iff_ne];intro e;exact hx (BitVec.eq_of_toNat_eq (by omega))
    have Hx:=Lib.hid hx;clear hx
    go_wp2_with fail;go_roundw
    case rel=>exact ⟨i+1,hlt,rfl,R0.out,by rw [Hst.out,if_neg Hx.out];exact R1.out,HB.out⟩
    case measure=>simp [intOf];omega
  ·
   have hlt' : ¬ (i:Int)<(n:Int):=by omega
   have hin:i=n:=by omega
   subst hin;have hz:z.take i=z:=by rw [← Hlen.out,List.take_length]
   rw [hz] at R1;clear hz;obtain ⟨x,hx⟩:∃ x,lastR c z=x:=⟨_,rfl⟩;rw [hx] at R1;have Hx:=Lib.hid hx;clear hx
   obtain ⟨c0,c1,c2,c3⟩:=R1.out.cells;obtain ⟨d0,d1,d2,d3⟩:=R0.out.cells;have z0:=R0.out.thawed 0;have z1:=R0.out.thawed 1;have z2:=R0.out.thawed 2;have z3:=R0.out.thawed 3;have RS:=Lib.hid (R0.out.set x);have HBS:=Lib.hid (rowSt_below (Nat.le_refl w.heap.size) (keptCells x) 0 _ HB.out);go_wp2_with fail;change bodyPost _ _ _ _ _ (rowSt wr w.heap.size 0 (keptCells x));clear c0 c1 c2 c3 d0 d1 d2 d3 z0 z1 z2 z3;generalize rowSt wr w.heap.size 0 (keptCells x)=w9 at *;obtain ⟨c0,c1,c2,c3⟩:=RS.out.cells;refine bodyPost_ret (v:=.agg (keptCells x).toArray) (by simp [results,Tryz.results121,go_sem,c0,c1,c2,c3,keptCells] <;> rfl) rfl ?_;exact ⟨by rw [Hx.out],HBS.out⟩
def KeptV.last (k:KeptV):LastV:=⟨k.seq,k.code,k.text⟩
def KeptTab (t:TabV) (z:List KeptV):Prop:=∀ c:BitVec 8,c.toNat<4→(lastR c z).last=t.at_ c.toNat
theorem keptTab_nil:KeptTab tabNone []:=by
 intro c hc;unfold TabV.at_ tabNone;repeat' split
 all_goals rfl
theorem keptTab_put {t:TabV} {z:List KeptV} (h:KeptTab t z) (k:KeptV) (hk:k.client.toNat<4):KeptTab (t.put k.client.toNat k.last) (z++[k]):=by
 intro c hc;rw [TabV.put_at hk hc];unfold lastR;rw [List.foldl_append];show (if k.client=c then k else lastR c z).last=_;by_cases e:k.client=c
 ·
  rw [if_pos e,if_pos (by rw [e])]
 ·
  rw [if_neg e,if_neg (fun h=>e (BitVec.eq_of_toNat_eq h.symm))];exact h c hc
theorem layRep2 (w:World):RepAt (w.alloc (.cells (repCells 0 ByteArray.empty).toArray 27)) w.heap.size 0 ByteArray.empty:=heap_alloc_new _ _
set_option maxHeartbeats 4000000 in
theorem rlook_any (A:Option Addr) (n cap:Nat) (z:List KeptV) (t:TabV) (hT:KeptTab t z) (cl:BitVec 8) (hcl:cl.toNat<4) (sq:BitVec 32) (hsq:sq.toNat≠0) (w:World) (h:KeptsAt w A n z) :
  Calls Tryz.prog 83 #[.slice A n cap,.int .u8 (cl.toNat:Int),.int .u32 (sq.toNat:Int)] w fun e w'=>e=.returned (.tuple #[repV (lookT t cl.toNat sq).2.1 (lookT t cl.toNat sq).2.2,.int .u8 ((lookT t cl.toNat sq).1:Int)])∧Below w.heap.size w w':=by
 have hr0:=layRep2 w;have hb0:=(Below.refl w.heap.size w).alloc (Nat.le_refl _) (.cells (repCells 0 ByteArray.empty).toArray 27);have hl:=fun (y:World) (hy:Below w.heap.size w y)=>rlast_any A n cap z cl y (h.below hy)
 have hx:=hT cl hcl;obtain ⟨x,hxe⟩:∃ x,lastR cl z=x:=⟨_,rfl⟩;rw [hxe] at hl hx;obtain ⟨⟨q1,q2,q3⟩,hq⟩:∃ q,lookT t cl.toNat sq=q:=⟨_,rfl⟩;have hq0:=hq;rw [hq];unfold lookT at hq0;rw [← hx] at hq0;obtain ⟨xc,xs,xo,xt⟩:=x;change (if xs.toNat<sq.toNat then (1,0,ByteArray.empty) else if sq.toNat=xs.toNat then (2,xo,xt) else (3,3,ByteArray.empty))=(q1,q2,q3) at hq0;clear hx hxe hT hq;have Hq:=Lib.hid hq0;clear hq0
 rw [kept_eta] at hl;have Hl:=Lib.hid hl;clear hl h
 have hcl' : ¬ (3:Int)<(cl.toNat:Int):=by omega
 have hsq':((sq.toNat:Int) == 0)=false:=by rw [beq_eq_false_iff_ne];omega
 have Hsq:=Lib.hid hsq;clear hsq
 go_enter Tryz.func83,Tryz.ntmps83
 go_upto_region 1 with fail;change Code.wp _ _ _ _ (w.alloc (.cells (repCells 0 ByteArray.empty).toArray 27));generalize w.alloc (.cells (repCells 0 ByteArray.empty).toArray 27)=w1 at *;have Hr0:=Lib.hid hr0;clear hr0
 have Hb0:=Lib.hid hb0;clear hb0
 go_upto_region 4 with ((with_reducible refine (Hl.out _ Hb0.out).mono ?_);rintro e w2 ⟨rfl,hb2⟩;have Hb2:=Lib.hid hb2;clear hb2)
 change Code.wp _ _ _ _ (w2.alloc (.cells (keptCells ⟨xc,xs,xo,xt⟩).toArray 179));have hk3:KeptRow (w2.alloc (.cells (keptCells ⟨xc,xs,xo,xt⟩).toArray 179)) w2.heap.size ⟨xc,xs,xo,xt⟩:=heap_alloc_new _ _;have hb3:=Hb2.out.alloc Hb2.out.size (.cells (keptCells ⟨xc,xs,xo,xt⟩).toArray 179);have hr3:=Hr0.out.below hb3;have hbw:=Hb0.out.trans (hb3.mono Hb0.out.size);have hne:w2.heap.size≠w.heap.size:=by have:=Hr0.out.lt;have:=Hb2.out.size;omega
 generalize w2.alloc (.cells (keptCells ⟨xc,xs,xo,xt⟩).toArray 179)=w3 at *;generalize w2.heap.size=g at *;clear hb3 Hb2 Hr0 Hb0 Hl;obtain ⟨k0,k1,k2,k3⟩:=hk3.cells;dsimp only at k0 k1 k2 k3;obtain ⟨r0,r1⟩:=hr3.cells;have z0:=hr3.thawed 0;have z1:=hr3.thawed 1;have Hr3:=Lib.hid hr3;clear hr3
 have Hbw:=Lib.hid hbw;clear hbw
 clear hk3;by_cases h1:xs.toNat<sq.toNat
 ·
  have h1':(xs.toNat:Int)<(sq.toNat:Int):=by omega
  have hq0:=Hq.out;rw [if_pos h1] at hq0;have Hq1:=Lib.hid hq0;clear hq0
  have H1:=Lib.hid h1;clear h1
  have HR:=Lib.hid (repSt_at Hr3.out 0 ByteArray.empty);have HB:=Lib.hid (repSt_below Hbw.out (Nat.le_refl _) 0 ByteArray.empty);go_wp2_with fail;change bodyPost _ _ _ _ _ (repSt w3 w.heap.size 0 ByteArray.empty);clear r0 r1 z0 z1 k0 k1 k2 k3;generalize repSt w3 w.heap.size 0 ByteArray.empty=w4 at *;obtain ⟨r0,r1⟩:=HR.out.cells;refine bodyPost_ret (v:=.tuple #[.agg #[.int .u8 0,.string ByteArray.empty],.int .u8 1]) (by simp [results,Tryz.results83,go_sem,r0,r1] <;> rfl) rfl ?_;have e:=Hq1.out;simp only [Prod.mk.injEq] at e;obtain ⟨rfl,rfl,rfl⟩:=e;exact ⟨rfl,HB.out⟩
 ·
  have h1' : ¬ (xs.toNat:Int)<(sq.toNat:Int):=by omega
  have hq0:=Hq.out;rw [if_neg h1] at hq0;have H1:=Lib.hid h1;clear h1
  by_cases h2:sq.toNat=xs.toNat
  ·
   have h2':((sq.toNat:Int) == (xs.toNat:Int))=true:=by rw [beq_iff_eq];omega
   rw [if_pos h2] at hq0;have Hq1:=Lib.hid hq0;clear hq0
   have H2:=Lib.hid h2;clear h2
   have HR:=Lib.hid (repSt_at Hr3.out xo xt);have HB:=Lib.hid (repSt_below Hbw.out (Nat.le_refl _) xo xt);go_wp2_with fail;change bodyPost _ _ _ _ _ (repSt w3 w.heap.size xo xt);clear r0 r1 z0 z1 k0 k1 k2 k3;generalize repSt w3 w.heap.size xo xt=w4 at *;obtain ⟨r0,r1⟩:=HR.out.cells;refine bodyPost_ret (v:=.tuple #[.agg #[.int .u8 (xo:Int),.string xt],.int .u8 2]) (by simp [results,Tryz.results83,go_sem,r0,r1] <;> rfl) rfl ?_;have e:=Hq1.out;simp only [Prod.mk.injEq] at e;obtain ⟨rfl,rfl,rfl⟩:=e;exact ⟨rfl,HB.out⟩
  ·
   have h2':((sq.toNat:Int) == (xs.toNat:Int))=false:=by rw [beq_eq_false_iff_ne];omega
   rw [if_neg h2] at hq0;have Hq1:=Lib.hid hq0;clear hq0
   have H2:=Lib.hid h2;clear h2
   have HR:=Lib.hid (repSt_at Hr3.out 3 ByteArray.empty);have HB:=Lib.hid (repSt_below Hbw.out (Nat.le_refl _) 3 ByteArray.empty);go_wp2_with fail;change bodyPost _ _ _ _ _ (repSt w3 w.heap.size 3 ByteArray.empty);clear r0 r1 z0 z1 k0 k1 k2 k3;generalize repSt w3 w.heap.size 3 ByteArray.empty=w4 at *;obtain ⟨r0,r1⟩:=HR.out.cells;refine bodyPost_ret (v:=.tuple #[.agg #[.int .u8 3,.string ByteArray.empty],.int .u8 3]) (by simp [results,Tryz.results83,go_sem,r0,r1] <;> rfl) rfl ?_;have e:=Hq1.out;simp only [Prod.mk.injEq] at e;obtain ⟨rfl,rfl,rfl⟩:=e;exact ⟨rfl,HB.out⟩
end Go.Proofs.YtbckjgageofldaaGreat
