/- Chains: law24: a run; begun. Condition: the chain lies there. -/
import Derived.Test.YtbckjgageofldaaGreatZLearnPlays27
import Derived.Test.YtbckjgageofldaaGreatZLearnPlays18
import Derived.Test.YtbckjgageofldaaGreatZLearnPlays8
import Derived.Test.YtbckjgageofldaaGreatZLearnPlays14
import Derived.Test.YtbckjgageofldaaGreatZLearnPlays24
import Derived.Test.YtbckjgageofldaaGreatZLearnPlays6
import Derived.Test.YtbckjgageofldaaGreatZLearnPlays22
set_option maxRecDepth 100000
set_option maxHeartbeats 16000000
namespace Go.Proofs.YtbckjgageofldaaGreat
open Go.RowKit
structure RnV where
 M:MacV
 P:Option Addr
 c:Option Addr
 r:RefM
 v:Value
def rnCells (R:RnV):List Value:=macCells R.M R.P++([.pointer R.c]++(refCells R.r++[.int .u64 0,R.v]))
def rnV (R:RnV):Value:=.agg (rnCells R).toArray
def RnAt (w:World) (g:Nat) (R:RnV):Prop:=w.heap[g]?=some (.cells (rnCells R).toArray 48 (0,0))
theorem RnAt.lt {w:World} {g:Nat} {R:RnV} (h:RnAt w g R):g<w.heap.size:=(Array.getElem?_eq_some_iff.1 h).1
theorem RnAt.below {w w':World} {g:Nat} {R:RnV} (h:RnAt w g R) (hb:Below w.heap.size w w'):RnAt w' g R:=(hb.block g h.lt).trans h
theorem rn_size (R:RnV):(Tryz.prog.info? 48).map (·.size)=some (rnCells R).length:=(by kernel_rfl:(Tryz.prog.info? 48).map (·.size)=some 22)
theorem rn_loadVar {y:World} {g:Nat} {R:RnV} (h:RnAt y g R):(loadVar 48 ⟨g,0,none⟩).run Tryz.prog y=.ok (rnV R) y :=
 run_loadVar_row y g _ _ (rnCells R).toArray (0,0) _ h Tryz.underlying48 rfl (rn_size R)
theorem slice_one (v:Value) {w:World} {base:Nat} {t:TypeId} {l:List UInt8} (h:OwnB w base t v l):v.oneCell'=true:=by
 obtain ⟨a,n,c,rfl⟩:=h.read.slice;rfl
theorem rn_one (R:RnV) (h:R.v.oneCell'=true):∀ u ∈ rnCells R,u.oneCell'=true:=by
 intro u hu;unfold rnCells at hu;simp only [List.mem_append,List.mem_cons,List.not_mem_nil,or_false] at hu;rcases hu with hu | rfl | hu | rfl | rfl
 ·
  exact mac_one _ _ u hu
 ·
  rfl
 ·
  simp [refCells] at hu;rcases hu with rfl | rfl | rfl | rfl <;> rfl
 ·
  rfl
 ·
  exact h
def rn0:RnV:=⟨macNone,none,none,refNone,.slice none 0 0⟩
structure RunI (w:World) (base:Nat) (R:RnV) (T:Tr) (p:Nat) (cv:Value) (D:List UInt8) (z:List KeptV):Prop where
 t:TreeAt w T
 tp:R.P=T.ptr
 ts:T.sh=R.M.sh
 cp:R.c=some ⟨p,0,none⟩
 ch:ChAt w base p cv ⟨0,D⟩
 ref:RefAt w R.r R.M z
 rv:OwnB w base 5 R.v D
theorem RunI.below {w w':World} {base:Nat} {R:RnV} {T:Tr} {p:Nat} {cv:Value} {D:List UInt8} {z:List KeptV} (h:RunI w base R T p cv D z) (hb:Below w.heap.size w w'):RunI w' base R T p cv D z :=
 ⟨h.t.below hb,h.tp,h.ts,h.cp,h.ch.below hb,h.ref.below hb,h.rv.below hb⟩
def runTs:List TypeId:=[195,124,24,204,179,5]
theorem RunI.sorts {w w':World} {ts:List TypeId} {base:Nat} {R:RnV} {T:Tr} {p:Nat} {cv:Value} {D:List UInt8} {z:List KeptV} (h:RunI w base R T p cv D z) (hs:Sorts ts w.heap.size w w') (ht:∀ t ∈ runTs,t ∉ ts):RunI w' base R T p cv D z :=
 ⟨TreeAt.sorts hs (ht _ (by simp [runTs])) h.t,h.tp,h.ts,h.cp,h.ch.sorts hs (ht _ (by simp [runTs])) (ht _ (by simp [runTs])),h.ref.sorts hs (ht _ (by simp [runTs])) (ht _ (by simp [runTs])),ownsRow_sorts hs h.rv (ht _ (by simp [runTs]))⟩
theorem RunI.mono {w:World} {base base':Nat} {R:RnV} {T:Tr} {p:Nat} {cv:Value} {D:List UInt8} {z:List KeptV} (h:RunI w base R T p cv D z) (hb:base'≤base):RunI w base' R T p cv D z :=
 ⟨h.t,h.tp,h.ts,h.cp,⟨h.ch.row,h.ch.own.mono hb⟩,h.ref,h.rv.mono hb⟩
theorem may_all {s all:Nat} (h:all<256):mayS s (bothS all all)=mayS s all:=by
 have key:∀ x:Fin 256,(255 - (x.val &&& x.val &&& 127)) &&& 127=(255 - x.val) &&& 127:=by decide +kernel
 have k:=key ⟨all,h⟩;simp only at k;unfold mayS withoutS bothS;rw [Nat.and_assoc s,k, ← Nat.and_assoc s]
theorem newAll {al fi:Nat} (hal:al<256) (hm:mayS fi al=true):MacAll (newM al fi):=by
 refine ⟨macFit_new al fi,by rw [new_parts hm];trivial,?_⟩;have h1:newM al fi=⟨bothS al al,bothS fi fi,tabNone,.nil⟩:=by unfold newM;rw [if_pos hm]
 rw [h1];refine sets_mk ?_ (both_idem _).symm (both_idem _).symm;show mayS (bothS fi fi) (bothS al al)=true;rw [may_both,may_all hal];exact hm
def BegPost (M:MacV) (w:World) (e:Ending) (w':World):Prop:=∃ R p cv,e=.returned (.tuple #[rnV R,.bool true])∧R.M=M∧RunI w' w.heap.size R .nil p cv [UInt8.ofNat M.mem] []∧R.r=ref0 M∧w.heap.size≤p∧Below w.heap.size w w'
theorem lbegun_is (al fi:Nat) (hal:al<256) (hfi:fi<256) (hm:mayS fi al=true) (w:World) :
  Calls Tryz.prog 8 #[.int .u8 (al:Int),.int .u8 (fi:Int)] w (BegPost (newM al fi) w):=by
 have hok:dirOk (UInt8.ofNat (fi % 128))=true:=by
  have q:=mem_ok (newAll hal hm);rw [new_parts hm] at q;exact q
 have hnew:=fun y:World=>new_any al fi hal hfi y
 rw [hm,new_parts hm] at hnew;rw [new_parts hm];simp only [if_true] at hnew;have hr0:ref0 ⟨al % 128,fi % 128,tabNone,.nil⟩=⟨none,0,0,al % 128,fi % 128,none,0,0⟩:=rfl;have hra:=fun y:World=>refAt0 ⟨al % 128,fi % 128,tabNone,.nil⟩ rfl rfl y
 obtain ⟨x1,hx1⟩:∃ x,al % 128=x:=⟨_,rfl⟩;obtain ⟨x2,hx2⟩:∃ x,fi % 128=x:=⟨_,rfl⟩;have hm1:(al:Int) % 128=(x1:Int):=by omega
 have hm2:(fi:Int) % 128=(x2:Int):=by omega
 have hx2l:x2<256:=by omega
 rw [hx1,hx2] at hnew hra hr0 ⊢;rw [hx2] at hok;clear hx1 hx2 hm;obtain ⟨M,hM⟩:∃ M:MacV,(⟨x1,x2,tabNone,.nil⟩:MacV)=M:=⟨_,rfl⟩;have hMm:M.mem=x2:=by rw [← hM]
 have hMs:M.sh=.nil:=by rw [← hM]
 rw [hM] at hnew hra hr0 ⊢;unfold macV at hnew;have Hnew:=Lib.hid hnew;have Hch:=Lib.hid (fun y:World=>chnew_any x2 hx2l hok y);have Hrn:=Lib.hid (fun y:World=>rnew_any x2 hx2l hok y);have Hmem:=Lib.hid (fun y:World=>(show Calls Tryz.prog 37 #[.agg (macCells M none).toArray] y fun e w'=>e=.returned (.int .u8 (x2:Int))∧Below y.heap.size y w' from by rw [← hMm];exact mmem_any M none y));have HM:=Lib.hid (And.intro hM (And.intro hMm hMs));have Hra:=Lib.hid (And.intro hra hr0);clear hnew hra hr0 hM hMm hMs hok hx2l;have hb1:=(Below.refl w.heap.size w).alloc (Nat.le_refl _) (.cells (rnCells rn0).toArray 48);have hm1r:RnAt (w.alloc (.cells (rnCells rn0).toArray 48)) w.heap.size rn0:=heap_alloc_new _ _;obtain ⟨g,hg⟩:∃ g,w.heap.size=g:=⟨_,rfl⟩;rw [hg] at hm1r;go_enter Tryz.func8,Tryz.ntmps8
 go_upto_region 1 with fail;change Code.wp _ _ _ _ (w.alloc (.cells (rnCells rn0).toArray 48));generalize w.alloc (.cells (rnCells rn0).toArray 48)=w1 at *;have Hr1:=Lib.hid hm1r;have Hb1:=Lib.hid hb1;have Hg:=Lib.hid hg;clear hm1r hb1 hg;go_upto_region 4 with (first
  | ((with_reducible refine (Hnew.out _).mono ?_);rintro e w2 ⟨rfl,h2⟩;have H2:=Lib.hid h2;clear h2)
  | ((with_reducible refine wpList_store_mid rfl 38 _ _ rfl w2.heap.size 0 _ rfl rfl ?_ ?_ ?_ ?_);exact th_new w2 (macCells macNone none) 38;exact mac_size;exact all_oneCell_toArray (mac_one M none)))
 change Code.wp _ _ _ _ ((w2.alloc (.cells (macCells macNone none).toArray 38)).setCells w2.heap.size 0 (macCells M none));have hb3:=box_below w2 (macCells macNone none) (macCells M none) 38;have Hm3:=Lib.hid (show MacAt _ _ M none from box_row w2 (macCells macNone none) (macCells M none) 38 rfl);have hb13:=H2.out.trans (hb3.mono H2.out.size);have Hr3:=Lib.hid (Hr1.out.below hb13);have Hb3:=Lib.hid (Hb1.out.trans (hb13.mono Hb1.out.size));have Hge3:=Lib.hid (Nat.le_trans Hb1.out.size H2.out.size);clear hb3 hb13 H2 Hr1 Hb1 Hnew;generalize (w2.alloc (.cells (macCells macNone none).toArray 38)).setCells w2.heap.size 0 (macCells M none)=w3 at *;generalize w2.heap.size=g6 at *;have Hrl:=Lib.hid (show w3.rangeAt g6 0 (macCells M none) from range_row Hm3.out);go_upto_region 6 with (first
  | (with_reducible refine wpList_load_mid rfl 38 _ rfl g6 0 rfl (macCells M none) _ Hrl.out Tryz.underlying38 rfl (mac_size2 _ _) ?_)
  | ((with_reducible refine (Hmem.out _).mono ?_);rintro e w4 ⟨rfl,h4⟩;have H4:=Lib.hid h4;clear h4)
  | ((with_reducible refine (Hch.out _).mono ?_);rintro e w5 ⟨pc,vc,rfl,hc5,hpc,h5⟩;have H5:=Lib.hid (And.intro hc5 (And.intro hpc h5));clear hc5 hpc h5))
 have e43:(#[.slice none 0 0,.int .u8 (x1:Int),.int .u8 (x2:Int),.slice none 0 0]:Array Value)=(refCells (ref0 M)).toArray:=by rw [Hra.out.2];rfl
 rw [e43];have hb56:=(Below.refl w5.heap.size w5).alloc (Nat.le_refl _) (.cells (refCells (ref0 M)).toArray 43);have Hf6:=Lib.hid (show RefRow (w5.alloc (.cells (refCells (ref0 M)).toArray 43)) w5.heap.size (ref0 M) from heap_alloc_new _ _);have hb36:=(H4.out.trans (H5.out.2.2.mono H4.out.size)).trans (hb56.mono (Nat.le_trans H4.out.size H5.out.2.2.size));have Hr6:=Lib.hid (Hr3.out.below hb36);have Hm6:=Lib.hid (Hm3.out.below hb36);have Hb6:=Lib.hid (Hb3.out.trans (hb36.mono Hb3.out.size));have Hc6:=Lib.hid (And.intro (H5.out.1.below hb56) (Nat.le_trans (Nat.le_trans Hb3.out.size H4.out.size) H5.out.2.1));have Hb34:=Lib.hid (Nat.le_trans Hb3.out.size H4.out.size);clear e43 hb56 hb36 H4 H5 Hr3 Hm3 Hb3 Hrl Hmem Hch;generalize w5.alloc (.cells (refCells (ref0 M)).toArray 43)=w6 at *;generalize w5.heap.size=g10 at *;have f2:w6.cell? ⟨g10,2,none⟩=some (.int .u8 (x2:Int)):=by rw [← HM.out.2.1];exact cell_of_row _ _ _ _ _ _ Hf6.out
 go_upto_region 7 with ((with_reducible refine (Hrn.out _).mono ?_);rintro e w7 ⟨v7,rfl,ho7,h7⟩;have H7:=Lib.hid (And.intro ho7 h7);clear ho7 h7;obtain ⟨a7,n7,c7,rfl⟩:=H7.out.1.read.slice)
 have hb78:=(Below.refl w7.heap.size w7).alloc (Nat.le_refl _) (.cells #[.int .u64 0,.slice a7 n7 c7] 46);have hr8:=heap_alloc_new w7 (.cells #[.int .u64 0,.slice a7 n7 c7] 46);have hb68:=H7.out.2.trans (hb78.mono H7.out.2.size);have Hr8:=Lib.hid (Hr6.out.below hb68);have Hm8:=Lib.hid (Hm6.out.below hb68);have Hf8:=Lib.hid (Hf6.out.below hb68);have Hb8:=Lib.hid (Hb6.out.trans (hb68.mono Hb6.out.size));have Hc8:=Lib.hid (And.intro (Hc6.out.1.below hb68) Hc6.out.2);have Ho8:=Lib.hid (H7.out.1.below hb78);have Hle8:=Lib.hid Hb6.out.size;clear hb78 hb68 H7 Hr6 Hm6 Hf6 Hb6 Hc6 Hrn f2;generalize w7.alloc (.cells #[.int .u64 0,.slice a7 n7 c7] 46)=w8 at *;generalize w7.heap.size=g11 at *;have k0:=cell_of_row _ _ 0 _ _ _ hr8;have k1:=cell_of_row _ _ 1 _ _ _ hr8;have hf8:=Hf8.out;unfold RefRow at hf8;rw [Hra.out.2,ref_eta] at hf8;have j0:=cell_of_row _ _ 0 _ _ _ hf8;have j1:=cell_of_row _ _ 1 _ _ _ hf8;have j2:=cell_of_row _ _ 2 _ _ _ hf8;have j3:=cell_of_row _ _ 3 _ _ _ hf8;clear hf8 hr8;have Hrl:=Lib.hid (show w8.rangeAt g6 0 [.int .u8 (M.all:Int),.int .u8 (M.mem:Int),.int .u32 (M.tab.a.seq.toNat:Int),.int .u8 (M.tab.a.code:Int),.string M.tab.a.text,.int .u32 (M.tab.b.seq.toNat:Int),.int .u8 (M.tab.b.code:Int),.string M.tab.b.text,.int .u32 (M.tab.c.seq.toNat:Int),.int .u8 (M.tab.c.code:Int),.string M.tab.c.text,.int .u32 (M.tab.d.seq.toNat:Int),.int .u8 (M.tab.d.code:Int),.string M.tab.d.text,.pointer none] from range_row Hm8.out);have Hth:=Lib.hid (show w8.there g 0 22 from there_row (cs:=rnCells rn0) Hr8.out);have hone:((⟨M,none,some ⟨pc,0,none⟩,ref0 M,.slice a7 n7 c7⟩:RnV).v).oneCell'=true:=rfl;have hlit:rnCells ⟨M,none,some ⟨pc,0,none⟩,ref0 M,.slice a7 n7 c7⟩=[.int .u8 (M.all:Int),.int .u8 (M.mem:Int),.int .u32 (M.tab.a.seq.toNat:Int),.int .u8 (M.tab.a.code:Int),.string M.tab.a.text,.int .u32 (M.tab.b.seq.toNat:Int),.int .u8 (M.tab.b.code:Int),.string M.tab.b.text,.int .u32 (M.tab.c.seq.toNat:Int),.int .u8 (M.tab.c.code:Int),.string M.tab.c.text,.int .u32 (M.tab.d.seq.toNat:Int),.int .u8 (M.tab.d.code:Int),.string M.tab.d.text,.pointer none,.pointer (some ⟨pc,0,none⟩),.slice none 0 0,.int .u8 (x1:Int),.int .u8 (x2:Int),.slice none 0 0,.int .u64 0,.slice a7 n7 c7]:=by
  rw [Hra.out.2];rfl
 have hon:=rn_one _ hone;rw [hlit] at hon;have Hon:=Lib.hid (And.intro hlit hon);clear hone hlit hon;go_wp2_with (first
  | ((with_reducible refine wpList_load_mid rfl 38 _ rfl g6 0 rfl [.int .u8 (M.all:Int),.int .u8 (M.mem:Int),.int .u32 (M.tab.a.seq.toNat:Int),.int .u8 (M.tab.a.code:Int),.string M.tab.a.text,.int .u32 (M.tab.b.seq.toNat:Int),.int .u8 (M.tab.b.code:Int),.string M.tab.b.text,.int .u32 (M.tab.c.seq.toNat:Int),.int .u8 (M.tab.c.code:Int),.string M.tab.c.text,.int .u32 (M.tab.d.seq.toNat:Int),.int .u8 (M.tab.d.code:Int),.string M.tab.d.text,.pointer none] _ Hrl.out Tryz.underlying38 rfl ?_ ?_);exact mac_size)
  | ((with_reducible refine wpList_store_mid rfl 48 _ _ rfl g 0 _ rfl rfl ?_ ?_ ?_ ?_);exact Hth.out;exact rn_size rn0;exact all_oneCell_toArray Hon.out.2))
 rw [st_eq, ← Hon.out.1];have hz:RnAt (rowSt w8 g 0 (rnCells ⟨M,none,some ⟨pc,0,none⟩,ref0 M,.slice a7 n7 c7⟩)) g ⟨M,none,some ⟨pc,0,none⟩,ref0 M,.slice a7 n7 c7⟩:=rowSt_row _ [] (rnCells rn0) w8 Hr8.out rfl;have hbz:=rowSt_below (Nat.le_of_eq Hg.out) (rnCells ⟨M,none,some ⟨pc,0,none⟩,ref0 M,.slice a7 n7 c7⟩) 0 _ Hb8.out;have hri:RunI w8 w.heap.size ⟨M,none,some ⟨pc,0,none⟩,ref0 M,.slice a7 n7 c7⟩ .nil pc vc [UInt8.ofNat x2] [] :=
  ⟨trivial,rfl,HM.out.2.2.symm,rfl,⟨Hc8.out.1.row,Hc8.out.1.own.mono Hb34.out⟩,Hra.out.1 w8,Ho8.out.mono Hle8.out⟩
 have hri9:=hri.sorts (sorts_row (ts:=[48]) Hr8.out (by simp) (rnCells ⟨M,none,some ⟨pc,0,none⟩,ref0 M,.slice a7 n7 c7⟩) 0) (by decide);generalize rowSt w8 g 0 (rnCells ⟨M,none,some ⟨pc,0,none⟩,ref0 M,.slice a7 n7 c7⟩)=w9 at *;refine bodyPost_ret (v:=.tuple #[rnV ⟨M,none,some ⟨pc,0,none⟩,ref0 M,.slice a7 n7 c7⟩,.bool true]) (by simp [results,Tryz.results8,show (asAddr (Value.pointer (some ⟨g,0,none⟩))).run Tryz.prog w9=.ok ⟨g,0,none⟩ w9 from rfl,rn_loadVar hz]) rfl ?_;exact ⟨_,pc,vc,rfl,rfl,by rw [HM.out.2.1];exact hri9,rfl,Hc8.out.2,hbz⟩
theorem lbegun_not (al fi:Nat) (hal:al<256) (hfi:fi<256) (hm:mayS fi al=false) (w:World) :
  Calls Tryz.prog 8 #[.int .u8 (al:Int),.int .u8 (fi:Int)] w fun e w'=>e=.returned (.tuple #[rnV rn0,.bool false])∧Below w.heap.size w w':=by
 have hnew:=fun y:World=>new_any al fi hal hfi y
 rw [hm,new_none hm] at hnew;simp only [Bool.false_eq_true,if_false] at hnew;unfold macV at hnew;have Hnew:=Lib.hid hnew;clear hnew hm;have hb1:=(Below.refl w.heap.size w).alloc (Nat.le_refl _) (.cells (rnCells rn0).toArray 48);have hm1r:RnAt (w.alloc (.cells (rnCells rn0).toArray 48)) w.heap.size rn0:=heap_alloc_new _ _;obtain ⟨g,hg⟩:∃ g,w.heap.size=g:=⟨_,rfl⟩;rw [hg] at hm1r;go_enter Tryz.func8,Tryz.ntmps8
 go_upto_region 1 with fail;change Code.wp _ _ _ _ (w.alloc (.cells (rnCells rn0).toArray 48));generalize w.alloc (.cells (rnCells rn0).toArray 48)=w1 at *;have Hr1:=Lib.hid hm1r;have Hb1:=Lib.hid hb1;have Hg:=Lib.hid hg;clear hm1r hb1 hg;go_upto_region 2 with (first
  | ((with_reducible refine (Hnew.out _).mono ?_);rintro e w2 ⟨rfl,h2⟩;have H2:=Lib.hid h2;clear h2)
  | ((with_reducible refine wpList_store_mid rfl 38 _ _ rfl w2.heap.size 0 _ rfl rfl ?_ ?_ ?_ ?_);exact th_new w2 (macCells macNone none) 38;exact mac_size;exact all_oneCell_toArray (mac_one macNone none)))
 change Code.wp _ _ _ _ ((w2.alloc (.cells (macCells macNone none).toArray 38)).setCells w2.heap.size 0 (macCells macNone none));have hb3:=box_below w2 (macCells macNone none) (macCells macNone none) 38;have hb13:=H2.out.trans (hb3.mono H2.out.size);have Hr3:=Lib.hid (Hr1.out.below hb13);have Hb3:=Lib.hid (Hb1.out.trans (hb13.mono Hb1.out.size));clear hb3 hb13 H2 Hr1 Hb1 Hnew;generalize (w2.alloc (.cells (macCells macNone none).toArray 38)).setCells w2.heap.size 0 (macCells macNone none)=w3 at *;have Hth:=Lib.hid (show w3.there g 0 22 from there_row (cs:=rnCells rn0) Hr3.out);have hz:RnAt (rowSt w3 g 0 (rnCells rn0)) g rn0:=rowSt_row _ [] (rnCells rn0) w3 Hr3.out rfl;have hbz:=rowSt_below (Nat.le_of_eq Hg.out) (rnCells rn0) 0 _ Hb3.out;go_wp2_with ((with_reducible refine wpList_store_mid rfl 48 _ _ rfl g 0 _ rfl rfl ?_ ?_ ?_ ?_);exact Hth.out;exact rn_size rn0;simp [Value.oneCell']);rw [st_eq];change bodyPost _ _ _ _ _ (rowSt w3 g 0 (rnCells rn0));generalize rowSt w3 g 0 (rnCells rn0)=w9 at *;refine bodyPost_ret (v:=.tuple #[rnV rn0,.bool false]) (by simp [results,Tryz.results8,show (asAddr (Value.pointer (some ⟨g,0,none⟩))).run Tryz.prog w9=.ok ⟨g,0,none⟩ w9 from rfl,rn_loadVar hz]) rfl ?_;exact ⟨rfl,hbz⟩
theorem cmd_size:(Tryz.prog.info? 56).map (·.size)=some 7:=by kernel_rfl
theorem rep_one (code:Nat) (text:ByteArray):∀ v ∈ repCells code text,v.oneCell'=true:=by simp [repCells,Value.oneCell']
theorem rep_size:(Tryz.prog.info? 27).map (·.size)=some 2:=by kernel_rfl
theorem there_part {w:World} {g o n m k:Nat} (h:w.there g 0 n) (hk:k+m≤n) (ho:o=k):w.there g o m:=fun j hj=>by
 subst ho;have q:=h (o+j) (by omega);rwa [Nat.zero_add] at q
theorem rn_mac {y:World} {g:Nat} {R:RnV} (h:RnAt y g R):(Instr.loadAt 38 (.pointer (some ⟨g,0,none⟩))).run Tryz.prog y=.ok (.agg (macCells R.M R.P).toArray) y :=
 mid_loadAt (pre:=[]) (cs:=macCells R.M R.P) (post:=[Value.pointer R.c]++(refCells R.r++[Value.int .u64 0,R.v])) (t:=48) h Tryz.underlying38 rfl mac_size
theorem rn_ref {y:World} {g:Nat} {R:RnV} (h:RnAt y g R):(Instr.loadAt 43 (.pointer (some ⟨g,16,none⟩))).run Tryz.prog y=.ok (.agg (refCells R.r).toArray) y :=
 mid_loadAt (pre:=macCells R.M R.P++[Value.pointer R.c]) (cs:=refCells R.r) (post:=[Value.int .u64 0,R.v]) (t:=48) h Tryz.underlying43 rfl (by kernel_rfl:(Tryz.prog.info? 43).map (·.size)=some 4)
theorem ref_size:(Tryz.prog.info? 43).map (·.size)=some 4:=by kernel_rfl
theorem ref_size2 (r:RefM):(Tryz.prog.info? 43).map (·.size)=some (refCells r).length:=ref_size
theorem ref_one (r:RefM):∀ v ∈ refCells r,v.oneCell'=true:=by simp [refCells,Value.oneCell']
theorem rn_setMac {y:World} {g:Nat} {R:RnV} (h:RnAt y g R) (M:MacV) (P:Option Addr):RnAt (rowSt y g 0 (macCells M P)) g { R with M:=M,P:=P } :=
 mid_row (macCells M P) [] (macCells R.M R.P) ([Value.pointer R.c]++(refCells R.r++[Value.int .u64 0,R.v])) y h rfl
theorem rn_setRef {y:World} {g:Nat} {R:RnV} (h:RnAt y g R) (r:RefM):RnAt (rowSt y g 16 (refCells r)) g { R with r:=r } :=
 mid_row (refCells r) (macCells R.M R.P++[Value.pointer R.c]) (refCells R.r) [Value.int .u64 0,R.v] y h rfl
theorem rn_setRow {y:World} {g:Nat} {R:RnV} (h:RnAt y g R) (v:Value):RnAt (rowSt y g 20 [.int .u64 0,v]) g { R with v:=v } :=
 mid_row [.int .u64 0,v] (macCells R.M R.P++([Value.pointer R.c]++refCells R.r)) [.int .u64 0,R.v] [] y h rfl
theorem rn_there {y:World} {g:Nat} {R:RnV} (h:RnAt y g R):y.there g 0 22:=there_row (cs:=rnCells R) h
def doTs:List TypeId:=[48,124,24]
def DoesPost (c:CmdV) (w:World) (base g:Nat) (R:RnV) (p:Nat) (D:List UInt8) (e:Ending) (w':World):Prop :=
 ∃ R' T' cv' z',e=.returned (.tuple #[])∧RnAt w' g R'∧R'.M=(macDo R.M c).m∧RunI w' base R' T' p cv' (D++[UInt8.ofNat R'.M.mem]) z'∧R'.r.k≤R.r.k+1∧Sorts doTs w.heap.size w w'∧∀ n,n≤w.heap.size→n≤g→n≤p→n≤base→Below n w w'
theorem does_any (c:CmdV) (w:World) (base g:Nat) (hbase:base≤w.heap.size) (R:RnV) (T:Tr) (p:Nat) (cv:Value) (D:List UInt8) (z:List KeptV) (hA:MacAll R.M) (hk:R.r.k≤100000) (hD:0<D.length) (hDl:D.length≤100000) (hg:RnAt w g R) (hI:RunI w base R T p cv D z) :
  Calls Tryz.prog 17 #[.pointer (some ⟨g,0,none⟩),.agg (cmdCells c).toArray] w (DoesPost c w base g R p D):=by
 obtain ⟨M,P,cc,r,rv⟩:=R;have e1:=hI.tp;have e2:=hI.cp;dsimp only at e1 e2 hA hk;subst e1;subst e2;obtain ⟨Mo,hMo⟩:∃ O,macDo M c=O:=⟨_,rfl⟩;obtain ⟨M2,code,text,fresh⟩:=Mo;have hA2:MacAll M2:=by have q:=macDo_all hA c;rw [hMo] at q;exact q
 have hcnt:T.cnt≤1000000:=by
  have h1:=hA.fit.kv.num;have h2:=hI.ts;dsimp only at h2;rw [sh_cnt,h2];omega
 have hrn:r.n≤1000000:=by
  have h1:=hA.fit.kv.num;have h2:=hI.ref.pairs.hlen;dsimp only at h2;rw [cnt_kv] at h1;omega
 have hal:M.all<256:=by have:=hA.fit.all;omega
 have hdo:=fun (y:World) (hy:TreeAt y T)=>mdo_any c M T y hal hy hI.ts (by omega)
 have hrd:=fun (y:World) (hy:RefAt y r M z)=>rdo_any r M z c hrn (by omega) hal y hy
 unfold RDoPost at hrd;rw [hMo] at hdo hrd;unfold repV at hdo hrd;unfold macV at hdo;have Hdo:=Lib.hid hdo;have Hrd:=Lib.hid hrd;have HI:=Lib.hid hI;have HMo:=Lib.hid (And.intro hMo (And.intro hA2 hbase));have HD:=Lib.hid (And.intro hD hDl);have Hk:=Lib.hid hk;have hb1:=(Below.refl w.heap.size w).alloc (Nat.le_refl _) (.cells (cmdCells c).toArray 56);have hm1:(w.alloc (.cells (cmdCells c).toArray 56)).heap[w.heap.size]?=some (.cells (cmdCells c).toArray 56 (0,0)):=heap_alloc_new _ _;have Hg:=Lib.hid hg;clear hdo hrd hI hMo hA2 hbase hA hk hD hDl hg hal hrn hcnt;rw [cmd_eta] at hb1 hm1 ⊢;obtain ⟨gc,hgc⟩:∃ g,w.heap.size=g:=⟨_,rfl⟩;rw [hgc] at hm1;go_enter Tryz.func17,Tryz.ntmps17
 go_upto_region 1 with fail;rw [← cmd_eta] at hm1 hb1;simp only [← cmd_eta];change Code.wp _ _ _ _ (w.alloc (.cells (cmdCells c).toArray 56));generalize w.alloc (.cells (cmdCells c).toArray 56)=w1 at *;have Hc1:=Lib.hid hm1;have Hb1:=Lib.hid hb1;have Hgc:=Lib.hid hgc;have Hg1:=Lib.hid (Hg.out.below hb1);have HI1:=Lib.hid (HI.out.below hb1);clear hm1 hb1 hgc Hg HI;refine (wpIn_wide (n:=1)).1 ?_;refine RegL.wpIn_region_lays (F:=Fence.wide) (KeptW w1) [⟨10,4,.cells (macCells macNone none).toArray 38 (0,0)⟩,⟨11,5,.cells (repCells 0 ByteArray.empty).toArray 27 (0,0)⟩] [(0,0),(1,0),(2,0),(3,0),(4,0),(5,1),(6,2),(7,2),(8,2),(9,2),(12,3),(13,3),(14,0)] (by kernel_rfl) (by kernel_rfl) (by kernel_rfl) (fun p hp=>by simp only [List.mem_cons,List.not_mem_nil,or_false] at hp;rcases hp with rfl | rfl;exact lays_any layMac rfl;exact lays_any layRep rfl) (fun _ _ d _ _ h=>by cases d <;> exact h) (fun _ _ d _ _ h=>by cases d <;> exact h) ⟨rfl,rfl,rfl,Nat.le_refl _,fun _ _=>rfl⟩ (keptW_mono w1) ?_;dsimp only [RegK.pick,List.getElem?_cons_zero,List.getElem?_cons_succ];refine RegL.reads ?_;intro K hK;go_simp;(first | refine ⟨_,fun _ _=>rfl,hK _ ?_⟩ | refine hK _ ?_);clear hK K;refine RegL.reads ?_;intro K hK;go_simp;(first | refine ⟨_,fun _ _=>rfl,hK _ ?_⟩ | refine hK _ ?_);clear hK K;refine RegL.reads ?_;intro K hK;go_simp;(first | refine ⟨_,fun _ _=>rfl,hK _ ?_⟩ | refine hK _ ?_);clear hK K;refine RegL.reads ?_;intro K hK;rw [if_pos (by simp [Region.wanted])];refine ⟨.agg (macCells M T.ptr).toArray,fun y hy=>exec_load rfl rfl (rn_mac (Hg1.out.below (KeptW.bel hy))),hK _ ?_⟩;clear hK K;go_simp;refine RegL.reads ?_;intro K hK;rw [if_pos (by simp [Region.wanted])];refine ⟨.agg (cmdCells c).toArray,fun y hy=>exec_load rfl rfl (row_loadAt (P:=Tryz.prog) (cs:=cmdCells c) (((KeptW.bel hy).block gc (Array.getElem?_eq_some_iff.1 Hc1.out).1).trans Hc1.out) Tryz.underlying56 rfl cmd_size),hK _ ?_⟩;clear hK K;go_simp;refine RegL.adds (fun _=>trivial) ?_;go_simp;intro xa1 hx K hK;refine ⟨trivial,?_⟩;refine (callsIn_wide.2 (Hdo.out xa1 (HI1.out.t.below (KeptW.bel hx)))).mono ?_;rintro e xc1 ⟨X,rfl,⟨hX,hb2,hXs⟩⟩;have hxxc1:KeptW w1 xc1:=KeptW.mono hx hb2;refine hK (KeptW xc1) _ _ hb2 (fun y h=>KeptW.mono (KeptW.mono hx hb2) (KeptW.bel h)) (keptW_mono xc1) (Below.refl _ _) ?_;have HX:=Lib.hid (And.intro hX hXs);clear hX hXs;clear hK K hb2 hx;refine RegL.pures ?_;intro K hK;go_simp;(first | (refine ⟨_,fun _=>rfl,hK _ ?_⟩) | (refine hK _ ?_));clear hK K;refine RegL.pures ?_;intro K hK;go_simp;(first | (refine ⟨_,fun _=>rfl,hK _ ?_⟩) | (refine hK _ ?_));clear hK K;refine RegL.pures ?_;intro K hK;go_simp;(first | (refine ⟨_,fun _=>rfl,hK _ ?_⟩) | (refine hK _ ?_));clear hK K;refine RegL.pures ?_;intro K hK;go_simp;(first | (refine ⟨_,fun _=>rfl,hK _ ?_⟩) | (refine hK _ ?_));clear hK K;refine RegL.last ?_;intro g' y hF hy;have hyk:KeptW w1 y:=KeptW.mono hxxc1 (KeptW.bel hy);obtain ⟨hlg4,hng4⟩:=hF.1 ⟨10,4,.cells (macCells macNone none).toArray 38 (0,0)⟩ (by simp) rfl;obtain ⟨hlg5,hng5⟩:=hF.1 ⟨11,5,.cells (repCells 0 ByteArray.empty).toArray 27 (0,0)⟩ (by simp) rfl;have hneg5g4:g' 11≠g' 10:=hF.2 ⟨11,5,.cells (repCells 0 ByteArray.empty).toArray 27 (0,0)⟩ (by simp) ⟨10,4,.cells (macCells macNone none).toArray 38 (0,0)⟩ (by simp) rfl rfl (by simp);simp only [RegL.putS,RegL.ptr,if_true];clear hF;generalize g' 10=g4 at *;generalize g' 11=g5 at *;have hx4:MacAt y g4 macNone none:=hlg4;have hst5:y.heap[g5]?=some (.cells (repCells 0 ByteArray.empty).toArray 27 (0,0)):=hlg5;refine RegK.can_frees (fun _=>trivial) ?_;intro K K0 hK hK0;rw [if_pos (by simp [Region.wanted])];refine RegK.op_wide rfl ?_;refine wp_store_mid 38 _ _ rfl g4 0 (macCells M2 X.ptr).toArray rfl rfl (there_row (cs:=macCells macNone none) hx4) mac_size (all_oneCell_toArray (mac_one _ _)) ?_;rw [show (y).setCells g4 0 (macCells M2 X.ptr).toArray.toList=rowSt y g4 0 (macCells M2 X.ptr) from st_eq _ _ _];refine hK (fun _=>True) _ _ trivial ?_;clear hK K hK0 K0;have hr5:(rowSt y g4 0 (macCells M2 X.ptr)).heap[g5]?=some (.cells (repCells 0 ByteArray.empty).toArray 27 (0,0)):=(rowSt_other hneg5g4 _ _ _).trans hst5;have hr4:MacAt (rowSt y g4 0 (macCells M2 X.ptr)) g4 M2 X.ptr:=macSt_at hx4 M2 X.ptr;have hbb:=rowSt_below (w0:=w1) (n:=w1.heap.size) hng4 (macCells M2 X.ptr) 0 _ (KeptW.bel hyk);have htt:TreeAt (rowSt y g4 0 (macCells M2 X.ptr)) X:=TreeAt.row hx4 (by decide) _ _ (HX.out.1.below (KeptW.bel hy));generalize rowSt y g4 0 (macCells M2 X.ptr)=y2 at *;refine RegK.can_frees (fun _=>trivial) ?_;intro K K0 hK hK0;rw [if_pos (by simp [Region.wanted])];refine RegK.op_wide rfl ?_;refine wp_store_mid 27 _ _ rfl g5 0 (repCells code text).toArray rfl rfl (there_row (cs:=repCells 0 ByteArray.empty) hr5) rep_size (all_oneCell_toArray (rep_one _ _)) ?_;rw [show (y2).setCells g5 0 (repCells code text).toArray.toList=rowSt y2 g5 0 (repCells code text) from st_eq _ _ _];refine hK (fun _=>True) _ _ trivial ?_;clear hK K hK0 K0;have hr4b:MacAt (rowSt y2 g5 0 (repCells code text)) g4 M2 X.ptr:=(rowSt_other (Ne.symm hneg5g4) _ _ _).trans hr4;have hbb2:=rowSt_below (w0:=w1) (n:=w1.heap.size) hng5 (repCells code text) 0 _ hbb;have htt2:TreeAt (rowSt y2 g5 0 (repCells code text)) X:=TreeAt.row hr5 (by decide) _ _ htt;generalize rowSt y2 g5 0 (repCells code text)=w2 at *;refine RegK.can_reads ?_;intro K hK;go_simp;(first | refine ⟨_,fun _ _=>rfl,hK _ ?_⟩ | refine hK _ ?_);clear hK K;refine RegK.can_nil ?_;have Hm2:=Lib.hid hr4b;have Hb2:=Lib.hid hbb2;have Ht2:=Lib.hid (And.intro htt2 HX.out.2);have Hn4:=Lib.hid hng4;clear hr4b hbb2 htt2 hr4 hr5 hbb htt hx4 hst5 hneg5g4 hng4 hng5 hlg4 hlg5 hyk hy HX Hdo;have hg2:=Hg1.out.below Hb2.out;have Hrl4:=Lib.hid (show w2.rangeAt g4 0 (macCells M2 X.ptr) from range_row Hm2.out);have Hth:=Lib.hid (there_part (m:=15) (rn_there hg2) (by omega:0+15≤22) rfl);have hg3:=rn_setMac hg2 M2 X.ptr;have hglt:g<w1.heap.size:=Hg1.out.lt;have hm3:MacAt (rowSt w2 g 0 (macCells M2 X.ptr)) g4 M2 X.ptr:=(rowSt_other (by have:=Hn4.out;omega) _ _ _).trans Hm2.out;have hs23:=sorts_row (n:=w2.heap.size) (ts:=[48]) hg2 (by simp) (macCells M2 X.ptr) 0;have hI3:=(HI1.out.below Hb2.out).sorts hs23 (by decide);have hX3:=TreeAt.sorts hs23 (by decide) Ht2.out.1;have hc3:(rowSt w2 g 0 (macCells M2 X.ptr)).heap[gc]?=some (.cells (cmdCells c).toArray 56 (0,0)):=hs23.row ((Hb2.out.block gc (Array.getElem?_eq_some_iff.1 Hc1.out).1).trans Hc1.out) (by decide);have hs3:Sorts doTs w.heap.size w (rowSt w2 g 0 (macCells M2 X.ptr)):=(sorts_of (Hb1.out.trans (Hb2.out.mono Hb1.out.size)) doTs).trans (hs23.mono (Nat.le_trans Hb1.out.size Hb2.out.size) (fun t ht=>by rw [List.mem_singleton] at ht;subst ht;decide));have Hg3:=Lib.hid hg3;have Hm3:=Lib.hid hm3;have HI3:=Lib.hid hI3;have HX3:=Lib.hid (And.intro hX3 Ht2.out.2);have Hc3:=Lib.hid hc3;have Hs3:=Lib.hid hs3;have HN3:=Lib.hid (fun (n:Nat) (h1:n≤w.heap.size) (h2:n≤g)=>rowSt_below h2 (macCells M2 X.ptr) 0 _ ((Hb1.out.trans (Hb2.out.mono Hb1.out.size)).mono h1));clear hg2 hg3 hm3 hs23 hI3 hX3 hc3 hs3;go_upto_region 3 with (first
  | (with_reducible refine wpList_load_mid rfl 38 _ rfl g4 0 rfl (macCells M2 X.ptr) _ Hrl4.out Tryz.underlying38 rfl (mac_size2 _ _) ?_)
  | ((with_reducible refine wpList_store_mid rfl 38 _ _ rfl g 0 _ rfl rfl ?_ ?_ ?_ ?_);exact Hth.out;exact mac_size;exact all_oneCell_toArray (mac_one M2 X.ptr)))
 rw [show w2.setCells g 0 (macCells M2 X.ptr).toArray.toList=rowSt w2 g 0 (macCells M2 X.ptr) from st_eq _ _ _];clear Hrl4 Hth hglt Hm2 Ht2 Hc1 HI1 Hg1;generalize rowSt w2 g 0 (macCells M2 X.ptr)=w3 at *;have Hmem:=Lib.hid (fun y:World=>(show Calls Tryz.prog 37 #[.agg (macCells M2 X.ptr).toArray] y fun e w'=>e=.returned (.int .u8 (M2.mem:Int))∧Below y.heap.size y w' from mmem_any M2 X.ptr y));refine (wpIn_wide (n:=1)).1 ?_;refine RegK.wpIn_region_can (F:=Fence.wide) (KeptW w3) [(0,0),(1,0),(2,0),(3,0),(4,0),(5,1),(6,3)] (by kernel_rfl) (by kernel_rfl) (by kernel_rfl) (fun _ _ d _ _ h=>by cases d <;> exact h) ⟨rfl,rfl,rfl,Nat.le_refl _,fun _ _=>rfl⟩ ?_;dsimp only [RegK.pick,List.getElem?_cons_zero,List.getElem?_cons_succ];change RegK.Can _ _ _ _ _ _ _ _ w3.drew;have hkd:KeptW w3 w3.drew:=⟨rfl,rfl,rfl,Nat.le_refl _,fun _ _=>rfl⟩;generalize w3.drew=v1 at *;iterate 3 (refine RegK.can_reads ?_;intro K hK;go_simp;(first | refine ⟨_,fun _ _=>rfl,hK _ ?_⟩ | refine hK _ ?_);clear hK K)
 refine RegK.can_reads ?_;intro K hK;go_simp;refine ⟨.pointer (some ⟨p,0,none⟩),fun y hy=>?_,hK _ ?_⟩
 ·
  have f0:y.cell? ⟨g,15,none⟩=some (.pointer (some ⟨p,0,none⟩)):=cell_of_row _ _ _ _ _ _ (Hg3.out.below (KeptW.bel hy));go_simp
 clear hK K;refine RegK.can_reads ?_;intro K hK;rw [if_pos (by first | (simp [Region.wanted];done) | (go_simp;done))];refine ⟨.agg (macCells M2 X.ptr).toArray,fun y hy=>exec_load rfl rfl (row_loadAt (P:=Tryz.prog) (cs:=macCells M2 X.ptr) (Hm3.out.below (KeptW.bel hy)) Tryz.underlying38 rfl (mac_size2 _ _)),hK _ ?_⟩;clear hK K;go_simp;refine RegK.can_turns (fun _=>trivial) ?_;intro K K0 hK hK0;go_simp;refine ⟨trivial,?_⟩;refine (callsIn_wide.2 (Hmem.out v1)).mono ?_;rintro e v2 ⟨rfl,hb7⟩;have v2k:KeptW w3 v2:=KeptW.mono hkd hb7;refine hK _ _ v2k ?_;clear hK K hK0 K0;refine RegK.can_frees (fun _=>trivial) ?_;intro K K0 hK hK0;go_simp;refine ⟨trivial,?_⟩;refine (callsIn_wide.2 (chpush_any base p cv ⟨0,D⟩ M2.mem (by have:=HMo.out.2.1.fit.mem;omega) (mem_ok HMo.out.2.1) HD.out.1 (by have:=HD.out.2;simp;omega) (by have:=HD.out.2;simp;omega) v2 (Nat.le_trans HMo.out.2.2 (Nat.le_trans Hs3.out.size (KeptW.bel v2k).size)) (HI3.out.ch.below (KeptW.bel v2k)))).mono ?_;rintro e w5 ⟨cv5,rfl,hch5,hof5⟩;refine hK (fun _=>True) _ _ trivial ?_;clear hK K hK0 K0;have hs45:=push_sorts (HI3.out.ch.below (KeptW.bel v2k)) hof5;have hg5:RnAt w5 g _:=hs45.row (Hg3.out.below (KeptW.bel v2k)) (by decide);have hX5:=TreeAt.sorts hs45 (by decide) (HX3.out.1.below (KeptW.bel v2k));have hc5:=hs45.row (((KeptW.bel v2k).block gc (Array.getElem?_eq_some_iff.1 Hc3.out).1).trans Hc3.out) (by decide);have hrf5:=RefAt.sorts hs45 (HI3.out.ref.below (KeptW.bel v2k)) (by decide) (by decide);have hrv5:=ownsRow_sorts hs45 (HI3.out.rv.below (KeptW.bel v2k)) (by decide);have hs5:Sorts doTs w.heap.size w w5:=Hs3.out.trans (((sorts_of (KeptW.bel v2k) doTs).trans (hs45.mono (KeptW.bel v2k).size (fun t ht=>by simp only [doTs,List.mem_cons,List.not_mem_nil,or_false] at ht ⊢; exact .inr ht))).mono Hs3.out.size (fun t h=>h));have HN5:=Lib.hid (fun (n:Nat) (h1:n≤w.heap.size) (h2:n≤g) (h3:n≤p) (h4:n≤base)=>((HN3.out n h1 h2).trans ((KeptW.bel v2k).mono (Nat.le_trans h1 Hs3.out.size))).trans ((hof5.mono (Nat.le_trans h1 (Nat.le_trans Hs3.out.size (KeptW.bel v2k).size))).below (fun q hq=>by
  rcases List.mem_cons.1 hq with rfl | hq
  ·
   exact h3
  ·
   rcases (HI3.out.ch.below (KeptW.bel v2k)).own.2 with ⟨e2,_⟩ | ⟨q2,_,_,e2,h5,_⟩
   ·
    rw [e2] at hq;simp [Value.ownBlock] at hq
   ·
    rw [e2] at hq;have e3:q=q2:=by simpa [Value.ownBlock] using hq
    omega)))
 have Hg5:=Lib.hid hg5;have HX5:=Lib.hid (And.intro hX5 HX3.out.2);have Hc5:=Lib.hid hc5;have Hrf5:=Lib.hid hrf5;have Hrv5:=Lib.hid (show OwnB w5 base 5 rv D from hrv5);have Hch5:=Lib.hid hch5;have Hs5:=Lib.hid hs5;clear hs45 hof5 hg5 hX5 hc5 hrf5 hrv5 hch5 hs5;refine RegK.can_nil ?_;clear hkd v2k Hmem Hg3 Hm3 HI3 HX3 Hc3 Hs3;go_upto_region 4 with fail;refine (wpIn_wide (n:=1)).1 ?_;refine RegL.wpIn_region_lays (F:=Fence.wide) (KeptW w5) [⟨10,7,.cells (refCells refNone).toArray 43 (0,0)⟩,⟨11,8,.cells (repCells 0 ByteArray.empty).toArray 27 (0,0)⟩] [(0,0),(1,0),(2,0),(3,0),(4,0),(5,1),(6,2),(7,2),(8,2),(9,2),(12,3),(13,3),(14,0)] (by kernel_rfl) (by kernel_rfl) (by kernel_rfl) (fun p hp=>by simp only [List.mem_cons,List.not_mem_nil,or_false] at hp;rcases hp with rfl | rfl;exact lays_any layRef rfl;exact lays_any layRep rfl) (fun _ _ d _ _ h=>by cases d <;> exact h) (fun _ _ d _ _ h=>by cases d <;> exact h) ⟨rfl,rfl,rfl,Nat.le_refl _,fun _ _=>rfl⟩ (keptW_mono w5) ?_;dsimp only [RegK.pick,List.getElem?_cons_zero,List.getElem?_cons_succ];refine RegL.reads ?_;intro K hK;go_simp;(first | refine ⟨_,fun _ _=>rfl,hK _ ?_⟩ | refine hK _ ?_);clear hK K;refine RegL.reads ?_;intro K hK;go_simp;(first | refine ⟨_,fun _ _=>rfl,hK _ ?_⟩ | refine hK _ ?_);clear hK K;refine RegL.reads ?_;intro K hK;go_simp;(first | refine ⟨_,fun _ _=>rfl,hK _ ?_⟩ | refine hK _ ?_);clear hK K;refine RegL.reads ?_;intro K hK;rw [if_pos (by simp [Region.wanted])];refine ⟨.agg (refCells r).toArray,fun y hy=>exec_load rfl rfl (rn_ref (Hg5.out.below (KeptW.bel hy))),hK _ ?_⟩;clear hK K;go_simp;refine RegL.reads ?_;intro K hK;rw [if_pos (by simp [Region.wanted])];refine ⟨.agg (cmdCells c).toArray,fun y hy=>exec_load rfl rfl (row_loadAt (P:=Tryz.prog) (cs:=cmdCells c) (((KeptW.bel hy).block gc (Array.getElem?_eq_some_iff.1 Hc5.out).1).trans Hc5.out) Tryz.underlying56 rfl cmd_size),hK _ ?_⟩;clear hK K;go_simp;refine RegL.adds (fun _=>trivial) ?_;go_simp;intro xa1 hx K hK;refine ⟨trivial,?_⟩;refine (callsIn_wide.2 (Hrd.out xa1 (Hrf5.out.below (KeptW.bel hx)))).mono ?_;rintro e xc1 ⟨r2,z2,rfl,hr2,hk2,hb2⟩;have hxxc1:KeptW w5 xc1:=KeptW.mono hx hb2;refine hK (KeptW xc1) _ _ hb2 (fun y h=>KeptW.mono (KeptW.mono hx hb2) (KeptW.bel h)) (keptW_mono xc1) (Below.refl _ _) ?_;have HR:=Lib.hid (And.intro hr2 hk2);clear hr2 hk2;clear hK K hb2 hx;refine RegL.pures ?_;intro K hK;go_simp;(first | (refine ⟨_,fun _=>rfl,hK _ ?_⟩) | (refine hK _ ?_));clear hK K;refine RegL.pures ?_;intro K hK;go_simp;(first | (refine ⟨_,fun _=>rfl,hK _ ?_⟩) | (refine hK _ ?_));clear hK K;refine RegL.pures ?_;intro K hK;go_simp;(first | (refine ⟨_,fun _=>rfl,hK _ ?_⟩) | (refine hK _ ?_));clear hK K;refine RegL.pures ?_;intro K hK;go_simp;(first | (refine ⟨_,fun _=>rfl,hK _ ?_⟩) | (refine hK _ ?_));clear hK K;refine RegL.last ?_;intro g' y hF hy;have hyk:KeptW w5 y:=KeptW.mono hxxc1 (KeptW.bel hy);obtain ⟨hlg7,hng7⟩:=hF.1 ⟨10,7,.cells (refCells refNone).toArray 43 (0,0)⟩ (by simp) rfl;obtain ⟨hlg8,hng8⟩:=hF.1 ⟨11,8,.cells (repCells 0 ByteArray.empty).toArray 27 (0,0)⟩ (by simp) rfl;have hneg8g7:g' 11≠g' 10:=hF.2 ⟨11,8,.cells (repCells 0 ByteArray.empty).toArray 27 (0,0)⟩ (by simp) ⟨10,7,.cells (refCells refNone).toArray 43 (0,0)⟩ (by simp) rfl rfl (by simp);simp only [RegL.putS,RegL.ptr,if_true];clear hF;generalize g' 10=g7 at *;generalize g' 11=g8 at *;have hx7:RefRow y g7 refNone:=hlg7;have hst8:y.heap[g8]?=some (.cells (repCells 0 ByteArray.empty).toArray 27 (0,0)):=hlg8;refine RegK.can_frees (fun _=>trivial) ?_;intro K K0 hK hK0;rw [if_pos (by simp [Region.wanted])];refine RegK.op_wide rfl ?_;refine wp_store_mid 43 _ _ rfl g7 0 (refCells r2).toArray rfl rfl (there_row (cs:=refCells refNone) hx7) ref_size (all_oneCell_toArray (ref_one _)) ?_;rw [show (y).setCells g7 0 (refCells r2).toArray.toList=rowSt y g7 0 (refCells r2) from st_eq _ _ _];refine hK (fun _=>True) _ _ trivial ?_;clear hK K hK0 K0;have hr8:(rowSt y g7 0 (refCells r2)).heap[g8]?=some (.cells (repCells 0 ByteArray.empty).toArray 27 (0,0)):=(rowSt_other hneg8g7 _ _ _).trans hst8;have hr7:RefRow (rowSt y g7 0 (refCells r2)) g7 r2:=hx7.set r2;have hbb:=rowSt_below (w0:=w5) (n:=w5.heap.size) hng7 (refCells r2) 0 _ (KeptW.bel hyk);have htt:=RefAt.sorts (sorts_row (n:=y.heap.size) (ts:=[43]) hx7 (by simp) (refCells r2) 0) (HR.out.1.below (KeptW.bel hy)) (by decide) (by decide);generalize rowSt y g7 0 (refCells r2)=y2 at *;refine RegK.can_frees (fun _=>trivial) ?_;intro K K0 hK hK0;rw [if_pos (by simp [Region.wanted])];refine RegK.op_wide rfl ?_;refine wp_store_mid 27 _ _ rfl g8 0 (repCells code text).toArray rfl rfl (there_row (cs:=repCells 0 ByteArray.empty) hr8) rep_size (all_oneCell_toArray (rep_one _ _)) ?_;rw [show (y2).setCells g8 0 (repCells code text).toArray.toList=rowSt y2 g8 0 (repCells code text) from st_eq _ _ _];refine hK (fun _=>True) _ _ trivial ?_;clear hK K hK0 K0;have hr7b:RefRow (rowSt y2 g8 0 (repCells code text)) g7 r2:=(rowSt_other (Ne.symm hneg8g7) _ _ _).trans hr7;have hbb2:=rowSt_below (w0:=w5) (n:=w5.heap.size) hng8 (repCells code text) 0 _ hbb;have htt2:=RefAt.sorts (sorts_row (n:=y2.heap.size) (ts:=[27]) hr8 (by simp) (repCells code text) 0) htt (by decide) (by decide);generalize rowSt y2 g8 0 (repCells code text)=w6 at *;refine RegK.can_reads ?_;intro K hK;go_simp;(first | refine ⟨_,fun _ _=>rfl,hK _ ?_⟩ | refine hK _ ?_);clear hK K;refine RegK.can_nil ?_;have Hm6:=Lib.hid hr7b;have Hb6:=Lib.hid hbb2;have Ht6:=Lib.hid htt2;have Hn7:=Lib.hid hng7;clear hr7b hbb2 htt2 hr7 hr8 hbb htt hx7 hst8 hneg8g7 hng7 hng8 hlg7 hlg8 hyk hy Hrd;have hg6:=Hg5.out.below Hb6.out;have Hrl7:=Lib.hid (show w6.rangeAt g7 0 (refCells r2) from range_row Hm6.out);have Hth:=Lib.hid (there_part (m:=4) (o:=16) (rn_there hg6) (by omega:16+4≤22) rfl);have hg7:=rn_setRef hg6 r2;have hglt:g<w5.heap.size:=Hg5.out.lt;have hm7:RefRow (rowSt w6 g 16 (refCells r2)) g7 r2:=(rowSt_other (by have:=Hn7.out;omega) _ _ _).trans Hm6.out;have hs67:=sorts_row (n:=w6.heap.size) (ts:=[48]) hg6 (by simp) (refCells r2) 16;have hX7:=TreeAt.sorts hs67 (by decide) (HX5.out.1.below Hb6.out);have hch7:=(Hch5.out.below Hb6.out).sorts hs67 (by decide) (by decide);have hrf7:=RefAt.sorts hs67 Ht6.out (by decide) (by decide);have hrv7:OwnB (rowSt w6 g 16 (refCells r2)) base 5 rv D:=ownsRow_sorts hs67 (Hrv5.out.below Hb6.out) (by decide);have hs7:Sorts doTs w.heap.size w (rowSt w6 g 16 (refCells r2)):=Hs5.out.trans (((sorts_of Hb6.out doTs).trans (hs67.mono Hb6.out.size (fun t ht=>by rw [List.mem_singleton] at ht;subst ht;decide))).mono Hs5.out.size (fun t h=>h));have Hg7:=Lib.hid hg7;have Hm7:=Lib.hid hm7;have HX7:=Lib.hid (And.intro hX7 HX5.out.2);have Hch7:=Lib.hid hch7;have Hrf7:=Lib.hid hrf7;have Hrv7:=Lib.hid hrv7;have Hs7:=Lib.hid hs7;have HN7:=Lib.hid (fun (n:Nat) (h1:n≤w.heap.size) (h2:n≤g) (h3:n≤p) (h4:n≤base)=>rowSt_below h2 (refCells r2) 16 _ ((HN5.out n h1 h2 h3 h4).trans (Hb6.out.mono (Nat.le_trans h1 Hs5.out.size))));clear hg6 hg7 hm7 hs67 hX7 hch7 hrf7 hrv7 hs7;go_upto_region 6 with (first
  | (with_reducible refine wpList_load_mid rfl 43 _ rfl g7 0 rfl (refCells r2) _ Hrl7.out Tryz.underlying43 rfl (ref_size2 _) ?_)
  | ((with_reducible refine wpList_store_mid rfl 43 _ _ rfl g 16 _ rfl rfl ?_ ?_ ?_ ?_);exact Hth.out;exact ref_size;exact all_oneCell_toArray (ref_one r2)))
 rw [show w6.setCells g 16 (refCells r2).toArray.toList=rowSt w6 g 16 (refCells r2) from st_eq _ _ _];clear Hrl7 Hth hglt Hm6 Ht6 Hb6 Hc5 Hg5 HX5 Hrf5 Hrv5 Hch5 Hs5;generalize rowSt w6 g 16 (refCells r2)=w7 at *;obtain ⟨a7,n7,c7,rfl⟩:=Hrv7.out.read.slice;have hmem2:r2.mem=M2.mem:=HR.out.1.mem;have Hpu:=Lib.hid (fun (y:World) (hy:OwnB y base 5 (.slice a7 n7 c7) D)=>(show Calls Tryz.prog 47 #[.agg #[.int .u64 0,.slice a7 n7 c7],.int .u8 (r2.mem:Int)] y fun e w'=>∃ v',e=.returned (.tuple #[.agg #[.int .u64 0,v'],.int .i64 0])∧OwnB w' y.heap.size 5 v' (D++[UInt8.ofNat M2.mem])∧Below y.heap.size y w' from by rw [hmem2];exact rpush_any D (.slice a7 n7 c7) M2.mem (by have:=HMo.out.2.1.fit.mem;omega) (mem_ok HMo.out.2.1) HD.out.1 (by have:=HD.out.2;omega) base y hy));clear hmem2;refine (wpIn_wide (n:=1)).1 ?_;refine RegK.wpIn_region_can (F:=Fence.wide) (KeptW w7) [(0,0),(1,0),(2,0),(3,0),(4,0),(5,0),(6,0),(7,1),(8,0),(9,0),(10,2),(11,0),(12,0),(13,3)] (by kernel_rfl) (by kernel_rfl) (by kernel_rfl) (fun _ _ d _ _ h=>by cases d <;> exact h) ⟨rfl,rfl,rfl,Nat.le_refl _,fun _ _=>rfl⟩ ?_;dsimp only [RegK.pick,List.getElem?_cons_zero,List.getElem?_cons_succ];change RegK.Can _ _ _ _ _ _ _ _ w7.drew;have hkd:KeptW w7 w7.drew:=⟨rfl,rfl,rfl,Nat.le_refl _,fun _ _=>rfl⟩;generalize w7.drew=v1 at *;iterate 4 (refine RegK.can_reads ?_;intro K hK;go_simp;(first | refine ⟨_,fun _ _=>rfl,hK _ ?_⟩ | refine hK _ ?_);clear hK K)
 refine RegK.can_reads ?_;intro K hK;go_simp;refine ⟨.agg #[.int .u64 0,.slice a7 n7 c7],fun y hy=>?_,hK _ ?_⟩
 ·
  have f0:y.cell? ⟨g,20,none⟩=some (.int .u64 0):=cell_of_row _ _ _ _ _ _ (Hg7.out.below (KeptW.bel hy));have f1:y.cell? ⟨g,21,none⟩=some (.slice a7 n7 c7):=cell_of_row _ _ _ _ _ _ (Hg7.out.below (KeptW.bel hy));go_simp
 clear hK K;refine RegK.can_reads ?_;intro K hK;go_simp;(first | refine ⟨_,fun _ _=>rfl,hK _ ?_⟩ | refine hK _ ?_);clear hK K
 refine RegK.can_reads ?_;intro K hK;go_simp;refine ⟨.int .u8 (r2.mem:Int),fun y hy=>?_,hK _ ?_⟩
 ·
  have f0:y.cell? ⟨g7,2,none⟩=some (.int .u8 (r2.mem:Int)):=cell_of_row _ _ _ _ _ _ (Hm7.out.below (KeptW.bel hy));go_simp
 clear hK K;refine RegK.can_turns (fun _=>trivial) ?_;intro K K0 hK hK0;go_simp;refine ⟨trivial,?_⟩;refine (callsIn_wide.2 (Hpu.out v1 (Hrv7.out.below (KeptW.bel hkd)))).mono ?_;rintro e v2 ⟨v8,rfl,ho8,hb7⟩;have v2k:KeptW w7 v2:=KeptW.mono hkd hb7;refine hK _ _ v2k ?_;clear hK K hK0 K0;have Ho8:=Lib.hid ho8;clear ho8;obtain ⟨a8,n8,c8,rfl⟩:=Ho8.out.read.slice;iterate 2 (refine RegK.can_reads ?_;intro K hK;go_simp;(first | refine ⟨_,fun _ _=>rfl,hK _ ?_⟩ | refine hK _ ?_);clear hK K)
 refine canPure ?_;intro K hK;go_simp;(first | refine ⟨_,fun _=>rfl,hK _ ?_⟩ | refine hK _ ?_);clear hK K;iterate 2 (refine RegK.can_reads ?_;intro K hK;go_simp;(first | refine ⟨_,fun _ _=>rfl,hK _ ?_⟩ | refine hK _ ?_);clear hK K)
 have hg8:=Hg7.out.below (KeptW.bel v2k);have hth:=there_part (m:=2) (o:=20) (rn_there hg8) (by omega:20+2≤22) rfl;have hg9:=rn_setRow hg8 (.slice a8 n8 c8);have hs89:=sorts_row (n:=v2.heap.size) (ts:=[48]) hg8 (by simp) [.int .u64 0,.slice a8 n8 c8] 20;have hX9:=TreeAt.sorts hs89 (by decide) (HX7.out.1.below (KeptW.bel v2k));have hch9:=(Hch7.out.below (KeptW.bel v2k)).sorts hs89 (by decide) (by decide);have hrf9:=RefAt.sorts hs89 (Hrf7.out.below (KeptW.bel v2k)) (by decide) (by decide);have hrv9:OwnB (rowSt v2 g 20 [.int .u64 0,.slice a8 n8 c8]) base 5 (.slice a8 n8 c8) (D++[UInt8.ofNat M2.mem]):=ownsRow_sorts hs89 (Ho8.out.mono (Nat.le_trans HMo.out.2.2 (Nat.le_trans Hs7.out.size (KeptW.bel hkd).size))) (by decide);have hs9:Sorts doTs w.heap.size w (rowSt v2 g 20 [.int .u64 0,.slice a8 n8 c8]):=Hs7.out.trans (((sorts_of (KeptW.bel v2k) doTs).trans (hs89.mono (KeptW.bel v2k).size (fun t ht=>by rw [List.mem_singleton] at ht;subst ht;decide))).mono Hs7.out.size (fun t h=>h));have HF:=Lib.hid (And.intro hg9 (And.intro hX9 (And.intro hch9 (And.intro hrf9 (And.intro hrv9 hs9)))));have Hth9:=Lib.hid hth;have HN9:=Lib.hid (fun (n:Nat) (h1:n≤w.heap.size) (h2:n≤g) (h3:n≤p) (h4:n≤base)=>rowSt_below h2 [.int .u64 0,.slice a8 n8 c8] 20 _ ((HN7.out n h1 h2 h3 h4).trans ((KeptW.bel v2k).mono (Nat.le_trans h1 Hs7.out.size))));clear hg8 hth hg9 hs89 hX9 hch9 hrf9 hrv9 hs9;refine RegK.can_frees (fun _=>trivial) ?_;intro K K0 hK hK0;rw [if_pos (by first | (simp [Region.wanted];done) | (go_simp;done))];refine RegK.op_wide rfl ?_;refine wp_store_mid 46 _ _ rfl g 20 ([.int .u64 0,.slice a8 n8 c8]).toArray rfl rfl Hth9.out rc_size (by simp [Value.oneCell']) ?_;rw [show (v2).setCells g 20 ([.int .u64 0,.slice a8 n8 c8]).toArray.toList=rowSt v2 g 20 [.int .u64 0,.slice a8 n8 c8] from st_eq _ _ _];refine hK (fun _=>True) _ _ trivial ?_;clear hK K hK0 K0;generalize rowSt v2 g 20 [.int .u64 0,.slice a8 n8 c8]=w9 at *;refine RegK.can_nil ?_;go_wp2_with fail;refine bodyPost_end (results_none rfl _ _ _) rfl ?_;refine ⟨⟨M2,X.ptr,some ⟨p,0,none⟩,r2,.slice a8 n8 c8⟩,X,cv5,z2,rfl,HF.out.1,by rw [HMo.out.1],⟨HF.out.2.1,rfl,HX7.out.2,rfl,HF.out.2.2.1,HF.out.2.2.2.1,HF.out.2.2.2.2.1⟩,HR.out.2,HF.out.2.2.2.2.2,HN9.out⟩
structure BsI (M0:MacV) (l:List CmdV) (w:World) (b:BsV):Prop where
 tree:∃ X,TreeAt w X∧b.P=X.ptr∧X.sh=b.M.sh
 m:b.M=macsDo M0 (l.take b.top)
 t:b.t=(runC M0 (l.take b.top)).tail
 pos:0<b.top
 le:b.top≤l.length
structure ShI (w:World) (base ps:Nat) (sv:Value) (M0:MacV) (l:List CmdV) (L:List BsV):Prop where
 at_:ShAt w base ps sv L
 len:L.length≤3
 asc:L.Pairwise (fun a b=>a.top<b.top)
 bs:∀ b ∈ L,BsI M0 l w b
def newB (L:List BsV):BsV:=L.getLast?.getD bs0
theorem newB_mem {L:List BsV} (h:L≠[]):newB L ∈ L∧L[L.length - 1]?=some (newB L):=by
 obtain ⟨b,hb⟩:∃ b,L.getLast?=some b:=by
  cases h2:L.getLast? with
  | none=>exact absurd (List.getLast?_eq_none_iff.1 h2) h
  | some b=>exact ⟨b,rfl⟩
 have e:newB L=b:=by unfold newB;rw [hb];rfl
 rw [e];rw [List.getLast?_eq_getElem?] at hb;exact ⟨List.mem_of_getElem? hb,hb⟩
theorem newB_keep (L:List BsV) (b:BsV):newB (keep3 (L++[b]))=b:=by
 unfold newB keep3;rw [List.getLast?_drop,if_neg (by rw [List.length_append,List.length_singleton];omega),List.getLast?_append];rfl
theorem newB_top {w:World} {base ps:Nat} {sv:Value} {M0:MacV} {l:List CmdV} {L:List BsV} (h:ShI w base ps sv M0 l L):(newB L).top≤l.length:=by
 by_cases hL:L=[]
 ·
  subst hL;exact Nat.zero_le _
 ·
  exact (h.bs _ (newB_mem hL).1).le
theorem BsI.sorts {M0:MacV} {l:List CmdV} {w w':World} {b:BsV} {ts:List TypeId} (h:BsI M0 l w b) (hs:Sorts ts w.heap.size w w') (ht:195 ∉ ts):BsI M0 l w' b:=by
 obtain ⟨X,h1,h2,h3⟩:=h.tree;exact ⟨⟨X,TreeAt.sorts hs ht h1,h2,h3⟩,h.m,h.t,h.pos,h.le⟩
theorem BsI.more {M0:MacV} {l:List CmdV} {w:World} {b:BsV} (h:BsI M0 l w b) (c:CmdV):BsI M0 (l++[c]) w b:=by
 have e:(l++[c]).take b.top=l.take b.top:=List.take_append_of_le_length h.le;exact ⟨h.tree,by rw [e];exact h.m,by rw [e];exact h.t,h.pos,by rw [List.length_append];have:=h.le;omega⟩
theorem ShI.sorts {w w':World} {base ps:Nat} {sv:Value} {M0:MacV} {l:List CmdV} {L:List BsV} {ts:List TypeId} (h:ShI w base ps sv M0 l L) (hs:Sorts ts w.heap.size w w') (ht:195 ∉ ts) (h1:114 ∉ ts) (h2:110 ∉ ts):ShI w' base ps sv M0 l L :=
 ⟨h.at_.sorts hs h1 h2,h.len,h.asc,fun b hb=>(h.bs b hb).sorts hs ht⟩
theorem ShI.below {w w':World} {base ps:Nat} {sv:Value} {M0:MacV} {l:List CmdV} {L:List BsV} (h:ShI w base ps sv M0 l L) (hb:Below w.heap.size w w'):ShI w' base ps sv M0 l L :=
 h.sorts (sorts_of hb []) (by simp) (by simp) (by simp)
theorem ShI.more {w:World} {base ps:Nat} {sv:Value} {M0:MacV} {l:List CmdV} {L:List BsV} (h:ShI w base ps sv M0 l L) (c:CmdV):ShI w base ps sv M0 (l++[c]) L:=⟨h.at_,h.len,h.asc,fun b hb=>(h.bs b hb).more c⟩
theorem newest_sh {base ps:Nat} {sv:Value} {L:List BsV} (hl:L.length≤3) {w:World} (h:ShAt w base ps sv L):Calls Tryz.prog 39 #[.pointer (some ⟨ps,0,none⟩)] w fun e w'=>e=.returned (bsV (newB L))∧Below w.heap.size w w':=by
 by_cases hL:L=[]
 ·
  subst hL;exact newest_empty base ps sv w h
 ·
  exact newest_last base ps sv L (newB L) (newB_mem hL).2 (by omega) w h
theorem bs_all {M0:MacV} (h0:MacAll M0) {l:List CmdV} {w:World} {b:BsV} (h:BsI M0 l w b):MacAll b.M∧b.M.all=M0.all∧b.t.length≤3:=by
 rw [h.m,h.t];exact ⟨macsDo_all _ h0,nodes_dos _ _,runC_tail _ _⟩
def PutNew (w:World) (base ps:Nat) (M0:MacV) (l:List CmdV) (L:List BsV) (e:Ending) (w':World):Prop:=∃ sv',e=.returned (.int .i64 0)∧ShI w' base ps sv' M0 l L∧Sorts [114,110] w.heap.size w w'∧∀ n,n≤w.heap.size→n≤ps→n≤base→Below n w w'
theorem keep_asc {L:List BsV} {b:BsV} (h:L.Pairwise (fun a b=>a.top<b.top)) (hb:∀ x ∈ L,x.top<b.top):(keep3 (L++[b])).Pairwise (fun a b=>a.top<b.top):=by
 unfold keep3;refine List.Pairwise.sublist (List.drop_sublist _ _) (List.pairwise_append.2 ⟨h,List.pairwise_singleton _ _,fun x hx y hy=>?_⟩);rw [List.mem_singleton] at hy;subst hy;exact hb x hx
theorem asc_new {L:List BsV} (h:L.Pairwise (fun a b=>a.top<b.top)):∀ x ∈ L,x.top≤(newB L).top:=by
 intro x hx;by_cases hL:L=[]
 ·
  subst hL;cases hx
 ·
  obtain ⟨i,hi,rfl⟩:=List.getElem_of_mem hx;have e:=(newB_mem hL).2;have hlt:L.length - 1<L.length:=by omega
  rw [List.getElem?_eq_getElem hlt] at e;have e2:=Option.some.inj e;rw [← e2];by_cases hil:i=L.length - 1
  ·
   subst hil;exact Nat.le_refl _
  ·
   exact Nat.le_of_lt (List.pairwise_iff_getElem.1 h i (L.length - 1) hi hlt (by omega))
theorem put_new {w:World} {base cb ps p:Nat} {sv cv:Value} {M0:MacV} {l:List CmdV} {L:List BsV} {R:RnV} {T:Tr} {z:List KeptV} (h0:MacAll M0) (hR:RunI w cb R T p cv (runC M0 l).D z) (hM:R.M=macsDo M0 l) (hS:ShI w base ps sv M0 l L) (hlt:(newB L).top<l.length) (hb:base≤w.heap.size) (hl:l.length≤1000) :
  Calls Tryz.prog 11 #[.pointer (some ⟨ps,0,none⟩),.pointer R.c,.agg (macCells R.M R.P).toArray] w (PutNew w base ps M0 l (keep3 (L++[⟨R.M,R.P,l.length,(runC M0 l).tail⟩]))):=by
 have hDl:=runC_len M0 l;have htop:=runC_top M0 l;rw [hR.cp];have hen:endsB (runC M0 l).tail R.M.mem=true:=by
  unfold endsB;rw [runC_tailLast,hM];have:=mem_nat (macsDo_all l h0).fit;simp [this]
 have q:=put_ok ps (some ⟨p,0,none⟩) (newB L) R.M R.P l.length (runC M0 l).tail (by omega) (by have:=runC_tail M0 l;omega) w
  (fun y hy=>newest_sh hS.len (hS.at_.below hy))
  (fun y hy=>by
   have k:=top_any cb p cv ⟨0,(runC M0 l).D⟩ (by rw [hDl];omega) (by rw [hDl];simp;omega) y (hR.ch.below hy);have e:(⟨0,(runC M0 l).D⟩:ChV).top=l.length:=htop;rw [e] at k;exact k)
  (fun y hy=>chtail_any cb p cv ⟨0,(runC M0 l).D⟩ (by rw [hDl];omega) (by rw [hDl];omega) y (hR.ch.below hy))
  hlt hen base sv L hS.at_ hb hS.len
 refine q.mono ?_;rintro e w' ⟨sv',rfl,hsh,hst,hbn⟩;refine ⟨sv',rfl,⟨hsh,?_,?_,?_⟩,hst,hbn⟩
 ·
  unfold keep3;rw [List.length_drop];omega
 ·
  exact keep_asc hS.asc (fun x hx=>Nat.lt_of_le_of_lt (asc_new hS.asc x hx) hlt)
 ·
  intro b hb2;have hb3:b ∈ L++[⟨R.M,R.P,l.length,(runC M0 l).tail⟩]:=List.mem_of_mem_drop hb2;rcases List.mem_append.1 hb3 with hb4 | hb4
  ·
   exact (hS.bs b hb4).sorts hst (by decide)
  ·
   rw [List.mem_singleton] at hb4;subst hb4;refine ⟨⟨T,TreeAt.sorts hst (by decide) hR.t,hR.tp,hR.ts⟩,?_,?_,?_,?_⟩
   ·
    show R.M=macsDo M0 (l.take l.length);rw [List.take_length,hM]
   ·
    show (runC M0 l).tail=(runC M0 (l.take l.length)).tail;rw [List.take_length]
   ·
    show 0<l.length;omega
   ·
    exact Nat.le_refl _
theorem put_old {w:World} {base cb ps p:Nat} {sv cv:Value} {M0:MacV} {l:List CmdV} {L:List BsV} {R:RnV} {T:Tr} {z:List KeptV} (hR:RunI w cb R T p cv (runC M0 l).D z) (hS:ShI w base ps sv M0 l L) (hle:l.length≤(newB L).top) (hl:l.length≤1000) :
  Calls Tryz.prog 11 #[.pointer (some ⟨ps,0,none⟩),.pointer R.c,.agg (macCells R.M R.P).toArray] w fun e w'=>e=.returned (.int .i64 2)∧Below w.heap.size w w':=by
 have hDl:=runC_len M0 l;have htop:=runC_top M0 l;rw [hR.cp];exact put_low ps (some ⟨p,0,none⟩) (newB L) R.M R.P l.length (runC M0 l).tail (by omega) (by have:=runC_tail M0 l;omega) w
  (fun y hy=>newest_sh hS.len (hS.at_.below hy))
  (fun y hy=>by
   have k:=top_any cb p cv ⟨0,(runC M0 l).D⟩ (by rw [hDl];omega) (by rw [hDl];simp;omega) y (hR.ch.below hy);have e:(⟨0,(runC M0 l).D⟩:ChV).top=l.length:=htop;rw [e] at k;exact k)
  (fun y hy=>chtail_any cb p cv ⟨0,(runC M0 l).D⟩ (by rw [hDl];omega) (by rw [hDl];omega) y (hR.ch.below hy))
  hle
def leadV (L:List BsV) (n:Nat):LmV × Bool :=
 if (newB L).top≤n then (lm0,false) else
 match L.find? (fun b=>b.top == n) with
 | some b=>(⟨13,n,(newB L).top,leadB (newB L).t b.M (newB L).M⟩,true)
 | none=>(⟨12,0,(newB L).top,textB (newB L).t (newB L).M⟩,true)
theorem lead_any {w:World} {base ps:Nat} {sv:Value} {M0:MacV} {l:List CmdV} {L:List BsV} (h0:MacAll M0) (hS:ShI w base ps sv M0 l L) (hl:l.length≤1000) (n:Nat) :
  Calls Tryz.prog 9 #[.pointer (some ⟨ps,0,none⟩),.int .u64 (n:Int)] w fun e w'=>e=.returned (.tuple #[lmV (leadV L n).1,.bool (leadV L n).2])∧Below w.heap.size w w':=by
 unfold leadV;by_cases hn:(newB L).top≤n
 ·
  rw [if_pos hn];exact lead_none (some ⟨ps,0,none⟩) (newB L) n hn w (fun y hy=>newest_sh hS.len (hS.at_.below hy))
 ·
  rw [if_neg hn];have hL:L≠[]:=by
   rintro rfl;exact hn (Nat.zero_le _)
  obtain ⟨hm,hlast⟩:=newB_mem hL;obtain ⟨c1,c2,c3⟩:=bs_all h0 (hS.bs _ hm);obtain ⟨Y,hY,hYp,hYs⟩:=(hS.bs _ hm).tree;have hct:(newB L).top<18446744073709551616:=by have:=(hS.bs _ hm).le;omega
  cases hf:L.find? (fun b=>b.top == n) with
  | none =>
   refine lead_snap base ps sv L (newB L) hlast (by have:=hS.len;omega) n (by omega) (fun x hx e=>?_) c1.fit (by omega) Y hYp hYs w hS.at_ hY;have k:=List.find?_eq_none.1 hf x hx;simp [e] at k
  | some b =>
   obtain ⟨J,hJ,hJb,hlo⟩:=List.find?_eq_some_iff_getElem.1 hf |>.2
   have hbm:b ∈ L:=List.mem_of_find?_eq_some hf;have hbn:b.top=n:=by have:=List.find?_some hf;simpa using this
   obtain ⟨b1,b2,b3⟩:=bs_all h0 (hS.bs _ hbm);obtain ⟨X,hX,hXp,hXs⟩:=(hS.bs _ hbm).tree;refine lead_delta base ps sv L (newB L) hlast (by have:=hS.len;omega) n (by omega) J b (by rw [List.getElem?_eq_getElem hJ,hJb]) hbn (fun i x hi hx e=>?_) X Y b1 c1 (by rw [b2,c2]) c3 hct hXp hYp hXs hYs w hS.at_ hX hY;have hiL:i<L.length:=(List.getElem?_eq_some_iff.1 hx).1;have k:=hlo i hi;rw [List.getElem?_eq_getElem hiL] at hx;cases hx
   simp [e] at k
def newV (L:List BsV):Value:=.tuple #[.int .u64 ((newB L).top:Int),.string ⟨(if (newB L).top=0 then [] else textB (newB L).t (newB L).M).toArray⟩]
theorem newest_tells {w:World} {base ps:Nat} {sv:Value} {M0:MacV} {l:List CmdV} {L:List BsV} (h0:MacAll M0) (hS:ShI w base ps sv M0 l L) :
  Calls Tryz.prog 10 #[.pointer (some ⟨ps,0,none⟩)] w fun e w'=>e=.returned (newV L)∧Below w.heap.size w w':=by
 unfold newV;by_cases hz:(newB L).top=0
 ·
  rw [if_pos hz,hz];exact lnewest_zero _ (newB L) hz w (newest_sh hS.len hS.at_)
 ·
  rw [if_neg hz];have hL:L≠[]:=by
   rintro rfl;exact hz rfl
  obtain ⟨hm,hlast⟩:=newB_mem hL;obtain ⟨c1,c2,c3⟩:=bs_all h0 (hS.bs _ hm);obtain ⟨Y,hY,hYp,hYs⟩:=(hS.bs _ hm).tree;exact lnewest_some _ (newB L) Y (by omega) c1.fit (by omega) hYp hYs w hY (newest_sh hS.len hS.at_)
end Go.Proofs.YtbckjgageofldaaGreat
