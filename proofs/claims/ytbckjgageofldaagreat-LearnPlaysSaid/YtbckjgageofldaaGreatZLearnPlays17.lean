/- The document's machine: its bytes (ref13.Bytes). Condition: codes are bytes, keys and values are not great. -/
import Derived.Test.YtbckjgageofldaaGreatZLearnPlays16
import Derived.Test.YtbckjgageofldaaGreatZLearnPlays14
import Derived.Test.YtbckjgageofldaaGreatZLearnPlays6
import Derived.Deep.DeepCutAuto
import Derived.Test.YtbckjgageofldaaGreatZLearnPlays7
set_option maxRecDepth 100000
namespace Go.Proofs.YtbckjgageofldaaGreat
open Go.RowKit
structure RefM where
 A:Option Addr
 n:Nat
 c:Nat
 all:Nat
 mem:Nat
 B:Option Addr
 k:Nat
 d:Nat
def refCells (r:RefM):List Value:=[.slice r.A r.n r.c,.int .u8 (r.all:Int),.int .u8 (r.mem:Int),.slice r.B r.k r.d]
structure RefAt (w:World) (r:RefM) (M:MacV) (z:List KeptV):Prop where
 pairs:PairsAt w r.A r.n M.sh.kv
 keeps:KeptsAt w r.B r.k z
 all:r.all=M.all
 mem:r.mem=M.mem
 tab:KeptTab M.tab z
 ok:POk r.A r.n r.c
 ty:PTy w r.A
 asc:Asc M.sh.kv
 nilB:r.B=none→r.k=0∧r.d=0
 kty:STy w 179 r.B
theorem RefAt.below {w w':World} {r:RefM} {M:MacV} {z:List KeptV} (h:RefAt w r M z) (hb:Below w.heap.size w w'):RefAt w' r M z:=⟨h.pairs.below hb,h.keeps.below hb,h.all,h.mem,h.tab,h.ok,h.ty.below hb,h.asc,h.nilB,h.kty.below hb⟩
theorem ref_eta (r:RefM):(refCells r).toArray=#[.slice r.A r.n r.c,.int .u8 (r.all:Int),.int .u8 (r.mem:Int),.slice r.B r.k r.d]:=rfl
def RefRow (w:World) (g:Nat) (r:RefM):Prop:=w.heap[g]?=some (.cells (refCells r).toArray 43 (0,0))
theorem RefRow.cells {w:World} {g:Nat} {r:RefM} (h:RefRow w g r):w.cell? ⟨g,0,none⟩=some (.slice r.A r.n r.c)∧w.cell? ⟨g,1,none⟩=some (.int .u8 (r.all:Int))∧w.cell? ⟨g,2,none⟩=some (.int .u8 (r.mem:Int))∧w.cell? ⟨g,3,none⟩=some (.slice r.B r.k r.d) :=
 ⟨cell_of_row _ _ _ _ _ _ h,cell_of_row _ _ _ _ _ _ h,cell_of_row _ _ _ _ _ _ h,cell_of_row _ _ _ _ _ _ h⟩
theorem RefRow.lt {w:World} {g:Nat} {r:RefM} (h:RefRow w g r):g<w.heap.size:=(Array.getElem?_eq_some_iff.1 h).1
theorem RefRow.below {w w':World} {g:Nat} {r:RefM} (h:RefRow w g r) (hb:Below w.heap.size w w'):RefRow w' g r:=(hb.block g h.lt).trans h
theorem RefRow.thawed {w:World} {g:Nat} {r:RefM} (h:RefRow w g r) (j:Nat):w.frozen? ⟨g,j,none⟩=false:=by
 unfold RefRow at h;simp [World.frozen?,h]
theorem pairsB_take {L:List (ByteArray × ByteArray)} {i:Nat} (hi:i<L.length):pairsB (L.take (i+1))=pairsB (L.take i)++(strL (L.getD i pdflt).1++strL (L.getD i pdflt).2):=by
 rw [List.take_succ_eq_append_getElem hi,pairsB_app];simp [pairsB,List.getD,List.getElem?_eq_getElem hi]
set_option maxHeartbeats 16000000 in
theorem rbytes_any (r:RefM) (M:MacV) (z:List KeptV) (hM:MacBy M) (w:World) (h:RefAt w r M z) :
  Calls Tryz.prog 62 #[.agg (refCells r).toArray] w fun e w'=>e=.returned (.string ⟨(macB M).toArray⟩)∧Below w.heap.size w w':=by
 have hr1:RefRow (w.alloc (.cells (refCells r).toArray 43)) w.heap.size r:=heap_alloc_new _ _;have hb1:=(Below.refl w.heap.size w).alloc (Nat.le_refl _) (.cells (refCells r).toArray 43);have hn:r.n=M.sh.cnt:=by rw [cnt_kv, ← h.pairs.hlen]
 have hcnt:=hM.num;rw [← hn] at hcnt;have H:=Lib.hid h;clear h
 have Hn:=Lib.hid hn;clear hn
 rw [ref_eta];go_enter Tryz.func62,Tryz.ntmps62
 go_upto_region 1 with fail;change Code.wp _ _ _ _ (w.alloc (.cells (refCells r).toArray 43));generalize w.alloc (.cells (refCells r).toArray 43)=w1 at *;have Hr1:=Lib.hid hr1;clear hr1
 have Hb1:=Lib.hid hb1;clear hb1
 have h8a:((UInt8.ofNat r.all).toNat:Int)=(r.all:Int):=by have:=hM.all;have:=H.out.all;simp;omega
 have h8b:((UInt8.ofNat r.mem).toNat:Int)=(r.mem:Int):=by have:=hM.mem;have:=H.out.mem;simp;omega
 have Htwo:=Lib.hid (fun y:World=>(show ReadB (y.alloc (.cells #[.int .u8 (r.all:Int),.int .u8 (r.mem:Int)] 5)) (.slice (some ⟨y.heap.size,0,none⟩) 2 2) [UInt8.ofNat r.all,UInt8.ofNat r.mem] from ReadB.cells y [UInt8.ofNat r.all,UInt8.ofNat r.mem] 5 _ (by rw [← h8a, ← h8b];rfl) 2));clear h8a h8b;have Htab:=Lib.hid (fun (y:World) (hy:Below w.heap.size w y)=>rtab_any r.B r.k r.d z M.tab H.out.tab hM.tab y (H.out.keeps.below hy));have Hnum:=Lib.hid (fun y:World=>rnum_any r.n (by omega) y);have hC2:(⟨[UInt8.ofNat r.all,UInt8.ofNat r.mem].toArray⟩:ByteArray).size=2:=rfl;have hTB:(⟨(tabB M.tab 4).toArray⟩:ByteArray).size≤17000:=by rw [bs_size];have:=tabB_len hM.tab 4;omega
 have hNL:(⟨(numL r.n).toArray⟩:ByteArray).size≤9:=by rw [bs_size];exact (numL_len r.n).1
 obtain ⟨C2,hCe⟩:∃ S:ByteArray,(⟨[UInt8.ofNat r.all,UInt8.ofNat r.mem].toArray⟩:ByteArray)=S:=⟨_,rfl⟩;obtain ⟨TB,hTe⟩:∃ S:ByteArray,(⟨(tabB M.tab 4).toArray⟩:ByteArray)=S:=⟨_,rfl⟩;obtain ⟨NL,hNe⟩:∃ S:ByteArray,(⟨(numL r.n).toArray⟩:ByteArray)=S:=⟨_,rfl⟩;have hhead:(⟨(macHead M).toArray⟩:ByteArray)=C2++TB++NL:=by
  unfold macHead;rw [← str_app2, ← str_app2, ← hCe, ← hTe, ← hNe,H.out.all,H.out.mem,Hn.out]
 rw [hTe] at Htab hTB;rw [hNe] at Hnum hNL;rw [hCe] at hC2;have HCe:=Lib.hid hCe;have Hhead:=Lib.hid hhead;clear hhead hCe hTe hNe
 have hCT:(C2++TB).size≤17002:=by rw [ByteArray.size_append];omega
 have hwrap:IntKind.u64.wrap (r.n:Int)=(r.n:Int):=by rw [IntKind.wrap_u64];omega
 go_cut [3] (fun s3 wx=>s3=.string (C2++TB++NL)∧RefRow wx w.heap.size r∧Below w.heap.size w wx)
 case first =>
  refine (wpIn_wide (n:=1)).1 ?_;refine RegJ.wpIn_region_plan (F:=Fence.wide) (KeptW w1) (.step 0 0 (.step 1 0 (.step 2 0 (.step 3 0 (.step 6 0 (.step 7 0 (.step 10 0 (.step 11 0 (.step 12 0 (.step 13 0
   (.fork 4 (.step 5 0 (.step 8 1 (.step 9 0 (.step 14 1 (.step 15 0 (.step 16 0 .nil)))))) 8 (.fork 4 (.step 5 0 (.step 9 0 (.step 14 1 (.step 15 0 (.step 16 0 .nil))))) 14 (.step 4 1 (.step 5 0 (.step 9 0 (.step 15 0 (.step 16 0 .nil)))))))))))))))))
   (by kernel_rfl) (by kernel_rfl) (by kernel_rfl) (fun _ _ d _ _ h=>by cases d <;> exact h) ⟨rfl,rfl,rfl,Nat.le_refl _,fun _ _=>rfl⟩ ?_
  dsimp only [RegJ.pickJ,List.getElem?_cons_zero,List.getElem?_cons_succ];change RegJ.Can _ _ _ _ _ _ _ _ w1.drew;have hkd:KeptW w1 w1.drew:=⟨rfl,rfl,rfl,Nat.le_refl _,fun _ _=>rfl⟩;generalize w1.drew=w5 at *;refine RegJ.reads ?_;intro K hK;go_simp;refine ⟨_,fun _ _=>rfl,hK _ ?_⟩;clear hK K;refine RegJ.reads ?_;intro K hK;go_simp;refine ⟨.int .u8 (r.all:Int),fun y hy=>?_,hK _ ?_⟩
  ·
   have f0:=(Hr1.out.below (KeptW.bel hy)).cells.2.1;go_simp
  clear hK K;refine RegJ.reads ?_;intro K hK;go_simp;refine ⟨_,fun _ _=>rfl,hK _ ?_⟩;clear hK K;refine RegJ.reads ?_;intro K hK;go_simp;refine ⟨.int .u8 (r.mem:Int),fun y hy=>?_,hK _ ?_⟩
  ·
   have f0:=(Hr1.out.below (KeptW.bel hy)).cells.2.2.1;go_simp
  clear hK K;refine RegJ.reads ?_;intro K hK;go_simp;refine ⟨_,fun _ _=>rfl,hK _ ?_⟩;clear hK K;refine RegJ.reads ?_;intro K hK;go_simp;refine ⟨.slice r.B r.k r.d,fun y hy=>?_,hK _ ?_⟩
  ·
   have f0:=(Hr1.out.below (KeptW.bel hy)).cells.2.2.2;go_simp
  clear hK K;refine RegJ.reads ?_;intro K hK;go_simp;refine ⟨_,fun _ _=>rfl,hK _ ?_⟩;clear hK K;refine RegJ.reads ?_;intro K hK;go_simp;refine ⟨.slice r.A r.n r.c,fun y hy=>?_,hK _ ?_⟩
  ·
   have f0:=(Hr1.out.below (KeptW.bel hy)).cells.1;go_simp
  clear hK K;refine RegJ.reads ?_;intro K hK;go_simp;refine ⟨_,fun _ _=>rfl,hK _ ?_⟩;clear hK K;refine RegJ.reads ?_;intro K hK;go_simp;refine ⟨.int .u64 (r.n:Int),fun _ _=>?_,hK _ ?_⟩
  ·
   first | rfl | rw [hwrap]
  clear hK K;clear hwrap;refine RegJ.forks ?_ ?_
  ·
   skip
   refine RegJ.turns (fun _=>trivial) ?_;intro K K0 hK hK0;go_simp;have hbq:=(Below.refl w5.heap.size w5).alloc (Nat.le_refl _) (.cells #[.int .u8 (r.all:Int),.int .u8 (r.mem:Int)] 5);have q1k:KeptW w1 (w5.alloc (.cells #[.int .u8 (r.all:Int),.int .u8 (r.mem:Int)] 5)):=KeptW.mono hkd hbq;have hone:=Htwo.out w5;refine hK (KeptW (w5.alloc (.cells #[.int .u8 (r.all:Int),.int .u8 (r.mem:Int)] 5))) _ (w5.alloc (.cells #[.int .u8 (r.all:Int),.int .u8 (r.mem:Int)] 5)) (fun y hy=>KeptW.mono q1k (KeptW.bel hy)) (Below.refl _ _) ?_;clear hK K hK0 K0 hbq;generalize w5.alloc (.cells #[.int .u8 (r.all:Int),.int .u8 (r.mem:Int)] 5)=q1 at *
   generalize w5.heap.size=gq at *;refine RegJ.reads ?_;intro K hK;go_simp;refine ⟨.string C2,fun y hy=>?_,hK _ ?_⟩
   ·
    have hcv:=(hone.below (KeptW.bel hy)).conv Tryz.underlying44 Tryz.underlying5 Tryz.underlying9;rw [HCe.out] at hcv;rw [hcv];rfl
   clear hK K;clear hone;refine RegJ.turns (fun _=>trivial) ?_;intro K K0 hK hK0;go_simp;refine ⟨trivial,?_⟩;refine (callsIn_wide.2 (Htab.out q1 (Hb1.out.trans ((KeptW.bel q1k).mono Hb1.out.size)))).mono ?_;rintro e w7 ⟨rfl,hb7⟩;have w7k:KeptW w1 w7:=KeptW.mono q1k hb7;refine hK _ _ _ (fun _ h=>h) (show KeptW q1 w7 from hb7) ?_;clear hK K hK0 K0;refine RegJ.reads ?_;intro K hK;go_simp;refine ⟨.string (C2++TB),fun _ _=>?_,hK _ ?_⟩
   ·
    first | rfl | (rw [if_neg (by omega)]) | (rw [if_neg (by rw [ByteArray.size_append] at hCT;omega)])
   clear hK K;refine RegJ.turns (fun _=>trivial) ?_;intro K K0 hK hK0;go_simp;refine ⟨trivial,?_⟩;refine (callsIn_wide.2 (Hnum.out w7)).mono ?_;rintro e w8 ⟨rfl,hb7⟩;have w8k:KeptW w1 w8:=KeptW.mono w7k hb7;refine hK _ _ _ (fun _ h=>h) (show KeptW q1 w8 from KeptW.mono (show KeptW q1 w7 from by assumption) hb7) ?_;clear hK K hK0 K0;refine RegJ.reads ?_;intro K hK;go_simp;refine ⟨.string (C2++TB++NL),fun _ _=>?_,hK _ ?_⟩
   ·
    first | rfl | (rw [if_neg (by omega)]) | (rw [if_neg (by rw [ByteArray.size_append] at hCT;omega)])
   clear hK K;refine RegJ.reads ?_;intro K hK;go_simp;refine ⟨_,fun _ _=>rfl,hK _ ?_⟩;clear hK K;refine RegJ.nil ?_;have Hbe:=Lib.hid (Hb1.out.trans ((KeptW.bel w8k).mono Hb1.out.size));have HrE:=Lib.hid (Hr1.out.below (KeptW.bel w8k));go_wp2_with fail;go_meet
   exact ⟨rfl,HrE.out,Hbe.out⟩
  ·
   skip
   refine RegJ.turns (fun _=>trivial) ?_;intro K K0 hK hK0;go_simp;refine ⟨trivial,?_⟩;refine (callsIn_wide.2 (Htab.out w5 (Hb1.out.trans ((KeptW.bel hkd).mono Hb1.out.size)))).mono ?_;rintro e w7 ⟨rfl,hb7⟩;have w7k:KeptW w1 w7:=KeptW.mono hkd hb7;refine hK _ _ _ (fun _ h=>h) w7k ?_;clear hK K hK0 K0;refine RegJ.forks ?_ ?_
   ·
    skip
    refine RegJ.turns (fun _=>trivial) ?_;intro K K0 hK hK0;go_simp;have hbq:=(Below.refl w7.heap.size w7).alloc (Nat.le_refl _) (.cells #[.int .u8 (r.all:Int),.int .u8 (r.mem:Int)] 5);have q1k:KeptW w1 (w7.alloc (.cells #[.int .u8 (r.all:Int),.int .u8 (r.mem:Int)] 5)):=KeptW.mono w7k hbq;have hone:=Htwo.out w7;refine hK (KeptW (w7.alloc (.cells #[.int .u8 (r.all:Int),.int .u8 (r.mem:Int)] 5))) _ (w7.alloc (.cells #[.int .u8 (r.all:Int),.int .u8 (r.mem:Int)] 5)) (fun y hy=>KeptW.mono q1k (KeptW.bel hy)) (Below.refl _ _) ?_;clear hK K hK0 K0 hbq;generalize w7.alloc (.cells #[.int .u8 (r.all:Int),.int .u8 (r.mem:Int)] 5)=q1 at *
    generalize w7.heap.size=gq at *;refine RegJ.reads ?_;intro K hK;go_simp;refine ⟨.string C2,fun y hy=>?_,hK _ ?_⟩
    ·
     have hcv:=(hone.below (KeptW.bel hy)).conv Tryz.underlying44 Tryz.underlying5 Tryz.underlying9;rw [HCe.out] at hcv;rw [hcv];rfl
    clear hK K;clear hone;refine RegJ.reads ?_;intro K hK;go_simp;refine ⟨.string (C2++TB),fun _ _=>?_,hK _ ?_⟩
    ·
     first | rfl | (rw [if_neg (by omega)]) | (rw [if_neg (by rw [ByteArray.size_append] at hCT;omega)])
    clear hK K;refine RegJ.turns (fun _=>trivial) ?_;intro K K0 hK hK0;go_simp;refine ⟨trivial,?_⟩;refine (callsIn_wide.2 (Hnum.out q1)).mono ?_;rintro e w8 ⟨rfl,hb7⟩;have w8k:KeptW w1 w8:=KeptW.mono q1k hb7;refine hK _ _ _ (fun _ h=>h) (show KeptW q1 w8 from hb7) ?_;clear hK K hK0 K0;refine RegJ.reads ?_;intro K hK;go_simp;refine ⟨.string (C2++TB++NL),fun _ _=>?_,hK _ ?_⟩
    ·
     first | rfl | (rw [if_neg (by omega)]) | (rw [if_neg (by rw [ByteArray.size_append] at hCT;omega)])
    clear hK K;refine RegJ.reads ?_;intro K hK;go_simp;refine ⟨_,fun _ _=>rfl,hK _ ?_⟩;clear hK K;refine RegJ.nil ?_;have Hbe:=Lib.hid (Hb1.out.trans ((KeptW.bel w8k).mono Hb1.out.size));have HrE:=Lib.hid (Hr1.out.below (KeptW.bel w8k));go_wp2_with fail;go_meet
    exact ⟨rfl,HrE.out,Hbe.out⟩
   ·
    skip
    refine RegJ.turns (fun _=>trivial) ?_;intro K K0 hK hK0;go_simp;refine ⟨trivial,?_⟩;refine (callsIn_wide.2 (Hnum.out w7)).mono ?_;rintro e w8 ⟨rfl,hb7⟩;have w8k:KeptW w1 w8:=KeptW.mono w7k hb7;refine hK _ _ _ (fun _ h=>h) w8k ?_;clear hK K hK0 K0;refine RegJ.turns (fun _=>trivial) ?_;intro K K0 hK hK0;go_simp;have hbq:=(Below.refl w8.heap.size w8).alloc (Nat.le_refl _) (.cells #[.int .u8 (r.all:Int),.int .u8 (r.mem:Int)] 5);have q1k:KeptW w1 (w8.alloc (.cells #[.int .u8 (r.all:Int),.int .u8 (r.mem:Int)] 5)):=KeptW.mono w8k hbq;have hone:=Htwo.out w8;refine hK (KeptW (w8.alloc (.cells #[.int .u8 (r.all:Int),.int .u8 (r.mem:Int)] 5))) _ (w8.alloc (.cells #[.int .u8 (r.all:Int),.int .u8 (r.mem:Int)] 5)) (fun y hy=>KeptW.mono q1k (KeptW.bel hy)) (Below.refl _ _) ?_;clear hK K hK0 K0 hbq;generalize w8.alloc (.cells #[.int .u8 (r.all:Int),.int .u8 (r.mem:Int)] 5)=q1 at *
    generalize w8.heap.size=gq at *;refine RegJ.reads ?_;intro K hK;go_simp;refine ⟨.string C2,fun y hy=>?_,hK _ ?_⟩
    ·
     have hcv:=(hone.below (KeptW.bel hy)).conv Tryz.underlying44 Tryz.underlying5 Tryz.underlying9;rw [HCe.out] at hcv;rw [hcv];rfl
    clear hK K;clear hone;refine RegJ.reads ?_;intro K hK;go_simp;refine ⟨.string (C2++TB),fun _ _=>?_,hK _ ?_⟩
    ·
     first | rfl | (rw [if_neg (by omega)]) | (rw [if_neg (by rw [ByteArray.size_append] at hCT;omega)])
    clear hK K;refine RegJ.reads ?_;intro K hK;go_simp;refine ⟨.string (C2++TB++NL),fun _ _=>?_,hK _ ?_⟩
    ·
     first | rfl | (rw [if_neg (by omega)]) | (rw [if_neg (by rw [ByteArray.size_append] at hCT;omega)])
    clear hK K;refine RegJ.reads ?_;intro K hK;go_simp;refine ⟨_,fun _ _=>rfl,hK _ ?_⟩;clear hK K;refine RegJ.nil ?_;have Hbe:=Lib.hid (Hb1.out.trans ((KeptW.bel q1k).mono Hb1.out.size));have HrE:=Lib.hid (Hr1.out.below (KeptW.bel q1k));go_wp2_with fail;go_meet
    exact ⟨rfl,HrE.out,Hbe.out⟩
 case rest =>
 obtain ⟨rfl,hrx,hbx⟩:=hcut;have Hrx:=Lib.hid hrx;clear hrx
 have Hbx:=Lib.hid hbx;clear hbx Hb1 Hr1 Htwo Htab Hnum
 generalize wc=w2 at *;have Hcn:=Lib.hid hcnt;clear hcnt
 go_wp2_with fail;go_loopw [3,4] (fun s3 s4 wr=>∃ i:Nat,i≤r.n∧s4=.int .i64 (i:Int)∧s3=.string ⟨(macHead M++pairsB (M.sh.kv.take i)).toArray⟩∧RefRow wr w.heap.size r∧Below w.heap.size w wr) (fun _ s4 _=>r.n - (intOf s4).toNat)
 case atStart=>exact ⟨0,by omega,rfl,by rw [← Hhead.out];simp [pairsB],Hrx.out,Hbx.out⟩
 case round =>
  clear Hrx Hbx;obtain ⟨i,hi,rfl,rfl,hr,hb⟩:=hrel;have Hr:=Lib.hid hr;clear hr
  have Hb:=Lib.hid hb;clear hb
  obtain ⟨q0,q1,q2,q3⟩:=Hr.out.cells;by_cases hlt:i<r.n
  ·
   have hlt':(i:Int)<(r.n:Int):=by omega
   have hsucc:=tsucc (n:=i) (by have:=Hcn.out;omega);have hkvl:M.sh.kv.length=r.n:=H.out.pairs.hlen;obtain ⟨b,o,hA,hbl,c0,c1⟩:=pairs_get (H.out.pairs.below Hb.out) hlt;have hst:=pairsB_take (L:=M.sh.kv) (i:=i) (by omega);have hpo:PairOk (M.sh.kv.getD i pdflt):=hM.kv _ (by rw [List.getD,List.getElem?_eq_getElem (by omega)];exact List.getElem_mem _);have hpl:=pairsB_len (M.sh.kv.take i) (fun p hp=>hM.kv p (List.mem_of_mem_take hp));have hhl:=macHead_len hM;rw [List.length_take] at hpl;obtain ⟨⟨xk,xv⟩,hx⟩:∃ x,M.sh.kv.getD i pdflt=x:=⟨_,rfl⟩;rw [hx] at c0 c1 hst hpo;clear hx;simp only at c0 c1 hst;have hx1:xk.size≤4096:=hpo.1;have hx2:xv.size≤4096:=hpo.2;have Hst:=Lib.hid hst;clear hst hpo
   have hS:(⟨(macHead M++pairsB (M.sh.kv.take i)).toArray⟩:ByteArray).size≤8400000000:=by rw [bs_size,List.length_append];have:=Hcn.out;omega
   have hK1:(⟨(strL xk).toArray⟩:ByteArray).size≤4200:=by rw [bs_size];have:=strL_len xk;omega
   have hV1:(⟨(strL xv).toArray⟩:ByteArray).size≤4200:=by rw [bs_size];have:=strL_len xv;omega
   have Hs1:=Lib.hid (fun y:World=>rstr_any xk (by omega) y);have Hs2:=Lib.hid (fun y:World=>rstr_any xv (by omega) y);obtain ⟨S,hSe⟩:∃ S:ByteArray,(⟨(macHead M++pairsB (M.sh.kv.take i)).toArray⟩:ByteArray)=S:=⟨_,rfl⟩;obtain ⟨K1,hKe⟩:∃ S:ByteArray,(⟨(strL xk).toArray⟩:ByteArray)=S:=⟨_,rfl⟩;obtain ⟨V1,hVe⟩:∃ S:ByteArray,(⟨(strL xv).toArray⟩:ByteArray)=S:=⟨_,rfl⟩;have Hend:=Lib.hid (show (⟨(macHead M++pairsB (M.sh.kv.take (i+1))).toArray⟩:ByteArray)=S++K1++V1 by
    rw [Hst.out, ← List.append_assoc, ← List.append_assoc, ← str_app2, ← str_app2,hSe,hKe,hVe])
   rw [hSe] at hS ⊢;rw [hKe] at Hs1 hK1;rw [hVe] at Hs2 hV1;have hSK:(S++K1).size≤8400004200:=by rw [ByteArray.size_append];omega
   clear hSe hKe hVe Hst hpl hhl hkvl;have HA:=Lib.hid hA;clear hA
   have Hc0:=Lib.hid (fun (y:World) (hy:Below wr.heap.size wr y)=>(hy.cell (p:=⟨b,o+i*2,none⟩) hbl).trans c0);have Hc1:=Lib.hid (fun (y:World) (hy:Below wr.heap.size wr y)=>(hy.cell (p:=⟨b,o+i*2+1,none⟩) hbl).trans c1);clear c0 c1;go_upto_region 5 with fail;clear q0 q1 q2 q3;refine (wpIn_wide (n:=1)).1 ?_;refine RegJ.wpIn_region_plan (F:=Fence.wide) (KeptW wr) (.step 0 0 (.step 1 0 (.step 2 0 (.step 3 0 (.step 4 0 (.step 5 0 (.step 6 0 (.step 9 0 (.step 10 0 (.step 11 0 (.step 12 0 (.step 13 0 (.step 14 0 (.step 7 1 (.step 8 0 (.step 15 1 (.step 16 0 (.step 17 0 .nil)))))))))))))))))) (by kernel_rfl) (by kernel_rfl) (by kernel_rfl) (fun _ _ d _ _ h=>by cases d <;> exact h) ⟨rfl,rfl,rfl,Nat.le_refl _,fun _ _=>rfl⟩ ?_;dsimp only [RegJ.pickJ,List.getElem?_cons_zero,List.getElem?_cons_succ];change RegJ.Can _ _ _ _ _ _ _ _ wr.drew;have hkd:KeptW wr wr.drew:=⟨rfl,rfl,rfl,Nat.le_refl _,fun _ _=>rfl⟩;generalize wr.drew=w5 at *;refine RegJ.reads ?_;intro K hK;go_simp;refine ⟨_,fun _ _=>rfl,hK _ ?_⟩;clear hK K;refine RegJ.reads ?_;intro K hK;go_simp;refine ⟨_,fun _ _=>rfl,hK _ ?_⟩;clear hK K;refine RegJ.reads ?_;intro K hK;go_simp;refine ⟨.slice (some ⟨b,o,none⟩) r.n r.c,fun y hy=>?_,hK _ ?_⟩
   ·
    have f0:=(Hr.out.below (KeptW.bel hy)).cells.1;rw [HA.out] at f0;go_simp
   clear hK K;refine RegJ.reads ?_;intro K hK;go_simp;refine ⟨_,fun _ _=>rfl,hK _ ?_⟩;clear hK K;refine RegJ.reads ?_;intro K hK;go_simp;refine ⟨_,fun _ _=>rfl,hK _ ?_⟩;clear hK K;refine RegJ.reads ?_;intro K hK;go_simp;refine ⟨_,fun _ _=>rfl,hK _ ?_⟩;clear hK K;refine RegJ.reads ?_;intro K hK;go_simp;refine ⟨.string xk,fun y hy=>?_,hK _ ?_⟩
   ·
    have f0:=Hc0.out y (KeptW.bel hy);go_simp
   clear hK K;refine RegJ.reads ?_;intro K hK;go_simp;refine ⟨_,fun _ _=>rfl,hK _ ?_⟩;clear hK K;refine RegJ.reads ?_;intro K hK;go_simp;refine ⟨.slice (some ⟨b,o,none⟩) r.n r.c,fun y hy=>?_,hK _ ?_⟩
   ·
    have f0:=(Hr.out.below (KeptW.bel hy)).cells.1;rw [HA.out] at f0;go_simp
   clear hK K;refine RegJ.reads ?_;intro K hK;go_simp;refine ⟨_,fun _ _=>rfl,hK _ ?_⟩;clear hK K;refine RegJ.reads ?_;intro K hK;go_simp;refine ⟨_,fun _ _=>rfl,hK _ ?_⟩;clear hK K;refine RegJ.reads ?_;intro K hK;go_simp;refine ⟨_,fun _ _=>rfl,hK _ ?_⟩;clear hK K;refine RegJ.reads ?_;intro K hK;go_simp;refine ⟨.string xv,fun y hy=>?_,hK _ ?_⟩
   ·
    have f0:=Hc1.out y (KeptW.bel hy);go_simp
   clear hK K;refine RegJ.turns (fun _=>trivial) ?_;intro K K0 hK hK0;go_simp;refine ⟨trivial,?_⟩;refine (callsIn_wide.2 (Hs1.out w5)).mono ?_;rintro e w6 ⟨rfl,hb7⟩;have w6k:KeptW wr w6:=KeptW.mono hkd hb7;refine hK _ _ _ (fun _ h=>h) w6k ?_;clear hK K hK0 K0 hb7;refine RegJ.reads ?_;intro K hK;go_simp;refine ⟨.string (S++K1),fun _ _=>?_,hK _ ?_⟩
   ·
    first | rfl | (rw [if_neg (by omega)]) | (rw [if_neg (by rw [ByteArray.size_append] at hSK;omega)])
   clear hK K;refine RegJ.turns (fun _=>trivial) ?_;intro K K0 hK hK0;go_simp;refine ⟨trivial,?_⟩;refine (callsIn_wide.2 (Hs2.out w6)).mono ?_;rintro e w7 ⟨rfl,hb7⟩;have w7k:KeptW wr w7:=KeptW.mono w6k hb7;refine hK _ _ _ (fun _ h=>h) w7k ?_;clear hK K hK0 K0 hb7;refine RegJ.reads ?_;intro K hK;go_simp;refine ⟨.string (S++K1++V1),fun _ _=>?_,hK _ ?_⟩
   ·
    first | rfl | (rw [if_neg (by omega)]) | (rw [if_neg (by rw [ByteArray.size_append] at hSK;omega)])
   clear hK K;refine RegJ.reads ?_;intro K hK;go_simp;refine ⟨_,fun _ _=>rfl,hK _ ?_⟩;clear hK K;refine RegJ.nil ?_;have Hbe:=Lib.hid (Hb.out.trans ((KeptW.bel w7k).mono Hb.out.size));have HrE:=Lib.hid (Hr.out.below (KeptW.bel w7k));go_wp2_with fail;go_roundw
   case rel=>exact ⟨i+1,hlt,rfl,by rw [Hend.out],HrE.out,Hbe.out⟩
   case measure=>simp [intOf];omega
  ·
   have hlt' : ¬ (i:Int)<(r.n:Int):=by omega
   have hkvl:M.sh.kv.length=r.n:=H.out.pairs.hlen;have Hall:=Lib.hid (show (⟨(macHead M++pairsB (M.sh.kv.take i)).toArray⟩:ByteArray)=⟨(macB M).toArray⟩ by unfold macB;rw [List.take_of_length_le (by omega)]);clear hkvl;go_wp2_with fail;go_ret;exact ⟨by rw [← Hall.out];rfl,Hb.out⟩
def lstB (s:Nat):Nat→List UInt8
 | 0=>[]
 | i+1=>lstB s i++(if s / 2 ^ i % 2=1 then [UInt8.ofNat i] else [])
theorem lstB_len (s:Nat):∀ i,(lstB s i).length≤i
 | 0=>Nat.le_refl _
 | i+1=>by
  have:=lstB_len s i;unfold lstB;rw [List.length_append];split
  ·
   simp;omega
  ·
   simp;omega
set_option maxHeartbeats 4000000 in
theorem list8_any (s:Nat) (hs:s<256) (w:World):Calls Tryz.prog 145 #[.int .u8 (s:Int)] w fun e w'=>∃ v,e=.returned v∧OwnB w' w.heap.size 5 v (lstB s 7)∧Below w.heap.size w w':=by
 obtain ⟨i0,hi0,hz0,hs0,hb0⟩:=info_parts info8;go_enter Tryz.func145,Tryz.ntmps145
 go_wp2_with fail;go_loopw [0,3,4] (fun s0 s3 s4 wr=>∃ i:Nat,i≤7∧s4=.int .i64 (i:Int)∧s0=.int .u8 ((s / 2 ^ i:Nat):Int)∧OwnB wr w.heap.size 5 s3 (lstB s i)∧Below w.heap.size w wr) (fun _ _ s4 _=>7 - (intOf s4).toNat)
 case atStart=>exact ⟨0,by omega,rfl,by simp,⟨rfl,.inl ⟨rfl,rfl⟩⟩,Below.refl _ _⟩
 case round =>
  obtain ⟨i,hi,rfl,rfl,ho,hb⟩:=hrel;have Ho:=Lib.hid ho;clear ho
  have Hb:=Lib.hid hb;clear hb
  have hll:=lstB_len s i;by_cases h7:i<7
  ·
   have h7':(i:Int)<7:=by omega
   have hsucc:=tsucc (n:=i) (by omega);have hst:lstB s (i+1)=lstB s i++(if s / 2 ^ i % 2=1 then [UInt8.ofNat i] else []):=rfl;have hdiv:s / 2 ^ (i+1)=s / 2 ^ i / 2:=by rw [Nat.pow_succ,Nat.div_div_eq_div_mul]
   have Hdiv:=Lib.hid hdiv;clear hdiv
   have hlt:s / 2 ^ i<256:=Nat.lt_of_le_of_lt (Nat.div_le_self _ _) hs;obtain ⟨m,hm⟩:∃ m,s / 2 ^ i=m:=⟨_,rfl⟩;rw [hm] at hst Hdiv hlt ⊢;clear hm;have hmod:(i:Int) % 256=(i:Int):=by omega
   have hi8:((UInt8.ofNat i).toNat:Int)=(i:Int):=by simp;omega
   have hone:=ReadB.one wr (UInt8.ofNat i) 5;rw [hi8] at hone;have Hone:=Lib.hid hone;clear hone hi8
   have Hst:=Lib.hid hst;clear hst
   have Hlw:=Lib.hid (show w.heap.size≤wr.heap.size from Hb.out.size);by_cases h1:m % 2=1
   ·
    have h1':((m:Int) % 2 == 1)=true:=by rw [beq_iff_eq];omega
    have h1'':((m:Int).tmod 2 == 1)=true:=by rw [beq_iff_eq,Int.tmod_eq_emod_of_nonneg (by omega)];omega
    have H1:=Lib.hid h1;clear h1
    go_wp2_with (at_builtin;refine wpList_append_read rfl _ _ 44 rfl w.heap.size 5 i0 (.int .u8 0) Tryz.underlying44 hi0 hz0 hs0 hb0 rfl _ _ _ rfl (World.ownsRow.alloc Ho.out _) _ _ rfl Hone.out (by simp;omega) (by simp;have:=Hlw.out;omega) ?_;intro v4 w4 ho4 hg4;have Hg4:=Lib.hid hg4;clear hg4;have Ho4:=Lib.hid ho4;clear ho4);go_roundw
    case rel =>
     refine ⟨i+1,by omega,rfl,by rw [Hdiv.out];rfl,?_,below_grown Hg4.out (Hb.out.alloc Hlw.out _) (by simp;have:=Hlw.out;omega) (fun k hk=>(World.ownsRow.lt Ho.out k hk).1)⟩;rw [Hst.out,if_pos H1.out];exact OwnB.of Ho4.out rfl rfl
    case measure=>simp [intOf];omega
   ·
    have h1':((m:Int) % 2 == 1)=false:=by rw [beq_eq_false_iff_ne];omega
    have h1'':((m:Int).tmod 2 == 1)=false:=by rw [beq_eq_false_iff_ne,Int.tmod_eq_emod_of_nonneg (by omega)];omega
    have H1:=Lib.hid h1;clear h1
    go_wp2_with fail;go_roundw
    case rel =>
     refine ⟨i+1,by omega,rfl,by rw [Hdiv.out];rfl,?_,Hb.out⟩;rw [Hst.out,if_neg H1.out,List.append_nil];exact Ho.out
    case measure=>simp [intOf];omega
  ·
   have h7' : ¬ (i:Int)<7:=by omega
   have hi7:i=7:=by omega
   subst hi7;go_wp2_with fail;go_ret;exact ⟨_,rfl,Ho.out,Hb.out⟩
theorem readB_at {w:World} {v:Value} {l:List UInt8} (h:ReadB w v l) {i:Nat} (hi:i<l.length):∃ b o c,v=.slice (some ⟨b,o,none⟩) l.length c∧b<w.heap.size∧w.cell? ⟨b,o+i,none⟩=some (.int .u8 ((l.getD i 0).toNat:Int)):=by
 obtain ⟨a,c,rfl,_,h2⟩:=h.out;obtain ⟨b,o,rfl,h3,h4⟩:=h2 i _ (bcells_get hi);exact ⟨b,o,c,rfl,h3,by rw [h4];simp [List.getD,List.getElem?_eq_getElem hi]⟩
def hasB (l:List UInt8) (x:UInt8):Bool:=l.any fun y=>y == x
theorem hasB_take {l:List UInt8} {x:UInt8} {i:Nat} (hi:i<l.length):hasB (l.take (i+1)) x=(hasB (l.take i) x || (l.getD i 0 == x)):=by
 unfold hasB;rw [List.take_succ_eq_append_getElem hi,List.any_append];simp [List.getD,List.getElem?_eq_getElem hi]
theorem u8_eq {a b:UInt8} (h:a.toNat=b.toNat):a=b:=UInt8.toNat_inj.1 h
set_option maxHeartbeats 4000000 in
theorem has8_any (v:Value) (l:List UInt8) (x:UInt8) (hl:l.length≤1000000) (w:World) (h:ReadB w v l):Calls Tryz.prog 192 #[v,.int .u8 (x.toNat:Int)] w fun e w'=>e=.returned (.bool (hasB l x))∧w=w':=by
 obtain ⟨a,c,rfl,_,_⟩:=h.out;have H:=Lib.hid h;clear h
 go_enter Tryz.func192,Tryz.ntmps192
 go_wp2_with fail;go_loopw [5] (fun s5 wr=>∃ i:Nat,i≤l.length∧s5=.int .i64 (i:Int)∧hasB (l.take i) x=false∧w=wr) (fun s5 _=>l.length - (intOf s5).toNat)
 case atStart=>exact ⟨0,by omega,rfl,rfl,rfl⟩
 case round =>
  obtain ⟨i,hi,rfl,hn,rfl⟩:=hrel;have Hn:=Lib.hid hn;clear hn
  by_cases hlt:i<l.length
  ·
   have hlt':(i:Int)<(l.length:Int):=by omega
   have hsucc:=tsucc (n:=i) (by omega);have hst:=hasB_take (x:=x) hlt;obtain ⟨b,o,c',e,_,c0⟩:=readB_at H.out hlt;cases e
   generalize l.getD i 0=y at *;have Hst:=Lib.hid hst;clear hst
   by_cases hy:y=x
   ·
    subst hy;have hall:hasB l y=true:=by
     have h1:hasB (l.take (i+1)) y=true:=by rw [Hst.out];simp
     unfold hasB at *
     rw [List.any_eq_true] at h1 ⊢;obtain ⟨q,hq,hqe⟩:=h1;exact ⟨q,List.mem_of_mem_take hq,hqe⟩
    have Hall:=Lib.hid hall;clear hall
    go_wp2_with fail;go_ret;exact ⟨by rw [Hall.out];rfl,rfl⟩
   ·
    have hne:((y.toNat:Int) == (x.toNat:Int))=false:=by
     rw [beq_eq_false_iff_ne];intro e;exact hy (u8_eq (by omega))
    have Hy:=Lib.hid hy;clear hy
    go_wp2_with fail;go_roundw
    case rel=>exact ⟨i+1,hlt,rfl,by rw [Hst.out,Hn.out];simp [Hy.out],by first | rfl | trivial⟩
    case measure=>simp [intOf];omega
  ·
   have hlt' : ¬ (i:Int)<(l.length:Int):=by omega
   have hall:hasB l x=false:=by
    have h1:=Hn.out;rwa [List.take_of_length_le (by omega)] at h1
   have Hall:=Lib.hid hall;clear hall
   go_wp2_with fail;go_ret;exact ⟨by rw [Hall.out];rfl,rfl⟩
def pickB (a b:List UInt8):List UInt8:=a.filter fun x => !hasB b x
theorem pickB_take {a b:List UInt8} {i:Nat} (hi:i<a.length):pickB (a.take (i+1)) b=pickB (a.take i) b++(if hasB b (a.getD i 0)=true then [] else [a.getD i 0]):=by
 unfold pickB;rw [List.take_succ_eq_append_getElem hi,List.filter_append];have e:a.getD i 0=a[i]:=by simp [List.getD,List.getElem?_eq_getElem hi]
 rw [e];cases h:hasB b a[i] <;> simp [h]
set_option maxHeartbeats 4000000 in
theorem pick8_any (va vb:Value) (a b:List UInt8) (ha:a.length≤1000) (hb:b.length≤1000) (w:World) (h1:ReadB w va a) (h2:ReadB w vb b) :
  Calls Tryz.prog 172 #[va,vb,.bool false] w fun e w'=>∃ v,e=.returned v∧OwnB w' w.heap.size 5 v (pickB a b)∧Below w.heap.size w w':=by
 obtain ⟨i0,hi0,hz0,hs0,hb0⟩:=info_parts info8;obtain ⟨aa,ca,rfl,_,_⟩:=h1.out;have H1:=Lib.hid h1;clear h1
 have H2:=Lib.hid h2;clear h2
 go_enter Tryz.func172,Tryz.ntmps172
 go_wp2_with fail;go_loopw [7,8] (fun s7 s8 wr=>∃ i:Nat,i≤a.length∧s8=.int .i64 (i:Int)∧OwnB wr w.heap.size 5 s7 (pickB (a.take i) b)∧Below w.heap.size w wr) (fun _ s8 _=>a.length - (intOf s8).toNat)
 case atStart=>exact ⟨0,by omega,rfl,⟨rfl,.inl ⟨rfl,rfl⟩⟩,Below.refl _ _⟩
 case round =>
  obtain ⟨i,hi,rfl,ho,hbl⟩:=hrel;have Ho:=Lib.hid ho;clear ho
  have Hb:=Lib.hid hbl;clear hbl
  by_cases hlt:i<a.length
  ·
   have hlt':(i:Int)<(a.length:Int):=by omega
   have hsucc:=tsucc (n:=i) (by omega);have hst:=pickB_take (b:=b) hlt;obtain ⟨g,o,c',e,_,c0⟩:=readB_at (H1.out.below Hb.out) hlt;cases e
   have hpl:(pickB (a.take i) b).length≤1000:=by
    have h3:=List.length_filter_le (fun x => !hasB b x) (a.take i);rw [List.length_take] at h3;unfold pickB;omega
   generalize a.getD i 0=y at *;have Hst:=Lib.hid hst;clear hst
   have Hh:=Lib.hid (has8_any vb b y (by omega) wr (H2.out.below Hb.out));obtain ⟨hv,hhv⟩:∃ q,hasB b y=q:=⟨_,rfl⟩;rw [hhv] at Hh Hst;clear hhv;have Hlw:=Lib.hid (show w.heap.size≤wr.heap.size from Hb.out.size);have Hone:=Lib.hid (ReadB.one wr y 5);cases hv with
   | true =>
    go_wp2_with ((with_reducible refine Hh.out.mono ?_);rintro e w' ⟨rfl,rfl⟩);go_roundw
    case rel=>exact ⟨i+1,hlt,rfl,by rw [Hst.out,if_pos (by simp),List.append_nil];exact Ho.out,Hb.out⟩
    case measure=>simp [intOf];omega
   | false =>
    go_wp2_with (first
     | ((with_reducible refine Hh.out.mono ?_);rintro e w' ⟨rfl,rfl⟩)
     | (at_builtin;refine wpList_append_read rfl _ _ 44 rfl w.heap.size 5 i0 (.int .u8 0) Tryz.underlying44 hi0 hz0 hs0 hb0 rfl _ _ _ rfl (World.ownsRow.alloc Ho.out _) _ _ rfl Hone.out (by simp;omega) (by simp;have:=Hlw.out;omega) ?_;intro v4 w4 ho4 hg4;have Hg4:=Lib.hid hg4;clear hg4;have Ho4:=Lib.hid ho4;clear ho4))
    go_roundw
    case rel =>
     refine ⟨i+1,hlt,rfl,?_,below_grown Hg4.out (Hb.out.alloc Hlw.out _) (by simp;have:=Hlw.out;omega) (fun k hk=>(World.ownsRow.lt Ho.out k hk).1)⟩;rw [Hst.out,if_neg (by simp)];exact OwnB.of Ho4.out rfl rfl
    case measure=>simp [intOf];omega
  ·
   have hlt' : ¬ (i:Int)<(a.length:Int):=by omega
   go_wp2_with fail;go_ret;refine ⟨_,rfl,?_,Hb.out⟩;have h3:=Ho.out;rwa [List.take_of_length_le (by omega)] at h3
set_option maxHeartbeats 4000000 in
theorem may8_any (va vb:Value) (a b:List UInt8) (ha:a.length≤1000) (hb:b.length≤1000) (w:World) (h1:ReadB w va a) (h2:ReadB w vb b) :
  Calls Tryz.prog 144 #[va,vb] w fun e w'=>e=.returned (.bool (decide (0<a.length) && decide ((pickB a b).length=0)))∧Below w.heap.size w w':=by
 obtain ⟨aa,ca,rfl,hc0,hrd⟩:=h1.out;have Hp:=Lib.hid (pick8_any (.slice aa a.length ca) vb a b ha hb w ⟨aa,ca,rfl,hc0,hrd⟩ h2);obtain ⟨m,hm⟩:∃ m,(pickB a b).length=m:=⟨_,rfl⟩;obtain ⟨n,hn⟩:∃ n,a.length=n:=⟨_,rfl⟩;rw [hm,hn];rw [hn] at Hp ha;have Hm:=Lib.hid hm;clear hm
 clear hrd h2 hc0 h1;by_cases h0:0<n
 ·
  have h0':(0:Int)<(n:Int):=by omega
  have hd:decide (0<n)=true:=by simpa using h0
  rw [hd,Bool.true_and];clear hd hn;by_cases hz:m=0
  ·
   have hz':((m:Int) == 0)=true:=by rw [beq_iff_eq];omega
   have hd:decide (m=0)=true:=by simpa using hz
   rw [hd];clear hd;have Hz:=Lib.hid hz;clear hz
   go_enter Tryz.func144,Tryz.ntmps144
   go_wp2_with ((with_reducible refine Hp.out.mono ?_);rintro e w' ⟨v,rfl,ho,hb⟩;obtain ⟨av,cv,rfl,_,_⟩:=ho.read.out;rw [Hm.out];have Hb:=Lib.hid hb;clear hb);go_ret;exact ⟨rfl,Hb.out⟩
  ·
   have hz':((m:Int) == 0)=false:=by rw [beq_eq_false_iff_ne];omega
   have hd:decide (m=0)=false:=by simpa using hz
   rw [hd];clear hd;have Hz:=Lib.hid hz;clear hz
   go_enter Tryz.func144,Tryz.ntmps144
   go_wp2_with ((with_reducible refine Hp.out.mono ?_);rintro e w' ⟨v,rfl,ho,hb⟩;obtain ⟨av,cv,rfl,_,_⟩:=ho.read.out;rw [Hm.out];have Hb:=Lib.hid hb;clear hb);go_ret;exact ⟨rfl,Hb.out⟩
 ·
  have h0' : ¬ (0:Int)<(n:Int):=by omega
  have hd:decide (0<n)=false:=by simpa using h0
  rw [hd,Bool.false_and];clear hd hn Hm Hp h0;go_enter Tryz.func144,Tryz.ntmps144
  go_wp2_with fail;go_ret;exact ⟨rfl,Below.refl _ _⟩
def rmayS (s t:Nat):Bool:=decide (0<(lstB s 7).length) && decide ((pickB (lstB s 7) (lstB t 7)).length=0)
theorem rmay_any (s t:Nat) (hs:s<256) (ht:t<256) (w:World) :
  Calls Tryz.prog 84 #[.int .u8 (s:Int),.int .u8 (t:Int)] w fun e w'=>e=.returned (.bool (rmayS s t))∧Below w.heap.size w w':=by
 have Hs:=Lib.hid (fun y:World=>list8_any s hs y);have Ht:=Lib.hid (fun y:World=>list8_any t ht y);have hls:=lstB_len s 7;have hlt:=lstB_len t 7;have hm:=fun (v1 v2:Value) (y:World) (h1:ReadB y v1 (lstB s 7)) (h2:ReadB y v2 (lstB t 7))=>(show Calls Tryz.prog 144 #[v1,v2] y fun e w'=>e=.returned (.bool (rmayS s t))∧Below y.heap.size y w' from may8_any v1 v2 _ _ (by omega) (by omega) y h1 h2)
 obtain ⟨q,hq⟩:∃ q,rmayS s t=q:=⟨_,rfl⟩;rw [hq] at hm ⊢;have Hm:=Lib.hid hm;clear hm hq
 go_enter Tryz.func84,Tryz.ntmps84
 go_wp2_with (first
  | ((with_reducible refine (Hs.out w).mono ?_);rintro e w1 ⟨v1,rfl,ho1,hb1⟩;have Ho1:=Lib.hid ho1;clear ho1;have Hb1:=Lib.hid hb1;clear hb1 Hs)
  | ((with_reducible refine (Ht.out w1).mono ?_);rintro e w2 ⟨v2,rfl,ho2,hb2⟩;have Ho2:=Lib.hid ho2;clear ho2;have Hb2:=Lib.hid hb2;clear hb2 Ht)
  | ((with_reducible refine (Hm.out v1 v2 w2 (Ho1.out.below Hb2.out).read Ho2.out.read).mono ?_);rintro e w3 ⟨rfl,hb3⟩;have Hb3:=Lib.hid hb3;clear hb3))
 go_ret;have hb2:=Hb1.out.trans (Hb2.out.mono Hb1.out.size);exact ⟨rfl,hb2.trans (Hb3.out.mono hb2.size)⟩
theorem lstB_mem (s:Nat):∀ (i:Nat),i≤8→∀ x:UInt8,x ∈ lstB s i ↔ x.toNat<i∧s / 2 ^ x.toNat % 2=1
 | 0,_,x=>by simp [lstB]
 | i+1,hi,x=>by
  have ih:=lstB_mem s i (by omega) x;have e:(UInt8.ofNat i).toNat=i:=by simp;omega
  unfold lstB;rw [List.mem_append,ih];constructor
  ·
   rintro (⟨h1,h2⟩ | h)
   ·
    exact ⟨by omega,h2⟩
   ·
    split at h
    ·
     rename_i h3
     have hx:x=UInt8.ofNat i:=by simpa using h
     rw [hx,e];exact ⟨by omega,h3⟩
    ·
     simp at h
  ·
   rintro ⟨h1,h2⟩;by_cases hx:x.toNat=i
   ·
    right
    rw [hx] at h2;rw [if_pos h2];have:x=UInt8.ofNat i:=u8_eq (by rw [e,hx]);simp [this]
   ·
    exact .inl ⟨by omega,h2⟩
theorem pop_pos:∀ n:Fin 256,(0<pop8 n.val)=(n.val≠0):=by decide +kernel
theorem has_mem (l:List UInt8) (x:UInt8):hasB l x=true ↔ x ∈ l:=by
 unfold hasB;rw [List.any_eq_true];constructor
 ·
  rintro ⟨y,h1,h2⟩;rw [beq_iff_eq] at h2;rwa [← h2]
 ·
  exact fun h=>⟨x,h,by simp⟩
theorem bit_of (s i:Nat):s.testBit i=decide (s / 2 ^ i % 2=1):=by
 rw [Nat.testBit_eq_decide_div_mod_eq]
theorem rmay_eq {s t:Nat} (hs:s<256) (ht:t<256):rmayS s t=mayS s t:=by
 unfold rmayS mayS;have h127:∀ i,Nat.testBit 127 i=decide (i<7):=fun i=>by
  rw [show (127:Nat)=2 ^ 7 - 1 by rfl,Nat.testBit_two_pow_sub_one]
 have e1:(0<(lstB s 7).length)=(0<pop8 (s &&& 127)):=by
  have hb:s &&& 127<256:=Nat.lt_of_le_of_lt Nat.and_le_left hs;rw [pop_pos ⟨s &&& 127,hb⟩];apply propext
  constructor
  ·
   intro h h0;obtain ⟨x,hx⟩:=List.exists_mem_of_length_pos h;have h2:=(lstB_mem s 7 (by omega) x).1 hx;have h3:(s &&& 127).testBit x.toNat=true:=by rw [Nat.testBit_and,h127,bit_of];simp [h2.1,h2.2]
   rw [show s &&& 127=0 from h0] at h3;simp at h3
  ·
   intro h;obtain ⟨i,hi⟩:=Nat.exists_testBit_of_ne_zero h;rw [Nat.testBit_and,h127,bit_of] at hi;simp only [Bool.and_eq_true,decide_eq_true_eq] at hi;have hm:UInt8.ofNat i ∈ lstB s 7:=(lstB_mem s 7 (by omega) _).2 (by
    rw [show (UInt8.ofNat i).toNat=i by simp;omega];exact ⟨hi.2,hi.1⟩)
   exact List.length_pos_of_mem hm
 have e2:((pickB (lstB s 7) (lstB t 7)).length=0)=(withoutS s t=0):=by
  apply propext
  have hbit:∀ i,(withoutS s t).testBit i=(decide (s / 2 ^ i % 2=1) && (decide (i<8) && !decide (t / 2 ^ i % 2=1)) && decide (i<7)):=fun i=>by
   unfold withoutS;rw [Nat.testBit_and,Nat.testBit_and,h127,bit_of,show 255 - t=2 ^ 8 - (t+1) by omega,Nat.testBit_two_pow_sub_succ (show t<2 ^ 8 by omega),bit_of]
  rw [List.length_eq_zero_iff];constructor
  ·
   intro h;apply Nat.eq_of_testBit_eq
   intro i;rw [hbit,Nat.zero_testBit];cases hc:(decide (s / 2 ^ i % 2=1) && (decide (i<8) && !decide (t / 2 ^ i % 2=1)) && decide (i<7)) with
   | false=>rfl
   | true =>
    exfalso;simp only [Bool.and_eq_true,decide_eq_true_eq,Bool.not_eq_true',decide_eq_false_iff_not] at hc;obtain ⟨⟨h1,_,h3⟩,h4⟩:=hc;have e:(UInt8.ofNat i).toNat=i:=by simp;omega
    have hm:UInt8.ofNat i ∈ pickB (lstB s 7) (lstB t 7):=by
     unfold pickB;rw [List.mem_filter];refine ⟨(lstB_mem s 7 (by omega) _).2 (by rw [e];exact ⟨h4,h1⟩),?_⟩;cases hh:hasB (lstB t 7) (UInt8.ofNat i) with
     | false=>rfl
     | true =>
      have:=(lstB_mem t 7 (by omega) _).1 ((has_mem _ _).1 hh);rw [e] at this;exact absurd this.2 h3
    rw [h] at hm;simp at hm
  ·
   intro h;unfold pickB;rw [List.filter_eq_nil_iff];intro x hx hn;obtain ⟨h1,h2⟩:=(lstB_mem s 7 (by omega) x).1 hx;have h3 : ¬ t / 2 ^ x.toNat % 2=1:=fun h3=>by
    have:=(has_mem (lstB t 7) x).2 ((lstB_mem t 7 (by omega) x).2 ⟨h1,h3⟩);rw [this] at hn;simp at hn
   have hb:=hbit x.toNat;rw [h,Nat.zero_testBit] at hb;simp [h1,h2,h3] at hb;omega
 simp only [e1,e2]
end Go.Proofs.YtbckjgageofldaaGreat
