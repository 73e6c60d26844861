/- Readers: machine.Of. Condition: the bytes fit in memory. -/
import Derived.Test.YtbckjgageofldaaGreatZLearnPlays12
import Derived.Test.YtbckjgageofldaaGreatZLearnPlays8
import Derived.Test.YtbckjgageofldaaGreatZLearnPlays5
import Derived.Test.YtbckjgageofldaaGreatZLearnPlays9
set_option maxRecDepth 100000
namespace Go.Proofs.YtbckjgageofldaaGreat
open Go.RowKit
def setsOk (M:MacV):Bool:=mayS M.mem M.all && decide (M.all=bothS M.all M.all) && decide (M.mem=bothS M.mem M.mem)
theorem both_bel (x y:Nat) (hx:x<256) (hy:y<256) (w:World):Calls Tryz.prog 74 #[.int .u8 (x:Int),.int .u8 (y:Int)] w fun e w'=>e=.returned (.int .u8 (bothS x y:Int))∧Below w.heap.size w w' :=
 (both_any x y hx hy w).mono fun e w' h=>⟨h.1,by rw [← h.2];exact Below.refl _ _⟩
theorem mayS_bel (x y:Nat) (hx:x<256) (hy:y<256) (w:World):Calls Tryz.prog 73 #[.int .u8 (x:Int),.int .u8 (y:Int)] w fun e w'=>e=.returned (.bool (mayS x y))∧Below w.heap.size w w' :=
 (mayS_any x y hx hy w).mono fun e w' h=>⟨h.1,by rw [← h.2];exact Below.refl _ _⟩
set_option maxHeartbeats 8000000 in
theorem sets_any (M:MacV) (P:Option Addr) (w:World) (ha:M.all<256) (hm:M.mem<256) :
  Calls Tryz.prog 118 #[.agg (macCells M P).toArray] w fun e w'=>e=.returned (.bool (setsOk M))∧Below w.heap.size w w':=by
 have hb1:=(Below.refl w.heap.size w).alloc (Nat.le_refl _) (.cells (macCells M P).toArray 36);have hp1:PartAt (w.alloc (.cells (macCells M P).toArray 36)) w.heap.size M P:=heap_alloc_new _ _;obtain ⟨ok,hok⟩:∃ b,setsOk M=b:=⟨_,rfl⟩;have hok0:=hok;rw [hok];unfold setsOk at hok0;have Hm:=Lib.hid (fun y:World=>mayS_bel M.mem M.all hm ha y);have H1:=Lib.hid (fun y:World=>both_bel M.all M.all ha ha y);have H2:=Lib.hid (fun y:World=>both_bel M.mem M.mem hm hm y);generalize mayS M.mem M.all=b1 at *;generalize bothS M.all M.all=q1 at *;generalize bothS M.mem M.mem=q2 at *;have e1:((M.all:Int) == (q1:Int))=decide (M.all=q1):=by
  by_cases h:M.all=q1
  ·
   simp [h]
  ·
   simp [h];omega
 have e2:((M.mem:Int) == (q2:Int))=decide (M.mem=q2):=by
  by_cases h:M.mem=q2
  ·
   simp [h]
  ·
   simp [h];omega
 generalize decide (M.all=q1)=b2 at *;generalize decide (M.mem=q2)=b3 at *;have Hok:=Lib.hid hok0;clear hok0 hok
 rw [mac_eta];go_enter Tryz.func118,Tryz.ntmps118
 go_upto_region 1 with fail;change Code.wp _ _ _ _ (w.alloc (.cells (macCells M P).toArray 36));generalize w.alloc (.cells (macCells M P).toArray 36)=w1 at *;have Hp1:=Lib.hid hp1;clear hp1
 have Hb1:=Lib.hid hb1;clear hb1
 cases b1 with
 | false =>
  refine (wpIn_wide (n:=1)).1 ?_;refine RegJ.wpIn_region_plan (F:=Fence.wide) (KeptW w1) (.step 0 0 (.step 1 0 (.step 2 0 (.step 3 0 (.step 4 1 (.step 5 0 (.step 6 0 (.step 7 0 (.step 8 0 (.step 9 0 (.step 10 0 (.step 11 0 (.step 12 1 (.step 13 0 (.step 14 0 (.step 15 0 (.step 16 0 (.step 17 0 (.step 18 0 (.step 19 0 (.step 20 0 (.step 21 0 (.step 22 1 (.step 23 0 (.step 24 0 (.step 25 0 .nil)))))))))))))))))))))))))) (by kernel_rfl) (by kernel_rfl) (by kernel_rfl) (fun _ _ d _ _ h=>by cases d <;> exact h) ⟨rfl,rfl,rfl,Nat.le_refl _,fun _ _=>rfl⟩ ?_;dsimp only [RegJ.pickJ,List.getElem?_cons_zero,List.getElem?_cons_succ];change RegJ.Can _ _ _ _ _ _ _ _ w1.drew;have hkd:KeptW w1 w1.drew:=⟨rfl,rfl,rfl,Nat.le_refl _,fun _ _=>rfl⟩;generalize w1.drew=v1 at *;refine RegJ.reads ?_;intro K hK;go_simp;(first | refine ⟨_,fun _ _=>rfl,hK _ ?_⟩ | refine hK _ ?_);clear hK K
  refine RegJ.reads ?_;intro K hK;go_simp;refine ⟨.int .u8 (M.mem:Int),fun y hy=>?_,hK _ ?_⟩
  ·
   obtain ⟨f0,f1,f14⟩:=(show PartAt y w.heap.size M P from ((KeptW.bel hy).block _ (Array.getElem?_eq_some_iff.1 Hp1.out).1).trans Hp1.out).cells;go_simp
  clear hK K;refine RegJ.reads ?_;intro K hK;go_simp;(first | refine ⟨_,fun _ _=>rfl,hK _ ?_⟩ | refine hK _ ?_);clear hK K
  refine RegJ.reads ?_;intro K hK;go_simp;refine ⟨.int .u8 (M.all:Int),fun y hy=>?_,hK _ ?_⟩
  ·
   obtain ⟨f0,f1,f14⟩:=(show PartAt y w.heap.size M P from ((KeptW.bel hy).block _ (Array.getElem?_eq_some_iff.1 Hp1.out).1).trans Hp1.out).cells;go_simp
  clear hK K;refine RegJ.turns (fun _=>trivial) ?_;intro K K0 hK hK0;go_simp;refine ⟨trivial,?_⟩;refine (callsIn_wide.2 (Hm.out v1)).mono ?_;rintro e v2 ⟨rfl,hb7⟩;have v2k:KeptW w1 v2:=KeptW.mono hkd hb7;refine hK _ _ _ (fun _ h=>h) v2k ?_;clear hK K hK0 K0;iterate 2 (refine RegJ.reads ?_;intro K hK;go_simp;(first | refine ⟨_,fun _ _=>rfl,hK _ ?_⟩ | refine hK _ ?_);clear hK K)
  (refine RegJ.reads ?_;intro K hK;go_simp;refine hK _ ?_;clear hK K)
  refine RegJ.reads ?_;intro K hK;go_simp;(first | refine ⟨_,fun _ _=>rfl,hK _ ?_⟩ | refine hK _ ?_);clear hK K
  (refine RegJ.reads ?_;intro K hK;go_simp;refine hK _ ?_;clear hK K)
  refine RegJ.reads ?_;intro K hK;go_simp;(first | refine ⟨_,fun _ _=>rfl,hK _ ?_⟩ | refine hK _ ?_);clear hK K
  (refine RegJ.reads ?_;intro K hK;go_simp;refine hK _ ?_;clear hK K)
  (refine RegJ.turns (fun _=>trivial) ?_;intro K K0 hK hK0;go_simp;refine hK0 _ ?_;clear hK K hK0 K0)
  iterate 4 (refine RegJ.reads ?_;intro K hK;go_simp;(first | refine ⟨_,fun _ _=>rfl,hK _ ?_⟩ | refine hK _ ?_);clear hK K)
  (refine RegJ.reads ?_;intro K hK;go_simp;refine hK _ ?_;clear hK K)
  refine RegJ.reads ?_;intro K hK;go_simp;(first | refine ⟨_,fun _ _=>rfl,hK _ ?_⟩ | refine hK _ ?_);clear hK K
  (refine RegJ.reads ?_;intro K hK;go_simp;refine hK _ ?_;clear hK K)
  refine RegJ.reads ?_;intro K hK;go_simp;(first | refine ⟨_,fun _ _=>rfl,hK _ ?_⟩ | refine hK _ ?_);clear hK K
  (refine RegJ.reads ?_;intro K hK;go_simp;refine hK _ ?_;clear hK K)
  (refine RegJ.turns (fun _=>trivial) ?_;intro K K0 hK hK0;go_simp;refine hK0 _ ?_;clear hK K hK0 K0)
  iterate 3 (refine RegJ.reads ?_;intro K hK;go_simp;(first | refine ⟨_,fun _ _=>rfl,hK _ ?_⟩ | refine hK _ ?_);clear hK K)
  refine RegJ.nil ?_;have HJ:=Lib.hid (Hb1.out.trans ((KeptW.bel v2k).mono Hb1.out.size));go_wp2_with fail;go_ret;exact ⟨by rw [← Hok.out];rfl,HJ.out⟩
 | true =>
 cases b2 with
 | false =>
  refine (wpIn_wide (n:=1)).1 ?_;refine RegJ.wpIn_region_plan (F:=Fence.wide) (KeptW w1) (.step 0 0 (.step 1 0 (.step 2 0 (.step 3 0 (.step 4 1 (.step 5 0 (.step 6 0 (.step 7 0 (.step 8 0 (.step 9 0 (.step 10 0 (.step 11 0 (.step 12 1 (.step 13 0 (.step 14 0 (.step 15 0 (.step 16 0 (.step 17 0 (.step 18 0 (.step 19 0 (.step 20 0 (.step 21 0 (.step 22 1 (.step 23 0 (.step 24 0 (.step 25 0 .nil)))))))))))))))))))))))))) (by kernel_rfl) (by kernel_rfl) (by kernel_rfl) (fun _ _ d _ _ h=>by cases d <;> exact h) ⟨rfl,rfl,rfl,Nat.le_refl _,fun _ _=>rfl⟩ ?_;dsimp only [RegJ.pickJ,List.getElem?_cons_zero,List.getElem?_cons_succ];change RegJ.Can _ _ _ _ _ _ _ _ w1.drew;have hkd:KeptW w1 w1.drew:=⟨rfl,rfl,rfl,Nat.le_refl _,fun _ _=>rfl⟩;generalize w1.drew=v1 at *;refine RegJ.reads ?_;intro K hK;go_simp;(first | refine ⟨_,fun _ _=>rfl,hK _ ?_⟩ | refine hK _ ?_);clear hK K
  refine RegJ.reads ?_;intro K hK;go_simp;refine ⟨.int .u8 (M.mem:Int),fun y hy=>?_,hK _ ?_⟩
  ·
   obtain ⟨f0,f1,f14⟩:=(show PartAt y w.heap.size M P from ((KeptW.bel hy).block _ (Array.getElem?_eq_some_iff.1 Hp1.out).1).trans Hp1.out).cells;go_simp
  clear hK K;refine RegJ.reads ?_;intro K hK;go_simp;(first | refine ⟨_,fun _ _=>rfl,hK _ ?_⟩ | refine hK _ ?_);clear hK K
  refine RegJ.reads ?_;intro K hK;go_simp;refine ⟨.int .u8 (M.all:Int),fun y hy=>?_,hK _ ?_⟩
  ·
   obtain ⟨f0,f1,f14⟩:=(show PartAt y w.heap.size M P from ((KeptW.bel hy).block _ (Array.getElem?_eq_some_iff.1 Hp1.out).1).trans Hp1.out).cells;go_simp
  clear hK K;refine RegJ.turns (fun _=>trivial) ?_;intro K K0 hK hK0;go_simp;refine ⟨trivial,?_⟩;refine (callsIn_wide.2 (Hm.out v1)).mono ?_;rintro e v2 ⟨rfl,hb7⟩;have v2k:KeptW w1 v2:=KeptW.mono hkd hb7;refine hK _ _ _ (fun _ h=>h) v2k ?_;clear hK K hK0 K0;iterate 2 (refine RegJ.reads ?_;intro K hK;go_simp;(first | refine ⟨_,fun _ _=>rfl,hK _ ?_⟩ | refine hK _ ?_);clear hK K)
  refine RegJ.reads ?_;intro K hK;go_simp;refine ⟨.int .u8 (M.all:Int),fun y hy=>?_,hK _ ?_⟩
  ·
   obtain ⟨f0,f1,f14⟩:=(show PartAt y w.heap.size M P from ((KeptW.bel hy).block _ (Array.getElem?_eq_some_iff.1 Hp1.out).1).trans Hp1.out).cells;go_simp
  clear hK K;refine RegJ.reads ?_;intro K hK;go_simp;(first | refine ⟨_,fun _ _=>rfl,hK _ ?_⟩ | refine hK _ ?_);clear hK K
  refine RegJ.reads ?_;intro K hK;go_simp;refine ⟨.int .u8 (M.all:Int),fun y hy=>?_,hK _ ?_⟩
  ·
   obtain ⟨f0,f1,f14⟩:=(show PartAt y w.heap.size M P from ((KeptW.bel hy).block _ (Array.getElem?_eq_some_iff.1 Hp1.out).1).trans Hp1.out).cells;go_simp
  clear hK K;refine RegJ.reads ?_;intro K hK;go_simp;(first | refine ⟨_,fun _ _=>rfl,hK _ ?_⟩ | refine hK _ ?_);clear hK K
  refine RegJ.reads ?_;intro K hK;go_simp;refine ⟨.int .u8 (M.all:Int),fun y hy=>?_,hK _ ?_⟩
  ·
   obtain ⟨f0,f1,f14⟩:=(show PartAt y w.heap.size M P from ((KeptW.bel hy).block _ (Array.getElem?_eq_some_iff.1 Hp1.out).1).trans Hp1.out).cells;go_simp
  clear hK K;refine RegJ.turns (fun _=>trivial) ?_;intro K K0 hK hK0;go_simp;refine ⟨trivial,?_⟩;refine (callsIn_wide.2 (H1.out v2)).mono ?_;rintro e v3 ⟨rfl,hb7⟩;have v3k:KeptW w1 v3:=KeptW.mono v2k hb7;refine hK _ _ _ (fun _ h=>h) v3k ?_;clear hK K hK0 K0;iterate 4 (refine RegJ.reads ?_;intro K hK;go_simp;(first | refine ⟨_,fun _ _=>rfl,hK _ ?_⟩ | refine hK _ ?_);clear hK K)
  (refine RegJ.reads ?_;intro K hK;go_simp;refine hK _ ?_;clear hK K)
  refine RegJ.reads ?_;intro K hK;go_simp;(first | refine ⟨_,fun _ _=>rfl,hK _ ?_⟩ | refine hK _ ?_);clear hK K
  (refine RegJ.reads ?_;intro K hK;go_simp;refine hK _ ?_;clear hK K)
  refine RegJ.reads ?_;intro K hK;go_simp;(first | refine ⟨_,fun _ _=>rfl,hK _ ?_⟩ | refine hK _ ?_);clear hK K
  (refine RegJ.reads ?_;intro K hK;go_simp;refine hK _ ?_;clear hK K)
  (refine RegJ.turns (fun _=>trivial) ?_;intro K K0 hK hK0;go_simp;refine hK0 _ ?_;clear hK K hK0 K0)
  iterate 3 (refine RegJ.reads ?_;intro K hK;go_simp;(first | refine ⟨_,fun _ _=>rfl,hK _ ?_⟩ | refine hK _ ?_);clear hK K)
  refine RegJ.nil ?_;have HJ:=Lib.hid (Hb1.out.trans ((KeptW.bel v3k).mono Hb1.out.size));go_wp2_with fail;go_ret;exact ⟨by rw [← Hok.out];rfl,HJ.out⟩
 | true =>
  refine (wpIn_wide (n:=1)).1 ?_;refine RegJ.wpIn_region_plan (F:=Fence.wide) (KeptW w1) (.step 0 0 (.step 1 0 (.step 2 0 (.step 3 0 (.step 4 1 (.step 5 0 (.step 6 0 (.step 7 0 (.step 8 0 (.step 9 0 (.step 10 0 (.step 11 0 (.step 12 1 (.step 13 0 (.step 14 0 (.step 15 0 (.step 16 0 (.step 17 0 (.step 18 0 (.step 19 0 (.step 20 0 (.step 21 0 (.step 22 1 (.step 23 0 (.step 24 0 (.step 25 0 .nil)))))))))))))))))))))))))) (by kernel_rfl) (by kernel_rfl) (by kernel_rfl) (fun _ _ d _ _ h=>by cases d <;> exact h) ⟨rfl,rfl,rfl,Nat.le_refl _,fun _ _=>rfl⟩ ?_;dsimp only [RegJ.pickJ,List.getElem?_cons_zero,List.getElem?_cons_succ];change RegJ.Can _ _ _ _ _ _ _ _ w1.drew;have hkd:KeptW w1 w1.drew:=⟨rfl,rfl,rfl,Nat.le_refl _,fun _ _=>rfl⟩;generalize w1.drew=v1 at *;refine RegJ.reads ?_;intro K hK;go_simp;(first | refine ⟨_,fun _ _=>rfl,hK _ ?_⟩ | refine hK _ ?_);clear hK K
  refine RegJ.reads ?_;intro K hK;go_simp;refine ⟨.int .u8 (M.mem:Int),fun y hy=>?_,hK _ ?_⟩
  ·
   obtain ⟨f0,f1,f14⟩:=(show PartAt y w.heap.size M P from ((KeptW.bel hy).block _ (Array.getElem?_eq_some_iff.1 Hp1.out).1).trans Hp1.out).cells;go_simp
  clear hK K;refine RegJ.reads ?_;intro K hK;go_simp;(first | refine ⟨_,fun _ _=>rfl,hK _ ?_⟩ | refine hK _ ?_);clear hK K
  refine RegJ.reads ?_;intro K hK;go_simp;refine ⟨.int .u8 (M.all:Int),fun y hy=>?_,hK _ ?_⟩
  ·
   obtain ⟨f0,f1,f14⟩:=(show PartAt y w.heap.size M P from ((KeptW.bel hy).block _ (Array.getElem?_eq_some_iff.1 Hp1.out).1).trans Hp1.out).cells;go_simp
  clear hK K;refine RegJ.turns (fun _=>trivial) ?_;intro K K0 hK hK0;go_simp;refine ⟨trivial,?_⟩;refine (callsIn_wide.2 (Hm.out v1)).mono ?_;rintro e v2 ⟨rfl,hb7⟩;have v2k:KeptW w1 v2:=KeptW.mono hkd hb7;refine hK _ _ _ (fun _ h=>h) v2k ?_;clear hK K hK0 K0;iterate 2 (refine RegJ.reads ?_;intro K hK;go_simp;(first | refine ⟨_,fun _ _=>rfl,hK _ ?_⟩ | refine hK _ ?_);clear hK K)
  refine RegJ.reads ?_;intro K hK;go_simp;refine ⟨.int .u8 (M.all:Int),fun y hy=>?_,hK _ ?_⟩
  ·
   obtain ⟨f0,f1,f14⟩:=(show PartAt y w.heap.size M P from ((KeptW.bel hy).block _ (Array.getElem?_eq_some_iff.1 Hp1.out).1).trans Hp1.out).cells;go_simp
  clear hK K;refine RegJ.reads ?_;intro K hK;go_simp;(first | refine ⟨_,fun _ _=>rfl,hK _ ?_⟩ | refine hK _ ?_);clear hK K
  refine RegJ.reads ?_;intro K hK;go_simp;refine ⟨.int .u8 (M.all:Int),fun y hy=>?_,hK _ ?_⟩
  ·
   obtain ⟨f0,f1,f14⟩:=(show PartAt y w.heap.size M P from ((KeptW.bel hy).block _ (Array.getElem?_eq_some_iff.1 Hp1.out).1).trans Hp1.out).cells;go_simp
  clear hK K;refine RegJ.reads ?_;intro K hK;go_simp;(first | refine ⟨_,fun _ _=>rfl,hK _ ?_⟩ | refine hK _ ?_);clear hK K
  refine RegJ.reads ?_;intro K hK;go_simp;refine ⟨.int .u8 (M.all:Int),fun y hy=>?_,hK _ ?_⟩
  ·
   obtain ⟨f0,f1,f14⟩:=(show PartAt y w.heap.size M P from ((KeptW.bel hy).block _ (Array.getElem?_eq_some_iff.1 Hp1.out).1).trans Hp1.out).cells;go_simp
  clear hK K;refine RegJ.turns (fun _=>trivial) ?_;intro K K0 hK hK0;go_simp;refine ⟨trivial,?_⟩;refine (callsIn_wide.2 (H1.out v2)).mono ?_;rintro e v3 ⟨rfl,hb7⟩;have v3k:KeptW w1 v3:=KeptW.mono v2k hb7;refine hK _ _ _ (fun _ h=>h) v3k ?_;clear hK K hK0 K0;iterate 4 (refine RegJ.reads ?_;intro K hK;go_simp;(first | refine ⟨_,fun _ _=>rfl,hK _ ?_⟩ | refine hK _ ?_);clear hK K)
  refine RegJ.reads ?_;intro K hK;go_simp;refine ⟨.int .u8 (M.mem:Int),fun y hy=>?_,hK _ ?_⟩
  ·
   obtain ⟨f0,f1,f14⟩:=(show PartAt y w.heap.size M P from ((KeptW.bel hy).block _ (Array.getElem?_eq_some_iff.1 Hp1.out).1).trans Hp1.out).cells;go_simp
  clear hK K;refine RegJ.reads ?_;intro K hK;go_simp;(first | refine ⟨_,fun _ _=>rfl,hK _ ?_⟩ | refine hK _ ?_);clear hK K
  refine RegJ.reads ?_;intro K hK;go_simp;refine ⟨.int .u8 (M.mem:Int),fun y hy=>?_,hK _ ?_⟩
  ·
   obtain ⟨f0,f1,f14⟩:=(show PartAt y w.heap.size M P from ((KeptW.bel hy).block _ (Array.getElem?_eq_some_iff.1 Hp1.out).1).trans Hp1.out).cells;go_simp
  clear hK K;refine RegJ.reads ?_;intro K hK;go_simp;(first | refine ⟨_,fun _ _=>rfl,hK _ ?_⟩ | refine hK _ ?_);clear hK K
  refine RegJ.reads ?_;intro K hK;go_simp;refine ⟨.int .u8 (M.mem:Int),fun y hy=>?_,hK _ ?_⟩
  ·
   obtain ⟨f0,f1,f14⟩:=(show PartAt y w.heap.size M P from ((KeptW.bel hy).block _ (Array.getElem?_eq_some_iff.1 Hp1.out).1).trans Hp1.out).cells;go_simp
  clear hK K;refine RegJ.turns (fun _=>trivial) ?_;intro K K0 hK hK0;go_simp;refine ⟨trivial,?_⟩;refine (callsIn_wide.2 (H2.out v3)).mono ?_;rintro e v4 ⟨rfl,hb7⟩;have v4k:KeptW w1 v4:=KeptW.mono v3k hb7;refine hK _ _ _ (fun _ h=>h) v4k ?_;clear hK K hK0 K0;iterate 3 (refine RegJ.reads ?_;intro K hK;go_simp;(first | refine ⟨_,fun _ _=>rfl,hK _ ?_⟩ | refine hK _ ?_);clear hK K)
  refine RegJ.nil ?_;have HJ:=Lib.hid (Hb1.out.trans ((KeptW.bel v4k).mono Hb1.out.size));go_wp2_with fail;go_ret;exact ⟨by rw [← Hok.out];rfl,HJ.out⟩
theorem toList_iff (b:ByteArray):b.toList=[] ↔ b.size=0:=by
 rw [ByteArray.toList_eq,show b.size=b.data.size from rfl, ← Array.length_toList];exact List.length_eq_zero_iff.symm
def may09 (c:CmdV):Bool :=
  !(decide (3<(c.client.toNat:Int)) || decide ((c.seq.toNat:Int)<1) || decide (16<(c.key.size:Int)) || decide (64<(c.old.size:Int)) || decide (64<(c.fresh.size:Int))) &&
    (if ((c.kind.toNat:Int) == 1)=true∨((c.kind.toNat:Int) == 3)=true then decide (¬ c.key.toList=[]) && decide (c.old.toList=[]) && decide (c.fresh.toList=[]) && ((c.set.toNat:Int) == 0)
     else if ((c.kind.toNat:Int) == 2)=true then decide (¬ c.key.toList=[]) && decide (c.old.toList=[]) && ((c.set.toNat:Int) == 0)
     else if ((c.kind.toNat:Int) == 4)=true then decide (¬ c.key.toList=[]) && ((c.set.toNat:Int) == 0)
     else if ((c.kind.toNat:Int) == 5)=true then decide (c.key.toList=[]) && decide (c.old.toList=[]) && decide (c.fresh.toList=[]) else false)
theorem may09_is (c:CmdV):may09 c=mayC c:=by
 unfold may09 mayC;rw [Bool.eq_iff_iff];simp only [toList_iff];generalize c.key.size=nk;generalize c.old.size=no;generalize c.fresh.size=nf;generalize c.client.toNat=ncl;generalize c.seq.toNat=nsq;generalize c.set.toNat=nst;by_cases h1:c.kind=1
 ·
  simp [h1,hasOf,mostOf];omega
 by_cases h2:c.kind=2
 ·
  simp [h2,hasOf,mostOf];omega
 by_cases h3:c.kind=3
 ·
  simp [h3,hasOf,mostOf];omega
 by_cases h4:c.kind=4
 ·
  simp [h4,hasOf,mostOf];omega
 by_cases h5:c.kind=5
 ·
  simp [h5,hasOf,mostOf];omega
 have g:∀ k:UInt8,c.kind≠k → ¬ (c.kind.toNat:Int)=(k.toNat:Int):=fun k h e=>h (UInt8.toNat_inj.1 (by omega))
 have g1:=g 1 h1;have g2:=g 2 h2;have g3:=g 3 h3;have g4:=g 4 h4;have g5:=g 5 h5;simp at g1 g2 g3 g4 g5;simp [h1,h2,h3,h4,h5,hasOf,g1,g2,g3,g4,g5]
set_option maxHeartbeats 8000000 in
theorem may09_any (c:CmdV) (w:World):Calls Tryz.prog 82 #[.agg (cmdCells c).toArray] w fun e w'=>e=.returned (.bool (mayC c))∧Below w.heap.size w w':=by
 obtain ⟨B,hB⟩:∃ B,mayC c=B:=⟨_,rfl⟩;rw [hB];rw [← may09_is] at hB;have HB:=Lib.hid hB;clear hB
 have hc1:=CmdAt.new w c;have hb1:=(Below.refl w.heap.size w).alloc (Nat.le_refl _) (.cells (cmdCells c).toArray 56);have HC:=Lib.hid hc1;clear hc1
 have Hb:=Lib.hid hb1;clear hb1
 rw [cmd_eta];go_enter Tryz.func82,Tryz.ntmps82
 go_upto_region 1 with fail;change Code.wp _ _ _ _ (w.alloc (.cells (cmdCells c).toArray 56));generalize w.alloc (.cells (cmdCells c).toArray 56)=w1 at *;obtain ⟨d0,d1,d2,d3,d4,d5,d6⟩:=HC.out.cells;go_wp2_with fail
 all_goals (go_ret;exact ⟨by rw [← HB.out];first | (simp [may09, *];done) | (simp [may09, *];intro _;omega) | (simp [may09, *];rw [Bool.eq_iff_iff];simp [*];done) | (simp [may09, *];rw [Bool.eq_iff_iff];simp [*];omega),Hb.out⟩)
theorem find_look {S:Sh} (h:Asc S.kv) (k:ByteArray):isAt S.kv k=(S.look k).isSome∧∀ v,S.look k=some v→S.kv.getD (idxOf S.kv k) pdflt=(k,v):=by
 have key:∀ v,S.look k=some v→isAt S.kv k=true∧S.kv.getD (idxOf S.kv k) pdflt=(k,v):=by
  intro v hv;have hm:=(look_kv k h v).1 hv;obtain ⟨L,R,e⟩:=List.append_of_mem hm;rw [e] at h ⊢;obtain ⟨f1,_⟩:=filt_eq h;obtain ⟨g1,_⟩:=idx_split k h;have hle:=idx_le (L++(k,v)::R) k;have hidx:idxOf (L++(k,v)::R) k=L.length:=by
   have:=congrArg List.length (g1.trans f1);rw [List.length_take] at this;omega
  refine ⟨?_,?_⟩
  ·
   unfold isAt;rw [hidx];simp
  ·
   rw [hidx,getD_right (Nat.le_refl _),Nat.sub_self];rfl
 refine ⟨?_,fun v hv=>(key v hv).2⟩;cases hl:S.look k with
 | some v=>exact (key v hl).1
 | none =>
  show isAt S.kv k=false;rw [Bool.eq_false_iff];intro hc;have hlt:=isAt_lt hc;unfold isAt at hc;rw [drop_pair hlt] at hc;simp only [decide_eq_true_eq] at hc;have hm:=getD_in hlt;generalize S.kv.getD (idxOf S.kv k) pdflt=p at *;have:=(look_kv k h p.2).2 (by rw [← hc];exact hm);rw [hl] at this;cases this
theorem pairs_setC {y:World} {g i n code:Nat} {text:ByteArray} {A:Option Addr} {L:Prs} {x:Value} (hp:PairsAt y A n L) (hty:PTy y A) (hr:RepAt y g code text):PairsAt (y.setCell ⟨g,i,none⟩ x) A n L∧PTy (y.setCell ⟨g,i,none⟩ x) A:=by
 have key:∀ b o,A=some ⟨b,o,none⟩→(y.setCell ⟨g,i,none⟩ x).heap[b]?=y.heap[b]?:=fun b o he=>by
  obtain ⟨cs,h1⟩:=hty b o he;refine Below.heap_setCell _ _ _ _ (fun e=>?_);have e':b=g:=e;subst e';unfold RepAt at hr;rw [hr] at h1;cases h1
 refine ⟨⟨hp.hlen,hp.hmax,fun j u hj=>?_⟩,fun b o he=>?_⟩
 ·
  obtain ⟨b,o,e1,e2,e3⟩:=hp.cells j u hj;refine ⟨b,o,e1,by simpa [World.setCell] using e2,fun k v hk=>?_⟩;rw [← e3 k v hk];simp only [World.cell?,key b o e1]
 ·
  obtain ⟨cs,h1⟩:=hty b o he;exact ⟨cs,(key b o he).trans h1⟩
structure RefI (w0:World) (c:CmdV) (w:World):Prop where
 bc:CmdAt w w0.heap.size c
 r1:RepAt w (w0.heap.size+1) 0 ByteArray.empty
 bel:Below w0.heap.size w0 w
theorem RefI.below {w0 w w':World} {c:CmdV} (h:RefI w0 c w) (hb:Below w.heap.size w w'):RefI w0 c w':=⟨h.bc.below hb,h.r1.below hb,h.bel.trans (hb.mono h.bel.size)⟩
theorem refI_start (w:World) (c:CmdV):RefI w c ((w.alloc (.cells (cmdCells c).toArray 56)).alloc (.cells (repCells 0 ByteArray.empty).toArray 27)):=by
 have b1:=(Below.refl w.heap.size w).alloc (Nat.le_refl _) (.cells (cmdCells c).toArray 56);have s1:(w.alloc (.cells (cmdCells c).toArray 56)).heap.size=w.heap.size+1:=by simp
 have v3:RepAt ((w.alloc (.cells (cmdCells c).toArray 56)).alloc (.cells (repCells 0 ByteArray.empty).toArray 27)) _ 0 ByteArray.empty:=heap_alloc_new _ _;rw [s1] at v3;exact ⟨(CmdAt.new w c).below ((Below.refl _ _).alloc (Nat.le_refl _) _),v3,b1.alloc b1.size _⟩
def repW (y:World) (g:Nat) (code:Nat) (text:ByteArray):World:=(y.setCell ⟨g,0,none⟩ (.int .u8 (code:Int))).setCell ⟨g,1,none⟩ (.string text)
structure RefEnd (w0 w:World) (code:Nat) (text:ByteArray):Prop where
 rep:RepAt w (w0.heap.size+1) code text
 bel:Below w0.heap.size w0 w
theorem ref_end {w0 w:World} {c:CmdV} (h:RefI w0 c w) (code:Nat) (text:ByteArray) {A:Option Addr} {n:Nat} {L:Prs} (hp:PairsAt w A n L) (hty:PTy w A) :
  RefEnd w0 (repW w (w0.heap.size+1) code text) code text∧PairsAt (repW w (w0.heap.size+1) code text) A n L∧PTy (repW w (w0.heap.size+1) code text) A:=by
 have r2:RepAt (w.setCell ⟨w0.heap.size+1,0,none⟩ (.int .u8 (code:Int))) (w0.heap.size+1) code ByteArray.empty:=h.r1.set rfl;obtain ⟨p1,p2⟩:=pairs_setC (i:=0) (x:=.int .u8 (code:Int)) hp hty h.r1;exact ⟨⟨r2.set rfl,below_setV (below_setV h.bel (by omega)) (by omega)⟩,pairs_setC p1 p2 r2⟩
def RefPostD (S:Sh) (c:CmdV) (w:World) (e:Ending) (w':World):Prop :=
 ∃ A' n' c',e=.returned (.tuple #[.slice A' n' c',repV (kvDo S c).code (kvDo S c).text])∧PairsAt w' A' n' (kvDo S c).sh.kv∧Below w.heap.size w w'∧POk A' n' c'∧PTy w' A'
theorem put_kv' {S:Sh} (h:Asc S.kv) (k v:ByteArray):(putSh k v S (S.look k)).kv=insL S.kv k v:=step_kv h ⟨1,k,v⟩
theorem del_kv' {S:Sh} (h:Asc S.kv) (k:ByteArray):(delSh k S (S.look k)).kv=rmL S.kv k:=step_kv h ⟨0,k,ByteArray.empty⟩
theorem may_kind {c:CmdV} (h:mayC c=true):c.kind=1∨c.kind=2∨c.kind=3∨c.kind=4∨c.kind=5:=by
 unfold mayC at h;simp only [Bool.and_eq_true] at h;have h1:=h.1.1.1.1.1.1.1;unfold hasOf at h1;by_cases e1:c.kind=1
 ·
  exact .inl e1
 by_cases e2:c.kind=2
 ·
  exact .inr (.inl e2)
 by_cases e3:c.kind=3
 ·
  exact .inr (.inr (.inl e3))
 by_cases e4:c.kind=4
 ·
  exact .inr (.inr (.inr (.inl e4)))
 by_cases e5:c.kind=5
 ·
  exact .inr (.inr (.inr (.inr e5)))
 rw [if_neg e1,if_neg e2,if_neg e3,if_neg e4,if_neg e5] at h1;cases h1
set_option maxHeartbeats 16000000 in
theorem do11_any (c:CmdV) (S:Sh) (A:Option Addr) (n cp:Nat) (w:World) (hp:PairsAt w A n S.kv) (hok:POk A n cp) (hty:PTy w A) (hasc:Asc S.kv) (hn:n≤1000000) :
  Calls Tryz.prog 85 #[.slice A n cp,.agg (cmdCells c).toArray] w (RefPostD S c w):=by
 have hI:=refI_start w c;have hcn:S.cnt=n:=by rw [cnt_kv];exact hp.hlen
 obtain ⟨hf1,hf2⟩:=find_look hasc c.key;have hmay:=fun y:World=>may09_any c y
 rw [cmd_eta] at hmay ⊢;have hfind:=fun (y:World) (hb:Below w.heap.size w y)=>find10_any A n cp S.kv c.key y (hp.below hb)
 rw [hf1] at hfind;have hputc:=fun (y:World) (hb:Below w.heap.size w y)=>put10_any A n cp S.kv c.key c.fresh y (hp.below hb) hok hasc hn
 have hdelc:=fun (y:World) (hb:Below w.heap.size w y)=>del10_any A n cp S.kv c.key y (hp.below hb) hok (hty.below hb) hasc hn
 obtain ⟨o,ho⟩:∃ o,kvDo S c=o:=⟨_,rfl⟩;unfold RefPostD;rw [ho];have HO:=Lib.hid ho;clear ho
 have Hput:=Lib.hid hputc;clear hputc
 have Hdel:=Lib.hid hdelc;clear hdelc
 have Hf2:=Lib.hid hf2;clear hf2 hf1
 have Hp:=Lib.hid (And.intro hp hty);clear hp hty
 have Hok:=Lib.hid hok;clear hok
 have Hasc:=Lib.hid hasc;clear hasc
 have HI:=Lib.hid hI;clear hI
 obtain ⟨I,hI⟩:∃ I,idxOf S.kv c.key=I:=⟨_,rfl⟩;rw [hI] at hfind;have HIx:=Lib.hid hI;clear hI
 obtain ⟨kn,hkn⟩:∃ k,c.kind=k:=⟨_,rfl⟩;have Hkn:=Lib.hid hkn;clear hkn
 cases hm:mayC c with
 | false =>
  rw [hm] at hmay;have Hmay:=Lib.hid hmay;clear hmay
  obtain rfl:o=⟨S,2,ByteArray.empty⟩:=by rw [← HO.out];unfold kvDo;rw [if_neg (by rw [hm];simp)]
  clear hm hfind;have Hkc:=Lib.hid (fun (y:World) (_:CmdAt y w.heap.size c)=>trivial);go_enter Tryz.func85,Tryz.ntmps85
  go_upto_region 1 with fail;change Code.wp _ _ _ _ ((w.alloc (.cells (cmdCells c).toArray 56)).alloc (.cells (repCells 0 ByteArray.empty).toArray 27));generalize (w.alloc (.cells (cmdCells c).toArray 56)).alloc (.cells (repCells 0 ByteArray.empty).toArray 27)=w1 at *;obtain ⟨d0,d1,d2,d3,d4,d5,d6⟩:=HI.out.bc.cells;go_wp2_with (first
   | ((with_reducible refine (Hmay.out _).mono ?_);clear Hmay;rintro e w2 ⟨rfl,hb2⟩;have HI2:=Lib.hid (HI.out.below hb2);clear hb2;obtain ⟨-, -, -, d32,d42,d52, -⟩:=HI2.out.bc.cells;obtain ⟨e22,e32⟩:=HI2.out.r1.cells;have e42:=HI2.out.r1.thawed 0;have e52:=HI2.out.r1.thawed 1;have d22:=Hkc.out _ HI2.out.bc))
  obtain ⟨z0,z1,z2⟩:=ref_end HI2.out 2 ByteArray.empty (Hp.out.1.below HI2.out.bel) (Hp.out.2.below HI2.out.bel);change bodyPost _ _ _ _ _ (repW w2 (w.heap.size+1) 2 ByteArray.empty);clear e22 e32 e42 e52;generalize repW w2 (w.heap.size+1) 2 ByteArray.empty=w9 at *;obtain ⟨y0,y1⟩:=z0.rep.cells;refine bodyPost_ret (v:=.tuple #[.slice A n cp,.agg #[.int .u8 (2:Int),.string ByteArray.empty]]) (by simp [results,Tryz.results85,go_sem,y0,y1] <;> rfl) rfl ?_;exact ⟨A,n,cp,rfl,z1,z0.bel,Hok.out,z2⟩
 | true =>
  rw [hm] at hmay;have Hmay:=Lib.hid hmay;clear hmay
  have hdo:kvDo S c=if c.kind=1 then kvGet S c else if c.kind=2 then kvPut S c else if c.kind=3 then kvDel S c else if c.kind=4 then kvCas S c else ⟨S,2,ByteArray.empty⟩:=by unfold kvDo;rw [if_pos hm]
  rw [HO.out] at hdo;have Hdo:=Lib.hid hdo;clear hdo
  rcases may_kind hm with h5 | h5 | h5 | h5 | h5 <;> rw [Hkn.out] at h5 <;> subst h5 <;> clear hm
  ·
   cases hl:S.look c.key with
   | none =>
    rw [hl] at hfind;have Hfind:=Lib.hid hfind;clear hfind
    obtain rfl:o=⟨S,1,ByteArray.empty⟩:=by rw [Hdo.out];simp only [Hkn.out];unfold kvGet;rw [hl];rfl
    clear hl;have Hkc:=Lib.hid (fun (y:World) (hb:CmdAt y w.heap.size c)=>show y.cell? ⟨w.heap.size,2,none⟩=some (.int .u8 1) by have:=hb.cells.2.2.1;rwa [Hkn.out] at this);go_enter Tryz.func85,Tryz.ntmps85
    go_upto_region 1 with fail;change Code.wp _ _ _ _ ((w.alloc (.cells (cmdCells c).toArray 56)).alloc (.cells (repCells 0 ByteArray.empty).toArray 27));generalize (w.alloc (.cells (cmdCells c).toArray 56)).alloc (.cells (repCells 0 ByteArray.empty).toArray 27)=w1 at *;obtain ⟨d0,d1,d2,d3,d4,d5,d6⟩:=HI.out.bc.cells;go_wp2_with (first
     | ((with_reducible refine (Hmay.out _).mono ?_);clear Hmay;rintro e w2 ⟨rfl,hb2⟩;have HI2:=Lib.hid (HI.out.below hb2);clear hb2;obtain ⟨-, -, -, d32,d42,d52, -⟩:=HI2.out.bc.cells;obtain ⟨e22,e32⟩:=HI2.out.r1.cells;have e42:=HI2.out.r1.thawed 0;have e52:=HI2.out.r1.thawed 1;have d22:=Hkc.out _ HI2.out.bc)
     | ((with_reducible refine (Hfind.out _ HI2.out.bel).mono ?_);clear Hfind;rintro e w3 ⟨rfl,hb3⟩;have HI3:=Lib.hid (HI2.out.below hb3);clear hb3;obtain ⟨-, -, -, d33,d43,d53, -⟩:=HI3.out.bc.cells;obtain ⟨e23,e33⟩:=HI3.out.r1.cells;have e43:=HI3.out.r1.thawed 0;have e53:=HI3.out.r1.thawed 1;have d23:=Hkc.out _ HI3.out.bc))
    obtain ⟨z0,z1,z2⟩:=ref_end HI3.out 1 ByteArray.empty (Hp.out.1.below HI3.out.bel) (Hp.out.2.below HI3.out.bel);change bodyPost _ _ _ _ _ (repW w3 (w.heap.size+1) 1 ByteArray.empty);clear e23 e33 e43 e53;generalize repW w3 (w.heap.size+1) 1 ByteArray.empty=w9 at *;obtain ⟨y0,y1⟩:=z0.rep.cells;refine bodyPost_ret (v:=.tuple #[.slice A n cp,.agg #[.int .u8 (1:Int),.string ByteArray.empty]]) (by simp [results,Tryz.results85,go_sem,y0,y1] <;> rfl) rfl ?_;exact ⟨A,n,cp,rfl,z1,z0.bel,Hok.out,z2⟩
   | some v =>
    rw [hl] at hfind;have Hfind:=Lib.hid hfind;clear hfind
    have hget:=Hf2.out v hl;have hIn:I<n:=by have h1:=(find_look Hasc.out c.key).1;rw [hl] at h1;have h2:=isAt_lt h1;rw [HIx.out,Hp.out.1.hlen] at h2;exact h2
    obtain ⟨ba,oa,rfl,hbl,_,hcv⟩:=pairs_get Hp.out.1 hIn;rw [HIx.out] at hget;rw [hget] at hcv;have Hcell:=Lib.hid (fun (y:World) (hb:Below w.heap.size w y)=>show y.cell? ⟨ba,oa+I*2+1,none⟩=some (.string v) from (hb.cell (p:=⟨ba,oa+I*2+1,none⟩) hbl).trans hcv);have hIn':(I:Int)<(n:Int):=by omega
    clear hbl hcv hget;obtain rfl:o=⟨S,0,v⟩:=by rw [Hdo.out];simp only [Hkn.out];unfold kvGet;rw [hl];rfl
    clear hl;have Hkc:=Lib.hid (fun (y:World) (hb:CmdAt y w.heap.size c)=>show y.cell? ⟨w.heap.size,2,none⟩=some (.int .u8 1) by have:=hb.cells.2.2.1;rwa [Hkn.out] at this);go_enter Tryz.func85,Tryz.ntmps85
    go_upto_region 1 with fail;change Code.wp _ _ _ _ ((w.alloc (.cells (cmdCells c).toArray 56)).alloc (.cells (repCells 0 ByteArray.empty).toArray 27));generalize (w.alloc (.cells (cmdCells c).toArray 56)).alloc (.cells (repCells 0 ByteArray.empty).toArray 27)=w1 at *;obtain ⟨d0,d1,d2,d3,d4,d5,d6⟩:=HI.out.bc.cells;go_wp2_with (first
     | ((with_reducible refine (Hmay.out _).mono ?_);clear Hmay;rintro e w2 ⟨rfl,hb2⟩;have HI2:=Lib.hid (HI.out.below hb2);clear hb2;obtain ⟨-, -, -, d32,d42,d52, -⟩:=HI2.out.bc.cells;obtain ⟨e22,e32⟩:=HI2.out.r1.cells;have e42:=HI2.out.r1.thawed 0;have e52:=HI2.out.r1.thawed 1;have d22:=Hkc.out _ HI2.out.bc)
     | ((with_reducible refine (Hfind.out _ HI2.out.bel).mono ?_);clear Hfind;rintro e w3 ⟨rfl,hb3⟩;have HI3:=Lib.hid (HI2.out.below hb3);clear hb3;obtain ⟨-, -, -, d33,d43,d53, -⟩:=HI3.out.bc.cells;obtain ⟨e23,e33⟩:=HI3.out.r1.cells;have e43:=HI3.out.r1.thawed 0;have e53:=HI3.out.r1.thawed 1;have d23:=Hkc.out _ HI3.out.bc;have x3:=Hcell.out w3 HI3.out.bel))
    obtain ⟨z0,z1,z2⟩:=ref_end HI3.out 0 v (Hp.out.1.below HI3.out.bel) (Hp.out.2.below HI3.out.bel);change bodyPost _ _ _ _ _ (repW w3 (w.heap.size+1) 0 v);clear e23 e33 e43 e53;generalize repW w3 (w.heap.size+1) 0 v=w9 at *;obtain ⟨y0,y1⟩:=z0.rep.cells;refine bodyPost_ret (v:=.tuple #[.slice (some ⟨ba,oa,none⟩) n cp,.agg #[.int .u8 (0:Int),.string v]]) (by simp [results,Tryz.results85,go_sem,y0,y1] <;> rfl) rfl ?_;exact ⟨(some ⟨ba,oa,none⟩),n,cp,rfl,z1,z0.bel,Hok.out,z2⟩
  ·
   cases hl:S.look c.key with
   | none =>
    rw [hl] at hfind;have Hfind:=Lib.hid hfind;clear hfind
    by_cases hfull:256≤n
    ·
     have hful' : ¬ (n:Int)<256:=by omega
     obtain rfl:o=⟨S,2,ByteArray.empty⟩:=by rw [Hdo.out];simp only [Hkn.out];unfold kvPut;rw [hl];simp only [show (2:UInt8)≠1 by decide,if_false,if_true];rw [if_pos (by rw [hcn];exact hfull)]
     clear hl hcn;have Hkc:=Lib.hid (fun (y:World) (hb:CmdAt y w.heap.size c)=>show y.cell? ⟨w.heap.size,2,none⟩=some (.int .u8 2) by have:=hb.cells.2.2.1;rwa [Hkn.out] at this);go_enter Tryz.func85,Tryz.ntmps85
     go_upto_region 1 with fail;change Code.wp _ _ _ _ ((w.alloc (.cells (cmdCells c).toArray 56)).alloc (.cells (repCells 0 ByteArray.empty).toArray 27));generalize (w.alloc (.cells (cmdCells c).toArray 56)).alloc (.cells (repCells 0 ByteArray.empty).toArray 27)=w1 at *;obtain ⟨d0,d1,d2,d3,d4,d5,d6⟩:=HI.out.bc.cells;go_wp2_with (first
      | ((with_reducible refine (Hmay.out _).mono ?_);clear Hmay;rintro e w2 ⟨rfl,hb2⟩;have HI2:=Lib.hid (HI.out.below hb2);clear hb2;obtain ⟨-, -, -, d32,d42,d52, -⟩:=HI2.out.bc.cells;obtain ⟨e22,e32⟩:=HI2.out.r1.cells;have e42:=HI2.out.r1.thawed 0;have e52:=HI2.out.r1.thawed 1;have d22:=Hkc.out _ HI2.out.bc)
      | ((with_reducible refine (Hfind.out _ HI2.out.bel).mono ?_);clear Hfind;rintro e w3 ⟨rfl,hb3⟩;have HI3:=Lib.hid (HI2.out.below hb3);clear hb3;obtain ⟨-, -, -, d33,d43,d53, -⟩:=HI3.out.bc.cells;obtain ⟨e23,e33⟩:=HI3.out.r1.cells;have e43:=HI3.out.r1.thawed 0;have e53:=HI3.out.r1.thawed 1;have d23:=Hkc.out _ HI3.out.bc))
     obtain ⟨z0,z1,z2⟩:=ref_end HI3.out 2 ByteArray.empty (Hp.out.1.below HI3.out.bel) (Hp.out.2.below HI3.out.bel);change bodyPost _ _ _ _ _ (repW w3 (w.heap.size+1) 2 ByteArray.empty);clear e23 e33 e43 e53;generalize repW w3 (w.heap.size+1) 2 ByteArray.empty=w9 at *;obtain ⟨y0,y1⟩:=z0.rep.cells;refine bodyPost_ret (v:=.tuple #[.slice A n cp,.agg #[.int .u8 (2:Int),.string ByteArray.empty]]) (by simp [results,Tryz.results85,go_sem,y0,y1] <;> rfl) rfl ?_;exact ⟨A,n,cp,rfl,z1,z0.bel,Hok.out,z2⟩
    ·
     have hful':(n:Int)<256:=by omega
     obtain rfl:o=⟨putSh c.key c.fresh S (S.look c.key),0,ByteArray.empty⟩:=by rw [Hdo.out];simp only [Hkn.out];unfold kvPut;rw [hl];simp only [show (2:UInt8)≠1 by decide,if_false,if_true];rw [if_neg (by rw [hcn];exact hfull)]
     clear hl hcn;have Hkc:=Lib.hid (fun (y:World) (hb:CmdAt y w.heap.size c)=>show y.cell? ⟨w.heap.size,2,none⟩=some (.int .u8 2) by have:=hb.cells.2.2.1;rwa [Hkn.out] at this);go_enter Tryz.func85,Tryz.ntmps85
     go_upto_region 1 with fail;change Code.wp _ _ _ _ ((w.alloc (.cells (cmdCells c).toArray 56)).alloc (.cells (repCells 0 ByteArray.empty).toArray 27));generalize (w.alloc (.cells (cmdCells c).toArray 56)).alloc (.cells (repCells 0 ByteArray.empty).toArray 27)=w1 at *;obtain ⟨d0,d1,d2,d3,d4,d5,d6⟩:=HI.out.bc.cells;go_wp2_with (first
      | ((with_reducible refine (Hmay.out _).mono ?_);clear Hmay;rintro e w2 ⟨rfl,hb2⟩;have HI2:=Lib.hid (HI.out.below hb2);clear hb2;obtain ⟨-, -, -, d32,d42,d52, -⟩:=HI2.out.bc.cells;obtain ⟨e22,e32⟩:=HI2.out.r1.cells;have e42:=HI2.out.r1.thawed 0;have e52:=HI2.out.r1.thawed 1;have d22:=Hkc.out _ HI2.out.bc)
      | ((with_reducible refine (Hfind.out _ HI2.out.bel).mono ?_);clear Hfind;rintro e w3 ⟨rfl,hb3⟩;have HI3:=Lib.hid (HI2.out.below hb3);clear hb3;obtain ⟨-, -, -, d33,d43,d53, -⟩:=HI3.out.bc.cells;obtain ⟨e23,e33⟩:=HI3.out.r1.cells;have e43:=HI3.out.r1.thawed 0;have e53:=HI3.out.r1.thawed 1;have d23:=Hkc.out _ HI3.out.bc)
      | ((with_reducible refine (Hput.out _ HI3.out.bel).mono ?_);rintro e w4 ⟨A4,n4,c4,rfl,hp4,hb4,hok4,hty4⟩;have HI4:=Lib.hid (HI3.out.below hb4);clear hb4;have Hp4:=Lib.hid (And.intro hp4 hty4);clear hp4 hty4;have Hok4:=Lib.hid hok4;clear hok4;obtain ⟨-, -, -, d34,d44,d54, -⟩:=HI4.out.bc.cells;obtain ⟨e24,e34⟩:=HI4.out.r1.cells;have e44:=HI4.out.r1.thawed 0;have e54:=HI4.out.r1.thawed 1;have d24:=Hkc.out _ HI4.out.bc))
     obtain ⟨z0,z1,z2⟩:=ref_end HI4.out 0 ByteArray.empty Hp4.out.1 Hp4.out.2;change bodyPost _ _ _ _ _ (repW w4 (w.heap.size+1) 0 ByteArray.empty);clear e24 e34 e44 e54;generalize repW w4 (w.heap.size+1) 0 ByteArray.empty=w9 at *;obtain ⟨y0,y1⟩:=z0.rep.cells;refine bodyPost_ret (v:=.tuple #[.slice A4 n4 c4,.agg #[.int .u8 (0:Int),.string ByteArray.empty]]) (by simp [results,Tryz.results85,go_sem,y0,y1] <;> rfl) rfl ?_;exact ⟨A4,n4,c4,rfl,(by rw [put_kv' Hasc.out];exact z1),z0.bel,Hok4.out,z2⟩
   | some v =>
    rw [hl] at hfind;have Hfind:=Lib.hid hfind;clear hfind
    have hget:=Hf2.out v hl;have hIn:I<n:=by have h1:=(find_look Hasc.out c.key).1;rw [hl] at h1;have h2:=isAt_lt h1;rw [HIx.out,Hp.out.1.hlen] at h2;exact h2
    obtain ⟨ba,oa,rfl,hbl,_,hcv⟩:=pairs_get Hp.out.1 hIn;rw [HIx.out] at hget;rw [hget] at hcv;have Hcell:=Lib.hid (fun (y:World) (hb:Below w.heap.size w y)=>show y.cell? ⟨ba,oa+I*2+1,none⟩=some (.string v) from (hb.cell (p:=⟨ba,oa+I*2+1,none⟩) hbl).trans hcv);have hIn':(I:Int)<(n:Int):=by omega
    clear hbl hcv hget;obtain rfl:o=⟨putSh c.key c.fresh S (S.look c.key),0,ByteArray.empty⟩:=by rw [Hdo.out];simp only [Hkn.out];unfold kvPut;rw [hl];rfl
    clear hl;have Hkc:=Lib.hid (fun (y:World) (hb:CmdAt y w.heap.size c)=>show y.cell? ⟨w.heap.size,2,none⟩=some (.int .u8 2) by have:=hb.cells.2.2.1;rwa [Hkn.out] at this);go_enter Tryz.func85,Tryz.ntmps85
    go_upto_region 1 with fail;change Code.wp _ _ _ _ ((w.alloc (.cells (cmdCells c).toArray 56)).alloc (.cells (repCells 0 ByteArray.empty).toArray 27));generalize (w.alloc (.cells (cmdCells c).toArray 56)).alloc (.cells (repCells 0 ByteArray.empty).toArray 27)=w1 at *;obtain ⟨d0,d1,d2,d3,d4,d5,d6⟩:=HI.out.bc.cells;go_wp2_with (first
     | ((with_reducible refine (Hmay.out _).mono ?_);clear Hmay;rintro e w2 ⟨rfl,hb2⟩;have HI2:=Lib.hid (HI.out.below hb2);clear hb2;obtain ⟨-, -, -, d32,d42,d52, -⟩:=HI2.out.bc.cells;obtain ⟨e22,e32⟩:=HI2.out.r1.cells;have e42:=HI2.out.r1.thawed 0;have e52:=HI2.out.r1.thawed 1;have d22:=Hkc.out _ HI2.out.bc)
     | ((with_reducible refine (Hfind.out _ HI2.out.bel).mono ?_);clear Hfind;rintro e w3 ⟨rfl,hb3⟩;have HI3:=Lib.hid (HI2.out.below hb3);clear hb3;obtain ⟨-, -, -, d33,d43,d53, -⟩:=HI3.out.bc.cells;obtain ⟨e23,e33⟩:=HI3.out.r1.cells;have e43:=HI3.out.r1.thawed 0;have e53:=HI3.out.r1.thawed 1;have d23:=Hkc.out _ HI3.out.bc;have x3:=Hcell.out w3 HI3.out.bel)
     | ((with_reducible refine (Hput.out _ HI3.out.bel).mono ?_);rintro e w4 ⟨A4,n4,c4,rfl,hp4,hb4,hok4,hty4⟩;have HI4:=Lib.hid (HI3.out.below hb4);clear hb4;have Hp4:=Lib.hid (And.intro hp4 hty4);clear hp4 hty4;have Hok4:=Lib.hid hok4;clear hok4;obtain ⟨-, -, -, d34,d44,d54, -⟩:=HI4.out.bc.cells;obtain ⟨e24,e34⟩:=HI4.out.r1.cells;have e44:=HI4.out.r1.thawed 0;have e54:=HI4.out.r1.thawed 1;have d24:=Hkc.out _ HI4.out.bc))
    obtain ⟨z0,z1,z2⟩:=ref_end HI4.out 0 ByteArray.empty Hp4.out.1 Hp4.out.2;change bodyPost _ _ _ _ _ (repW w4 (w.heap.size+1) 0 ByteArray.empty);clear e24 e34 e44 e54;generalize repW w4 (w.heap.size+1) 0 ByteArray.empty=w9 at *;obtain ⟨y0,y1⟩:=z0.rep.cells;refine bodyPost_ret (v:=.tuple #[.slice A4 n4 c4,.agg #[.int .u8 (0:Int),.string ByteArray.empty]]) (by simp [results,Tryz.results85,go_sem,y0,y1] <;> rfl) rfl ?_;exact ⟨A4,n4,c4,rfl,(by rw [put_kv' Hasc.out];exact z1),z0.bel,Hok4.out,z2⟩
  ·
   cases hl:S.look c.key with
   | none =>
    rw [hl] at hfind;have Hfind:=Lib.hid hfind;clear hfind
    obtain rfl:o=⟨S,1,ByteArray.empty⟩:=by rw [Hdo.out];simp only [Hkn.out];unfold kvDel;rw [hl];rfl
    clear hl;have Hkc:=Lib.hid (fun (y:World) (hb:CmdAt y w.heap.size c)=>show y.cell? ⟨w.heap.size,2,none⟩=some (.int .u8 3) by have:=hb.cells.2.2.1;rwa [Hkn.out] at this);go_enter Tryz.func85,Tryz.ntmps85
    go_upto_region 1 with fail;change Code.wp _ _ _ _ ((w.alloc (.cells (cmdCells c).toArray 56)).alloc (.cells (repCells 0 ByteArray.empty).toArray 27));generalize (w.alloc (.cells (cmdCells c).toArray 56)).alloc (.cells (repCells 0 ByteArray.empty).toArray 27)=w1 at *;obtain ⟨d0,d1,d2,d3,d4,d5,d6⟩:=HI.out.bc.cells;go_wp2_with (first
     | ((with_reducible refine (Hmay.out _).mono ?_);clear Hmay;rintro e w2 ⟨rfl,hb2⟩;have HI2:=Lib.hid (HI.out.below hb2);clear hb2;obtain ⟨-, -, -, d32,d42,d52, -⟩:=HI2.out.bc.cells;obtain ⟨e22,e32⟩:=HI2.out.r1.cells;have e42:=HI2.out.r1.thawed 0;have e52:=HI2.out.r1.thawed 1;have d22:=Hkc.out _ HI2.out.bc)
     | ((with_reducible refine (Hfind.out _ HI2.out.bel).mono ?_);clear Hfind;rintro e w3 ⟨rfl,hb3⟩;have HI3:=Lib.hid (HI2.out.below hb3);clear hb3;obtain ⟨-, -, -, d33,d43,d53, -⟩:=HI3.out.bc.cells;obtain ⟨e23,e33⟩:=HI3.out.r1.cells;have e43:=HI3.out.r1.thawed 0;have e53:=HI3.out.r1.thawed 1;have d23:=Hkc.out _ HI3.out.bc))
    obtain ⟨z0,z1,z2⟩:=ref_end HI3.out 1 ByteArray.empty (Hp.out.1.below HI3.out.bel) (Hp.out.2.below HI3.out.bel);change bodyPost _ _ _ _ _ (repW w3 (w.heap.size+1) 1 ByteArray.empty);clear e23 e33 e43 e53;generalize repW w3 (w.heap.size+1) 1 ByteArray.empty=w9 at *;obtain ⟨y0,y1⟩:=z0.rep.cells;refine bodyPost_ret (v:=.tuple #[.slice A n cp,.agg #[.int .u8 (1:Int),.string ByteArray.empty]]) (by simp [results,Tryz.results85,go_sem,y0,y1] <;> rfl) rfl ?_;exact ⟨A,n,cp,rfl,z1,z0.bel,Hok.out,z2⟩
   | some v =>
    rw [hl] at hfind;have Hfind:=Lib.hid hfind;clear hfind
    have hget:=Hf2.out v hl;have hIn:I<n:=by have h1:=(find_look Hasc.out c.key).1;rw [hl] at h1;have h2:=isAt_lt h1;rw [HIx.out,Hp.out.1.hlen] at h2;exact h2
    obtain ⟨ba,oa,rfl,hbl,_,hcv⟩:=pairs_get Hp.out.1 hIn;rw [HIx.out] at hget;rw [hget] at hcv;have Hcell:=Lib.hid (fun (y:World) (hb:Below w.heap.size w y)=>show y.cell? ⟨ba,oa+I*2+1,none⟩=some (.string v) from (hb.cell (p:=⟨ba,oa+I*2+1,none⟩) hbl).trans hcv);have hIn':(I:Int)<(n:Int):=by omega
    clear hbl hcv hget;obtain rfl:o=⟨delSh c.key S (S.look c.key),0,v⟩:=by rw [Hdo.out];simp only [Hkn.out];unfold kvDel;rw [hl];rfl
    clear hl;have Hkc:=Lib.hid (fun (y:World) (hb:CmdAt y w.heap.size c)=>show y.cell? ⟨w.heap.size,2,none⟩=some (.int .u8 3) by have:=hb.cells.2.2.1;rwa [Hkn.out] at this);go_enter Tryz.func85,Tryz.ntmps85
    go_upto_region 1 with fail;change Code.wp _ _ _ _ ((w.alloc (.cells (cmdCells c).toArray 56)).alloc (.cells (repCells 0 ByteArray.empty).toArray 27));generalize (w.alloc (.cells (cmdCells c).toArray 56)).alloc (.cells (repCells 0 ByteArray.empty).toArray 27)=w1 at *;obtain ⟨d0,d1,d2,d3,d4,d5,d6⟩:=HI.out.bc.cells;go_wp2_with (first
     | ((with_reducible refine (Hmay.out _).mono ?_);clear Hmay;rintro e w2 ⟨rfl,hb2⟩;have HI2:=Lib.hid (HI.out.below hb2);clear hb2;obtain ⟨-, -, -, d32,d42,d52, -⟩:=HI2.out.bc.cells;obtain ⟨e22,e32⟩:=HI2.out.r1.cells;have e42:=HI2.out.r1.thawed 0;have e52:=HI2.out.r1.thawed 1;have d22:=Hkc.out _ HI2.out.bc)
     | ((with_reducible refine (Hfind.out _ HI2.out.bel).mono ?_);clear Hfind;rintro e w3 ⟨rfl,hb3⟩;have HI3:=Lib.hid (HI2.out.below hb3);clear hb3;obtain ⟨-, -, -, d33,d43,d53, -⟩:=HI3.out.bc.cells;obtain ⟨e23,e33⟩:=HI3.out.r1.cells;have e43:=HI3.out.r1.thawed 0;have e53:=HI3.out.r1.thawed 1;have d23:=Hkc.out _ HI3.out.bc;have x3:=Hcell.out w3 HI3.out.bel)
     | ((with_reducible refine (Hdel.out _ HI3.out.bel).mono ?_);rintro e w4 ⟨A4,n4,c4,rfl,hp4,hb4,hok4,hty4⟩;have HI4:=Lib.hid (HI3.out.below hb4);clear hb4;have Hp4:=Lib.hid (And.intro hp4 hty4);clear hp4 hty4;have Hok4:=Lib.hid hok4;clear hok4;obtain ⟨-, -, -, d34,d44,d54, -⟩:=HI4.out.bc.cells;obtain ⟨e24,e34⟩:=HI4.out.r1.cells;have e44:=HI4.out.r1.thawed 0;have e54:=HI4.out.r1.thawed 1;have d24:=Hkc.out _ HI4.out.bc))
    obtain ⟨z0,z1,z2⟩:=ref_end HI4.out 0 v Hp4.out.1 Hp4.out.2;change bodyPost _ _ _ _ _ (repW w4 (w.heap.size+1) 0 v);clear e24 e34 e44 e54;generalize repW w4 (w.heap.size+1) 0 v=w9 at *;obtain ⟨y0,y1⟩:=z0.rep.cells;refine bodyPost_ret (v:=.tuple #[.slice A4 n4 c4,.agg #[.int .u8 (0:Int),.string v]]) (by simp [results,Tryz.results85,go_sem,y0,y1] <;> rfl) rfl ?_;exact ⟨A4,n4,c4,rfl,(by rw [del_kv' Hasc.out];exact z1),z0.bel,Hok4.out,z2⟩
  ·
   cases hl:S.look c.key with
   | none =>
    rw [hl] at hfind;have Hfind:=Lib.hid hfind;clear hfind
    obtain rfl:o=⟨S,1,ByteArray.empty⟩:=by rw [Hdo.out];simp only [Hkn.out];unfold kvCas;rw [hl];rfl
    clear hl;have Hkc:=Lib.hid (fun (y:World) (hb:CmdAt y w.heap.size c)=>show y.cell? ⟨w.heap.size,2,none⟩=some (.int .u8 4) by have:=hb.cells.2.2.1;rwa [Hkn.out] at this);go_enter Tryz.func85,Tryz.ntmps85
    go_upto_region 1 with fail;change Code.wp _ _ _ _ ((w.alloc (.cells (cmdCells c).toArray 56)).alloc (.cells (repCells 0 ByteArray.empty).toArray 27));generalize (w.alloc (.cells (cmdCells c).toArray 56)).alloc (.cells (repCells 0 ByteArray.empty).toArray 27)=w1 at *;obtain ⟨d0,d1,d2,d3,d4,d5,d6⟩:=HI.out.bc.cells;go_wp2_with (first
     | ((with_reducible refine (Hmay.out _).mono ?_);clear Hmay;rintro e w2 ⟨rfl,hb2⟩;have HI2:=Lib.hid (HI.out.below hb2);clear hb2;obtain ⟨-, -, -, d32,d42,d52, -⟩:=HI2.out.bc.cells;obtain ⟨e22,e32⟩:=HI2.out.r1.cells;have e42:=HI2.out.r1.thawed 0;have e52:=HI2.out.r1.thawed 1;have d22:=Hkc.out _ HI2.out.bc)
     | ((with_reducible refine (Hfind.out _ HI2.out.bel).mono ?_);clear Hfind;rintro e w3 ⟨rfl,hb3⟩;have HI3:=Lib.hid (HI2.out.below hb3);clear hb3;obtain ⟨-, -, -, d33,d43,d53, -⟩:=HI3.out.bc.cells;obtain ⟨e23,e33⟩:=HI3.out.r1.cells;have e43:=HI3.out.r1.thawed 0;have e53:=HI3.out.r1.thawed 1;have d23:=Hkc.out _ HI3.out.bc))
    obtain ⟨z0,z1,z2⟩:=ref_end HI3.out 1 ByteArray.empty (Hp.out.1.below HI3.out.bel) (Hp.out.2.below HI3.out.bel);change bodyPost _ _ _ _ _ (repW w3 (w.heap.size+1) 1 ByteArray.empty);clear e23 e33 e43 e53;generalize repW w3 (w.heap.size+1) 1 ByteArray.empty=w9 at *;obtain ⟨y0,y1⟩:=z0.rep.cells;refine bodyPost_ret (v:=.tuple #[.slice A n cp,.agg #[.int .u8 (1:Int),.string ByteArray.empty]]) (by simp [results,Tryz.results85,go_sem,y0,y1] <;> rfl) rfl ?_;exact ⟨A,n,cp,rfl,z1,z0.bel,Hok.out,z2⟩
   | some v =>
    rw [hl] at hfind;have Hfind:=Lib.hid hfind;clear hfind
    have hget:=Hf2.out v hl;have hIn:I<n:=by have h1:=(find_look Hasc.out c.key).1;rw [hl] at h1;have h2:=isAt_lt h1;rw [HIx.out,Hp.out.1.hlen] at h2;exact h2
    obtain ⟨ba,oa,rfl,hbl,_,hcv⟩:=pairs_get Hp.out.1 hIn;rw [HIx.out] at hget;rw [hget] at hcv;have Hcell:=Lib.hid (fun (y:World) (hb:Below w.heap.size w y)=>show y.cell? ⟨ba,oa+I*2+1,none⟩=some (.string v) from (hb.cell (p:=⟨ba,oa+I*2+1,none⟩) hbl).trans hcv);have hIn':(I:Int)<(n:Int):=by omega
    clear hbl hcv hget;by_cases hv:v=c.old
    ·
     obtain rfl:o=⟨putSh c.key c.fresh S (S.look c.key),0,ByteArray.empty⟩:=by rw [Hdo.out];simp only [Hkn.out];unfold kvCas;rw [hl];simp [hv]
     clear hl;subst hv;have Hkc:=Lib.hid (fun (y:World) (hb:CmdAt y w.heap.size c)=>show y.cell? ⟨w.heap.size,2,none⟩=some (.int .u8 4) by have:=hb.cells.2.2.1;rwa [Hkn.out] at this);go_enter Tryz.func85,Tryz.ntmps85
     go_upto_region 1 with fail;change Code.wp _ _ _ _ ((w.alloc (.cells (cmdCells c).toArray 56)).alloc (.cells (repCells 0 ByteArray.empty).toArray 27));generalize (w.alloc (.cells (cmdCells c).toArray 56)).alloc (.cells (repCells 0 ByteArray.empty).toArray 27)=w1 at *;obtain ⟨d0,d1,d2,d3,d4,d5,d6⟩:=HI.out.bc.cells;go_wp2_with (first
      | ((with_reducible refine (Hmay.out _).mono ?_);clear Hmay;rintro e w2 ⟨rfl,hb2⟩;have HI2:=Lib.hid (HI.out.below hb2);clear hb2;obtain ⟨-, -, -, d32,d42,d52, -⟩:=HI2.out.bc.cells;obtain ⟨e22,e32⟩:=HI2.out.r1.cells;have e42:=HI2.out.r1.thawed 0;have e52:=HI2.out.r1.thawed 1;have d22:=Hkc.out _ HI2.out.bc)
      | ((with_reducible refine (Hfind.out _ HI2.out.bel).mono ?_);clear Hfind;rintro e w3 ⟨rfl,hb3⟩;have HI3:=Lib.hid (HI2.out.below hb3);clear hb3;obtain ⟨-, -, -, d33,d43,d53, -⟩:=HI3.out.bc.cells;obtain ⟨e23,e33⟩:=HI3.out.r1.cells;have e43:=HI3.out.r1.thawed 0;have e53:=HI3.out.r1.thawed 1;have d23:=Hkc.out _ HI3.out.bc;have x3:=Hcell.out w3 HI3.out.bel)
      | ((with_reducible refine (Hput.out _ HI3.out.bel).mono ?_);rintro e w4 ⟨A4,n4,c4,rfl,hp4,hb4,hok4,hty4⟩;have HI4:=Lib.hid (HI3.out.below hb4);clear hb4;have Hp4:=Lib.hid (And.intro hp4 hty4);clear hp4 hty4;have Hok4:=Lib.hid hok4;clear hok4;obtain ⟨-, -, -, d34,d44,d54, -⟩:=HI4.out.bc.cells;obtain ⟨e24,e34⟩:=HI4.out.r1.cells;have e44:=HI4.out.r1.thawed 0;have e54:=HI4.out.r1.thawed 1;have d24:=Hkc.out _ HI4.out.bc))
     obtain ⟨z0,z1,z2⟩:=ref_end HI4.out 0 ByteArray.empty Hp4.out.1 Hp4.out.2;change bodyPost _ _ _ _ _ (repW w4 (w.heap.size+1) 0 ByteArray.empty);clear e24 e34 e44 e54;generalize repW w4 (w.heap.size+1) 0 ByteArray.empty=w9 at *;obtain ⟨y0,y1⟩:=z0.rep.cells;refine bodyPost_ret (v:=.tuple #[.slice A4 n4 c4,.agg #[.int .u8 (0:Int),.string ByteArray.empty]]) (by simp [results,Tryz.results85,go_sem,y0,y1] <;> rfl) rfl ?_;exact ⟨A4,n4,c4,rfl,(by rw [put_kv' Hasc.out];exact z1),z0.bel,Hok4.out,z2⟩
    ·
     obtain rfl:o=⟨S,2,v⟩:=by rw [Hdo.out];simp only [Hkn.out];unfold kvCas;rw [hl];simp [hv]
     clear hl;have hvl:(v.toList == c.old.toList)=false:=by
      rw [ByteArray.toList_eq,ByteArray.toList_eq,beq_eq_false_iff_ne];intro e;exact hv (by cases v;cases hc:c.old;rw [hc] at e;congr 1;exact Array.toList_inj.1 e)
     have Hkc:=Lib.hid (fun (y:World) (hb:CmdAt y w.heap.size c)=>show y.cell? ⟨w.heap.size,2,none⟩=some (.int .u8 4) by have:=hb.cells.2.2.1;rwa [Hkn.out] at this);go_enter Tryz.func85,Tryz.ntmps85
     go_upto_region 1 with fail;change Code.wp _ _ _ _ ((w.alloc (.cells (cmdCells c).toArray 56)).alloc (.cells (repCells 0 ByteArray.empty).toArray 27));generalize (w.alloc (.cells (cmdCells c).toArray 56)).alloc (.cells (repCells 0 ByteArray.empty).toArray 27)=w1 at *;obtain ⟨d0,d1,d2,d3,d4,d5,d6⟩:=HI.out.bc.cells;go_wp2_with (first
      | ((with_reducible refine (Hmay.out _).mono ?_);clear Hmay;rintro e w2 ⟨rfl,hb2⟩;have HI2:=Lib.hid (HI.out.below hb2);clear hb2;obtain ⟨-, -, -, d32,d42,d52, -⟩:=HI2.out.bc.cells;obtain ⟨e22,e32⟩:=HI2.out.r1.cells;have e42:=HI2.out.r1.thawed 0;have e52:=HI2.out.r1.thawed 1;have d22:=Hkc.out _ HI2.out.bc)
      | ((with_reducible refine (Hfind.out _ HI2.out.bel).mono ?_);clear Hfind;rintro e w3 ⟨rfl,hb3⟩;have HI3:=Lib.hid (HI2.out.below hb3);clear hb3;obtain ⟨-, -, -, d33,d43,d53, -⟩:=HI3.out.bc.cells;obtain ⟨e23,e33⟩:=HI3.out.r1.cells;have e43:=HI3.out.r1.thawed 0;have e53:=HI3.out.r1.thawed 1;have d23:=Hkc.out _ HI3.out.bc;have x3:=Hcell.out w3 HI3.out.bel))
     obtain ⟨z0,z1,z2⟩:=ref_end HI3.out 2 v (Hp.out.1.below HI3.out.bel) (Hp.out.2.below HI3.out.bel);change bodyPost _ _ _ _ _ (repW w3 (w.heap.size+1) 2 v);clear e23 e33 e43 e53;generalize repW w3 (w.heap.size+1) 2 v=w9 at *;obtain ⟨y0,y1⟩:=z0.rep.cells;refine bodyPost_ret (v:=.tuple #[.slice (some ⟨ba,oa,none⟩) n cp,.agg #[.int .u8 (2:Int),.string v]]) (by simp [results,Tryz.results85,go_sem,y0,y1] <;> rfl) rfl ?_;exact ⟨(some ⟨ba,oa,none⟩),n,cp,rfl,z1,z0.bel,Hok.out,z2⟩
  ·
   obtain rfl:o=⟨S,2,ByteArray.empty⟩:=by rw [Hdo.out];simp only [Hkn.out];rfl
   clear hfind;have Hkc:=Lib.hid (fun (y:World) (hb:CmdAt y w.heap.size c)=>show y.cell? ⟨w.heap.size,2,none⟩=some (.int .u8 5) by have:=hb.cells.2.2.1;rwa [Hkn.out] at this);go_enter Tryz.func85,Tryz.ntmps85
   go_upto_region 1 with fail;change Code.wp _ _ _ _ ((w.alloc (.cells (cmdCells c).toArray 56)).alloc (.cells (repCells 0 ByteArray.empty).toArray 27));generalize (w.alloc (.cells (cmdCells c).toArray 56)).alloc (.cells (repCells 0 ByteArray.empty).toArray 27)=w1 at *;obtain ⟨d0,d1,d2,d3,d4,d5,d6⟩:=HI.out.bc.cells;go_wp2_with (first
    | ((with_reducible refine (Hmay.out _).mono ?_);clear Hmay;rintro e w2 ⟨rfl,hb2⟩;have HI2:=Lib.hid (HI.out.below hb2);clear hb2;obtain ⟨-, -, -, d32,d42,d52, -⟩:=HI2.out.bc.cells;obtain ⟨e22,e32⟩:=HI2.out.r1.cells;have e42:=HI2.out.r1.thawed 0;have e52:=HI2.out.r1.thawed 1;have d22:=Hkc.out _ HI2.out.bc))
   obtain ⟨z0,z1,z2⟩:=ref_end HI2.out 2 ByteArray.empty (Hp.out.1.below HI2.out.bel) (Hp.out.2.below HI2.out.bel);change bodyPost _ _ _ _ _ (repW w2 (w.heap.size+1) 2 ByteArray.empty);clear e22 e32 e42 e52;generalize repW w2 (w.heap.size+1) 2 ByteArray.empty=w9 at *;obtain ⟨y0,y1⟩:=z0.rep.cells;refine bodyPost_ret (v:=.tuple #[.slice A n cp,.agg #[.int .u8 (2:Int),.string ByteArray.empty]]) (by simp [results,Tryz.results85,go_sem,y0,y1] <;> rfl) rfl ?_;exact ⟨A,n,cp,rfl,z1,z0.bel,Hok.out,z2⟩
end Go.Proofs.YtbckjgageofldaaGreat
