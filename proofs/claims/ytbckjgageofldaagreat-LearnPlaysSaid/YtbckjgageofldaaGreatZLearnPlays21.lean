/- Deltas: Diff. No condition but the machines' own. -/
import Derived.Test.YtbckjgageofldaaGreatZLearnPlays19
import Derived.Test.YtbckjgageofldaaGreatZLearnPlays14
import Derived.Test.YtbckjgageofldaaGreatZLearnPlays20
import Derived.Test.YtbckjgageofldaaGreatZLearnPlays12
import Derived.Test.YtbckjgageofldaaGreatZLearnPlays11
import Derived.Test.YtbckjgageofldaaGreatZLearnPlays15
set_option maxRecDepth 100000
set_option maxHeartbeats 16000000
namespace Go.Proofs.YtbckjgageofldaaGreat
open Go.RowKit
def diffM (A B:MacV):List UInt8:=sumB A++sumB B++[UInt8.ofNat B.mem]++clientsB A.tab B.tab++keysDB (diffL A.sh.kv B.sh.kv)
theorem chg_pair {A B:Prs} (hA:Asc A) (hB:Asc B) (h:∀ p ∈ B,PairOk p) (h2:∀ p ∈ A,PairOk p):∀ c ∈ diffL A B,ChgOk c:=by
 intro c hc;have he:=(diff_elem _ (Nat.le_refl _) hA hB).1 c hc;refine ⟨?_,?_⟩
 ·
  rcases diff_keys _ (Nat.le_refl _) hc with ⟨v,h1⟩ | ⟨v,h1⟩
  ·
   exact (h2 _ h1).1
  ·
   exact (h _ h1).1
 ·
  rcases he.b with ⟨_,h1⟩ | ⟨_,h1,_⟩
  ·
   exact (h _ h1).2
  ·
   rw [h1];decide
theorem sumB_len (M:MacV):(sumB M).length=8:=leB_len _ 8
theorem mac_loads (ρ:Operand→Value) (o:Oper) (a:Operand) (h:o.op=.load 38 a) {g:Nat} {M:MacV} {P:Option Addr} (ha:ρ a=.pointer (some ⟨g,0,none⟩)) {y:World} (hm:MacAt y g M P) :
  (execOp ρ o).run Tryz.prog y=.ok (.value (macV M P)) y:=by
 simp only [execOp,h,ha];unfold macV;rw [mac_eta M P];obtain ⟨⟨m0,m1,m14⟩,⟨m2,m3,m4⟩,⟨m5,m6,m7⟩,⟨m8,m9,m10⟩,⟨m11,m12,m13⟩⟩:=hm.cells;go_simp
theorem ddiff_any (A B:MacV) (X Y:Tr) (hA:MacFit A) (hB:MacFit B) (w:World) (hX:TreeAt w X) (hY:TreeAt w Y) (hsX:X.sh=A.sh) (hsY:Y.sh=B.sh) :
  Calls Tryz.prog 76 #[macV A X.ptr,macV B Y.ptr] w fun e w'=>e=.returned (.tuple #[.string (if A.all=B.all then ⟨(diffM A B).toArray⟩ else ByteArray.empty),.int .i64 (if A.all=B.all then 0 else 2)])∧Below w.heap.size w w':=by
 obtain ⟨i0,hi0,hz0,hs0,hb0⟩:=info_parts info8;obtain ⟨PA,hPA⟩:∃ P,X.ptr=P:=⟨_,rfl⟩;obtain ⟨PB,hPB⟩:∃ P,Y.ptr=P:=⟨_,rfl⟩;have hb1:=(Below.refl w.heap.size w).alloc (Nat.le_refl _) (.cells (macCells A PA).toArray 38);have hm1:MacAt (w.alloc (.cells (macCells A PA).toArray 38)) w.heap.size A PA:=heap_alloc_new _ _;have hb2:=(Below.refl _ (w.alloc (.cells (macCells A PA).toArray 38))).alloc (Nat.le_refl _) (.cells (macCells B PB).toArray 38);have hm2:MacAt ((w.alloc (.cells (macCells A PA).toArray 38)).alloc (.cells (macCells B PB).toArray 38)) (w.heap.size+1) B PB:=by
  have:=heap_alloc_new (w.alloc (.cells (macCells A PA).toArray 38)) (.cells (macCells B PB).toArray 38);rw [World.size_alloc] at this;exact this
 have hm1':=hm1.below hb2;have h12:=hb1.trans (hb2.mono hb1.size);have hX2:=hX.below h12;have hY2:=hY.below h12;obtain ⟨VA,hVA⟩:∃ V,macV A PA=V:=⟨_,rfl⟩;obtain ⟨VB,hVB⟩:∃ V,macV B PB=V:=⟨_,rfl⟩;have HVA:=Lib.hid hVA;have HVB:=Lib.hid hVB;have hall:=fun y:World=>mall_any A PA y
 have hall2:=fun y:World=>mall_any B PB y
 rw [hVA] at hall;rw [hVB] at hall2;have Hall:=Lib.hid hall;clear hall
 have Hall2:=Lib.hid hall2;clear hall2
 have HPA:=Lib.hid hPA;have HPB:=Lib.hid hPB;rw [hPA,hPB];clear hPA hPB hVA hVB hb1 hb2 hm1 hX hY;have Hfit:=Lib.hid (And.intro hA hB);obtain ⟨R,hR⟩:∃ R:ByteArray,(if A.all=B.all then (⟨(diffM A B).toArray⟩:ByteArray) else ByteArray.empty)=R:=⟨_,rfl⟩;obtain ⟨rc,hrc⟩:∃ c:Int,(if A.all=B.all then 0 else 2:Int)=c:=⟨_,rfl⟩;rw [hR,hrc];have HR:=Lib.hid (And.intro hR hrc);clear hR hrc
 unfold macV;rw [mac_eta A PA,mac_eta B PB];have haa:A.all<128:=hA.all;have hba:B.all<128:=hB.all;have hbm:B.mem<128:=hB.mem;clear hA hB;go_enter Tryz.func76,Tryz.ntmps76
 go_upto_region 1 with fail;change Code.wp _ _ _ _ ((w.alloc (.cells (macCells A PA).toArray 38)).alloc (.cells (macCells B PB).toArray 38));generalize (w.alloc (.cells (macCells A PA).toArray 38)).alloc (.cells (macCells B PB).toArray 38)=w2 at *;have HMA:=Lib.hid hm1';clear hm1'
 have HMB:=Lib.hid hm2;clear hm2
 have H12:=Lib.hid h12;clear h12
 have HXY:=Lib.hid (And.intro hX2 hY2);clear hX2 hY2
 have hvA:=HVA.out;unfold macV at hvA;rw [mac_eta A PA] at hvA;have hvB:=HVB.out;unfold macV at hvB;rw [mac_eta B PB] at hvB;rw [hvA,hvB];clear hvA hvB;refine (wpIn_wide (n:=1)).1 ?_;refine RegK.wpIn_region_can (F:=Fence.wide) (KeptW w2) [(0,0),(2,0),(1,1),(3,1),(4,0)] (by kernel_rfl) (by kernel_rfl) (by kernel_rfl) (fun _ _ d _ _ h=>by cases d <;> exact h) ⟨rfl,rfl,rfl,Nat.le_refl _,fun _ _=>rfl⟩ ?_;dsimp only [RegK.pick,List.getElem?_cons_zero,List.getElem?_cons_succ];change RegK.Can _ _ _ _ _ _ _ _ w2.drew;have hkd:KeptW w2 w2.drew:=⟨rfl,rfl,rfl,Nat.le_refl _,fun _ _=>rfl⟩;generalize w2.drew=z1 at *;refine RegK.can_reads ?_;intro K hK;rw [if_pos (by simp [Region.wanted])];refine ⟨VA,fun y hy=>?_,hK _ ?_⟩
 ·
  rw [← HVA.out];exact mac_loads _ _ _ rfl rfl (HMA.out.below (KeptW.bel hy))
 clear hK K;go_simp;refine RegK.can_reads ?_;intro K hK;rw [if_pos (by simp [Region.wanted])];refine ⟨VB,fun y hy=>?_,hK _ ?_⟩
 ·
  rw [← HVB.out];exact mac_loads _ _ _ rfl rfl (HMB.out.below (KeptW.bel hy))
 clear hK K;go_simp;refine RegK.can_turns (fun _=>trivial) ?_;intro K K0 hK hK0;go_simp;refine ⟨trivial,?_⟩;refine (callsIn_wide.2 (Hall.out z1)).mono ?_;rintro e z2 ⟨rfl,hb7⟩;have z2k:KeptW w2 z2:=KeptW.mono hkd hb7;refine hK _ _ z2k ?_;clear hK K hK0 K0;refine RegK.can_turns (fun _=>trivial) ?_;intro K K0 hK hK0;go_simp;refine ⟨trivial,?_⟩;refine (callsIn_wide.2 (Hall2.out z2)).mono ?_;rintro e z3 ⟨rfl,hb7⟩;have z3k:KeptW w2 z3:=KeptW.mono z2k hb7;refine hK _ _ z3k ?_;clear hK K hK0 K0;refine RegK.can_reads ?_;intro K hK;go_simp;(first | refine ⟨_,fun _ _=>rfl,hK _ ?_⟩ | refine hK _ ?_);clear hK K
 refine RegK.can_nil ?_;have Hk3:=Lib.hid z3k;clear z3k
 generalize z3=w3 at *;clear Hall Hall2;by_cases heq:A.all=B.all
 ·
  have heq':((A.all:Int) != (B.all:Int))=false:=by simp [heq]
  obtain ⟨hR,hrc⟩:=HR.out;rw [if_pos heq] at hR hrc;subst hrc;have HR2:=Lib.hid hR;clear hR heq haa hba HR
  go_upto_region 3 with fail;refine (wpIn_wide (n:=1)).1 ?_;refine RegK.wpIn_region_can (F:=Fence.wide) (KeptW w2) [(0,0),(2,0),(1,1),(3,1),(4,0)] (by kernel_rfl) (by kernel_rfl) (by kernel_rfl) (fun _ _ d _ _ h=>by cases d <;> exact h) (KeptW.mono Hk3.out ⟨rfl,rfl,rfl,Nat.le_refl _,fun _ _=>rfl⟩) ?_;dsimp only [RegK.pick,List.getElem?_cons_zero,List.getElem?_cons_succ];change RegK.Can _ _ _ _ _ _ _ _ w3.drew;have hkd:KeptW w2 w3.drew:=(KeptW.mono Hk3.out ⟨rfl,rfl,rfl,Nat.le_refl _,fun _ _=>rfl⟩);generalize w3.drew=y1 at *;refine RegK.can_reads ?_;intro K hK;rw [if_pos (by simp [Region.wanted])];refine ⟨VA,fun y hy=>?_,hK _ ?_⟩
  ·
   rw [← HVA.out];exact mac_loads _ _ _ rfl rfl (HMA.out.below (KeptW.bel hy))
  clear hK K;go_simp;refine RegK.can_reads ?_;intro K hK;rw [if_pos (by simp [Region.wanted])];refine ⟨VB,fun y hy=>?_,hK _ ?_⟩
  ·
   rw [← HVB.out];exact mac_loads _ _ _ rfl rfl (HMB.out.below (KeptW.bel hy))
  clear hK K;go_simp;refine RegK.can_turns (fun _=>trivial) ?_;intro K K0 hK hK0;go_simp;refine ⟨trivial,?_⟩;have hd:=putSum_any A X (macFit_by Hfit.out.1) (macB_len Hfit.out.1) (.slice none 0 0) ([]) w2.heap.size (Nat.zero_le _) y1 (KeptW.bel hkd).size (OwnB.nil _ _ _) (HXY.out.1.below (KeptW.bel hkd)) hsX;rw [HPA.out,HVA.out] at hd;refine (callsIn_wide.2 (hd)).mono ?_;rintro e y2 ⟨u1,rfl,ho1,hb7⟩;have y2k:KeptW w2 y2:=((KeptW.bel hkd).trans hb7);refine hK _ _ y2k ?_;clear hK K hK0 K0;obtain ⟨a1,n1,c1,rfl⟩:=ho1.read.slice;have Ho1:=Lib.hid ho1;clear ho1 hd hb7
  refine RegK.can_turns (fun _=>trivial) ?_;intro K K0 hK hK0;go_simp;refine ⟨trivial,?_⟩;have hd:=putSum_any B Y (macFit_by Hfit.out.2) (macB_len Hfit.out.2) (.slice a1 n1 c1) ([]++sumB A) w2.heap.size (by rw [List.nil_append,sumB_len];decide) y2 (KeptW.bel y2k).size Ho1.out (HXY.out.2.below (KeptW.bel y2k)) hsY;rw [HPB.out,HVB.out] at hd;refine (callsIn_wide.2 (hd)).mono ?_;rintro e y3 ⟨u2,rfl,ho2,hb7⟩;have y3k:KeptW w2 y3:=((KeptW.bel y2k).trans hb7);refine hK _ _ y3k ?_;clear hK K hK0 K0;obtain ⟨a2,n2,c2,rfl⟩:=ho2.read.slice;have Ho2:=Lib.hid ho2;clear ho2 hd hb7
  refine RegK.can_reads ?_;intro K hK;go_simp;(first | refine ⟨_,fun _ _=>rfl,hK _ ?_⟩ | refine hK _ ?_);clear hK K
  refine RegK.can_nil ?_;have Hk4:=Lib.hid y3k;clear y3k hkd Hk3 Ho1
  try clear y2k
  generalize y3=w4 at *;have hmem:=fun y:World=>mmem_any B PB y
  unfold macV at hmem;rw [mac_eta B PB] at hmem;have Hmem:=Lib.hid hmem;clear hmem
  have hm8:((UInt8.ofNat B.mem).toNat:Int)=(B.mem:Int):=by simp;omega
  have Hone:=Lib.hid (fun y:World=>(show ReadB (y.alloc (.cells #[.int .u8 (B.mem:Int)] 5)) (.slice (some ⟨y.heap.size,0,none⟩) 1 1) [UInt8.ofNat B.mem] by
   have h:=ReadB.one y (UInt8.ofNat B.mem) 5;rwa [hm8] at h))
  clear hm8;obtain ⟨⟨m0,m1,m14⟩,⟨m2,m3,m4⟩,⟨m5,m6,m7⟩,⟨m8,m9,m10⟩,⟨m11,m12,m13⟩⟩:=(HMB.out.below (KeptW.bel Hk4.out)).cells;go_upto_region 5 with (first
   | ((with_reducible refine (Hmem.out _).mono ?_);rintro e w5 ⟨rfl,hb5⟩;have Hk5:=Lib.hid (show Below w2.heap.size w2 w5 from (KeptW.bel Hk4.out).trans (hb5.mono (KeptW.bel Hk4.out).size));have Ho5:=Lib.hid (Ho2.out.below hb5);clear hb5)
   | (at_builtin;refine wpList_append_read rfl _ _ 44 rfl w2.heap.size 5 i0 (.int .u8 0) Tryz.underlying44 hi0 hz0 hs0 hb0 rfl _ _ _ rfl (World.ownsRow.alloc Ho5.out _) _ [UInt8.ofNat B.mem] rfl (Hone.out _) (by show ([]++sumB A++sumB B).length+1≤_;rw [List.length_append,List.length_append,sumB_len,sumB_len];decide) (by have:=Hk5.out.size;simp;omega) ?_;intro v6 w6 ho6 hg6;have Ho6:=Lib.hid (OwnB.of ho6 rfl rfl);clear ho6;have Hk6:=Lib.hid (show KeptW w2 w6 from below_grown hg6 (Hk5.out.alloc Hk5.out.size _) (by have:=Hk5.out.size;simp;omega) Ho5.out.block);clear hg6))
  clear Hone Hmem m0 m1 m2 m3 m4 m5 m6 m7 m8 m9 m10 m11 m12 m13 m14 Hk4 Ho2 Hk5 Ho5;obtain ⟨a3,n3,c3,rfl⟩:=Ho6.out.read.slice;have Hod:=Lib.hid (Ho6.out.below (w':=w6.drew) ⟨rfl,rfl,rfl,Nat.le_refl _,fun _ _=>rfl⟩);have HtA:=Lib.hid (fun y:World=>(show Calls Tryz.prog 92 #[VA] y fun e w'=>e=.returned (.agg (tabCells A.tab).toArray)∧Below y.heap.size y w' by rw [← HVA.out];exact mtable_any A PA y));have HtB:=Lib.hid (fun y:World=>(show Calls Tryz.prog 92 #[VB] y fun e w'=>e=.returned (.agg (tabCells B.tab).toArray)∧Below y.heap.size y w' by rw [← HVB.out];exact mtable_any B PB y));refine (wpIn_wide (n:=1)).1 ?_;refine RegK.wpIn_region_can (F:=Fence.wide) (KeptW w2) [(0,0),(1,0),(3,0),(2,1),(4,1),(5,1),(6,0)] (by kernel_rfl) (by kernel_rfl) (by kernel_rfl) (fun _ _ d _ _ h=>by cases d <;> exact h) (KeptW.mono Hk6.out ⟨rfl,rfl,rfl,Nat.le_refl _,fun _ _=>rfl⟩) ?_;dsimp only [RegK.pick,List.getElem?_cons_zero,List.getElem?_cons_succ];change RegK.Can _ _ _ _ _ _ _ _ w6.drew;have hkd:KeptW w2 w6.drew:=(KeptW.mono Hk6.out ⟨rfl,rfl,rfl,Nat.le_refl _,fun _ _=>rfl⟩);generalize w6.drew=q1 at *;refine RegK.can_reads ?_;intro K hK;go_simp;(first | refine ⟨_,fun _ _=>rfl,hK _ ?_⟩ | refine hK _ ?_);clear hK K
  refine RegK.can_reads ?_;intro K hK;rw [if_pos (by simp [Region.wanted])];refine ⟨VA,fun y hy=>?_,hK _ ?_⟩
  ·
   rw [← HVA.out];exact mac_loads _ _ _ rfl rfl (HMA.out.below (KeptW.bel hy))
  clear hK K;go_simp;refine RegK.can_reads ?_;intro K hK;rw [if_pos (by simp [Region.wanted])];refine ⟨VB,fun y hy=>?_,hK _ ?_⟩
  ·
   rw [← HVB.out];exact mac_loads _ _ _ rfl rfl (HMB.out.below (KeptW.bel hy))
  clear hK K;go_simp;refine RegK.can_turns (fun _=>trivial) ?_;intro K K0 hK hK0;go_simp;refine ⟨trivial,?_⟩;refine (callsIn_wide.2 (HtA.out q1)).mono ?_;rintro e q2 ⟨rfl,hb7⟩;have q2k:KeptW w2 q2:=KeptW.mono hkd hb7;refine hK _ _ q2k ?_;clear hK K hK0 K0;have Hoq:=Lib.hid (Hod.out.below hb7);clear hb7
  refine RegK.can_turns (fun _=>trivial) ?_;intro K K0 hK hK0;go_simp;refine ⟨trivial,?_⟩;refine (callsIn_wide.2 (HtB.out q2)).mono ?_;rintro e q3 ⟨rfl,hb7⟩;have q3k:KeptW w2 q3:=KeptW.mono q2k hb7;refine hK _ _ q3k ?_;clear hK K hK0 K0;have Hor:=Lib.hid (Hoq.out.below hb7);clear hb7
  refine RegK.can_turns (fun _=>trivial) ?_;intro K K0 hK hK0;go_simp;refine ⟨trivial,?_⟩;have hd:=putClients_any A.tab B.tab (macFit_by Hfit.out.2).tab (.slice a3 n3 c3) _ w2.heap.size (by simp [sumB,leB_len]) q3 (KeptW.bel q3k).size Hor.out;refine (callsIn_wide.2 (hd)).mono ?_;rintro e q4 ⟨u3,rfl,ho3,hb7⟩;have q4k:KeptW w2 q4:=((KeptW.bel q3k).trans hb7);refine hK _ _ q4k ?_;clear hK K hK0 K0;obtain ⟨a4,n4,c4,rfl⟩:=ho3.read.slice;have Ho7:=Lib.hid ho3;clear ho3 hd hb7
  refine RegK.can_reads ?_;intro K hK;go_simp;(first | refine ⟨_,fun _ _=>rfl,hK _ ?_⟩ | refine hK _ ?_);clear hK K
  refine RegK.can_nil ?_;have Hk7:=Lib.hid q4k;clear q4k hkd Hk6 Ho6 Hod Hoq Hor HtA HtB
  try clear q2k
  try clear q3k
  generalize q4=w7 at *;go_upto_region 6 with fail;have Hod:=Lib.hid (Ho7.out.below (w':=w7.drew) ⟨rfl,rfl,rfl,Nat.le_refl _,fun _ _=>rfl⟩);have HtA:=Lib.hid (fun y:World=>(show Calls Tryz.prog 53 #[VA] y fun e w'=>e=.returned (.pointer PA)∧Below y.heap.size y w' by rw [← HVA.out];exact mtree_any A PA y));have HtB:=Lib.hid (fun y:World=>(show Calls Tryz.prog 53 #[VB] y fun e w'=>e=.returned (.pointer PB)∧Below y.heap.size y w' by rw [← HVB.out];exact mtree_any B PB y));have hbA:=macFit_by Hfit.out.1;have hbB:=macFit_by Hfit.out.2;have hcl:=cliB_len A.tab hbB.tab 4;refine (wpIn_wide (n:=1)).1 ?_;refine RegK.wpIn_region_can (F:=Fence.wide) (KeptW w2) [(0,0),(1,0),(3,0),(2,1),(4,1),(5,1),(6,0)] (by kernel_rfl) (by kernel_rfl) (by kernel_rfl) (fun _ _ d _ _ h=>by cases d <;> exact h) (KeptW.mono Hk7.out ⟨rfl,rfl,rfl,Nat.le_refl _,fun _ _=>rfl⟩) ?_;dsimp only [RegK.pick,List.getElem?_cons_zero,List.getElem?_cons_succ];change RegK.Can _ _ _ _ _ _ _ _ w7.drew;have hkd:KeptW w2 w7.drew:=(KeptW.mono Hk7.out ⟨rfl,rfl,rfl,Nat.le_refl _,fun _ _=>rfl⟩);generalize w7.drew=r1 at *;refine RegK.can_reads ?_;intro K hK;go_simp;(first | refine ⟨_,fun _ _=>rfl,hK _ ?_⟩ | refine hK _ ?_);clear hK K
  refine RegK.can_reads ?_;intro K hK;rw [if_pos (by simp [Region.wanted])];refine ⟨VA,fun y hy=>?_,hK _ ?_⟩
  ·
   rw [← HVA.out];exact mac_loads _ _ _ rfl rfl (HMA.out.below (KeptW.bel hy))
  clear hK K;go_simp;refine RegK.can_reads ?_;intro K hK;rw [if_pos (by simp [Region.wanted])];refine ⟨VB,fun y hy=>?_,hK _ ?_⟩
  ·
   rw [← HVB.out];exact mac_loads _ _ _ rfl rfl (HMB.out.below (KeptW.bel hy))
  clear hK K;go_simp;refine RegK.can_turns (fun _=>trivial) ?_;intro K K0 hK hK0;go_simp;refine ⟨trivial,?_⟩;refine (callsIn_wide.2 (HtA.out r1)).mono ?_;rintro e r2 ⟨rfl,hb7⟩;have r2k:KeptW w2 r2:=KeptW.mono hkd hb7;refine hK _ _ r2k ?_;clear hK K hK0 K0;have Hoq:=Lib.hid (Hod.out.below hb7);clear hb7
  refine RegK.can_turns (fun _=>trivial) ?_;intro K K0 hK hK0;go_simp;refine ⟨trivial,?_⟩;refine (callsIn_wide.2 (HtB.out r2)).mono ?_;rintro e r3 ⟨rfl,hb7⟩;have r3k:KeptW w2 r3:=KeptW.mono r2k hb7;refine hK _ _ r3k ?_;clear hK K hK0 K0;have Hor:=Lib.hid (Hoq.out.below hb7);clear hb7
  refine RegK.can_turns (fun _=>trivial) ?_;intro K K0 hK hK0;go_simp;refine ⟨trivial,?_⟩;have hd:=putKeys_any X Y (.slice a4 n4 c4) _ (by simp [sumB,leB_len,clientsB];omega) r3 Hor.out.read (HXY.out.1.below (KeptW.bel r3k)) (HXY.out.2.below (KeptW.bel r3k)) (by rw [hsX];exact Hfit.out.1.kv.asc) (by rw [hsY];exact Hfit.out.2.kv.asc) (by rw [sh_cnt,hsX];exact hbA.num) (by rw [sh_cnt,hsY];exact hbB.num) (by unfold Tr.kvs;rw [hsX,hsY];exact chg_pair Hfit.out.1.kv.asc Hfit.out.2.kv.asc hbB.kv hbA.kv);rw [HPA.out,HPB.out] at hd;refine (callsIn_wide.2 (hd)).mono ?_;rintro e r4 ⟨u3,rfl,ho3,hb7⟩;have r4k:KeptW w2 r4:=KeptW.mono r3k hb7;refine hK _ _ r4k ?_;clear hK K hK0 K0;obtain ⟨a5,n5,c5,rfl⟩:=ho3.read.slice;have Ho8:=Lib.hid ho3;clear ho3 hd hb7
  refine RegK.can_reads ?_;intro K hK;go_simp;(first | refine ⟨_,fun _ _=>rfl,hK _ ?_⟩ | refine hK _ ?_);clear hK K
  refine RegK.can_nil ?_;have Hk8:=Lib.hid r4k;have hres:diffM A B=[]++sumB A++sumB B++[UInt8.ofNat B.mem]++clientsB A.tab B.tab++keysDB (diffL X.kvs Y.kvs):=by unfold Tr.kvs;rw [hsX,hsY];rfl
  rw [← hres] at Ho8;have hcv:=Ho8.out.read.conv Tryz.underlying44 Tryz.underlying5 Tryz.underlying9;rw [HR2.out] at hcv;go_wp2_with fail;refine bodyPost_ret (v:=.tuple #[.string R,.int .i64 0]) (by simp [results,Tryz.results76,go_sem]) rfl ?_;exact ⟨rfl,H12.out.trans ((KeptW.bel Hk8.out).mono H12.out.size)⟩
 ·
  have heq':((A.all:Int) != (B.all:Int))=true:=by simp;omega
  obtain ⟨hR,hrc⟩:=HR.out;rw [if_neg heq] at hR hrc;subst hR hrc;clear heq HR;go_wp2_with fail;refine bodyPost_ret (v:=.tuple #[.string ByteArray.empty,.int .i64 2]) (by simp [results,Tryz.results76,go_sem] <;> rfl) rfl ?_;exact ⟨rfl,H12.out.trans ((KeptW.bel Hk3.out).mono H12.out.size)⟩
structure PaV where
 fr:Nat
 to_:Nat
 mem:Nat
 tab:TabV
 sh:Sh
def paStep (i:Nat) (X:RdV × PaV):RdV × PaV :=
 if i=0 then ((X.1.sumP 8).2,{ X.2 with fr:=(X.1.sumP 8).1 }) else if i=1 then ((X.1.sumP 8).2,{ X.2 with to_:=(X.1.sumP 8).1 }) else if i=2 then (X.1.byte.2,{ X.2 with mem:=X.1.byte.1.toNat })
 else if i=3 then ((X.1.clients X.2.tab).2,{ X.2 with tab:=(X.1.clients X.2.tab).1 }) else ((X.1.keysD X.2.sh).2,{ X.2 with sh:=(X.1.keysD X.2.sh).1 })
theorem paStep_0 (X:RdV × PaV):paStep 0 X=((X.1.sumP 8).2,{ X.2 with fr:=(X.1.sumP 8).1 }):=by unfold paStep;rw [if_pos rfl]
theorem paStep_1 (X:RdV × PaV):paStep 1 X=((X.1.sumP 8).2,{ X.2 with to_:=(X.1.sumP 8).1 }):=by unfold paStep;rw [if_neg (by decide),if_pos rfl]
theorem paStep_2 (X:RdV × PaV):paStep 2 X=(X.1.byte.2,{ X.2 with mem:=X.1.byte.1.toNat }):=by unfold paStep;rw [if_neg (by decide),if_neg (by decide),if_pos rfl]
theorem paStep_3 (X:RdV × PaV):paStep 3 X=((X.1.clients X.2.tab).2,{ X.2 with tab:=(X.1.clients X.2.tab).1 }):=by unfold paStep;rw [if_neg (by decide),if_neg (by decide),if_neg (by decide),if_pos rfl]
theorem paStep_4 (X:RdV × PaV):paStep 4 X=((X.1.keysD X.2.sh).2,{ X.2 with sh:=(X.1.keysD X.2.sh).1 }):=by unfold paStep;rw [if_neg (by decide),if_neg (by decide),if_neg (by decide),if_neg (by decide)]
def paL:Nat→Nat→RdV × PaV→RdV × PaV
 | 0,_,X=>X
 | n+1,i,X=>if (paStep i X).1.e=0 then paL n (i+1) (paStep i X) else paStep i X
def pfuncs (b gt gk:Nat):List Value:=[.func (.func 93) #[] #[.pointer (some ⟨b+3,0,none⟩),.pointer (some ⟨b+4,0,none⟩)],.func (.func 95) #[] #[.pointer (some ⟨b+3,0,none⟩),.pointer (some ⟨b+5,0,none⟩)],.func (.func 96) #[] #[.pointer (some ⟨b+3,0,none⟩),.pointer (some ⟨b+6,0,none⟩)],.func (.func 98) #[] #[.pointer (some ⟨b+3,0,none⟩),.pointer (some ⟨gt,0,none⟩)],.func (.func 100) #[] #[.pointer (some ⟨b+3,0,none⟩),.pointer (some ⟨gk,0,none⟩)]]
structure PaI (w0:World) (gt gk gf:Nat) (A:MacV) (T:Tr) (X:RdV × PaV) (U:Tr) (w:World):Prop where
 ma:MacAt w w0.heap.size A T.ptr
 res:MacAt w (w0.heap.size+1) macNone none
 rd:RdAt w (w0.heap.size+2) X.1
 box:w.heap[w0.heap.size+3]?=some (.cells #[.pointer (some ⟨w0.heap.size+2,0,none⟩)] 180 (0,0))
 fr:BoxAt w (w0.heap.size+4) (.int .u64 (X.2.fr:Int)) 22
 to_:BoxAt w (w0.heap.size+5) (.int .u64 (X.2.to_:Int)) 22
 mem:BoxAt w (w0.heap.size+6) (.int .u8 (X.2.mem:Int)) 24
 tab:TabAt w gt X.2.tab
 key:BoxAt w gk (.pointer U.ptr) 32
 fn:w.heap[gf]?=some (.cells (pfuncs w0.heap.size gt gk).toArray 1 (0,0))
 trA:TreeAt w T
 tr:TreeAt w U
 sh:U.sh=X.2.sh
 few:U.cnt≤T.cnt+513
 sml:X.2.mem<256
 bel:Below w0.heap.size w0 w
 ne:w0.heap.size+6<gt∧w0.heap.size+6<gk∧w0.heap.size+6<gf∧gt≠gk∧gt≠gf∧gk≠gf
theorem below_but {g:Nat} {w0 a b:World} (h:Below w0.heap.size w0 a) (hb:But g a.heap.size a b) (hg:w0.heap.size≤g):Below w0.heap.size w0 b:=h.trans ((hb.mono h.size).below hg)
section
variable {w0 w w' : World} {gt gk gf : Nat} {A : MacV} {T U : Tr} {X : RdV × PaV}
theorem PaI.only {R':RdV} (h:PaI w0 gt gk gf A T X U w) (hr:RdAt w' (w0.heap.size+2) R') (ho:But (w0.heap.size+2) w.heap.size w w'):PaI w0 gt gk gf A T (R',X.2) U w':=by
 obtain ⟨n1,n2,n3,n4,n5,n6⟩:=h.ne;have hk:∀ {q:Nat} {o:Obj},w.heap[q]?=some o→q≠w0.heap.size+2→w'.heap[q]?=some o:=fun e hq=>(ho.block _ (Array.getElem?_eq_some_iff.1 e).1 hq).trans e
 exact ⟨hk h.ma (by omega),hk h.res (by omega),hr,hk h.box (by omega),hk h.fr (by omega),hk h.to_ (by omega),hk h.mem (by omega),hk h.tab (by omega),hk h.key (by omega),hk h.fn (by omega),treeAt_but h.rd ho h.trA,treeAt_but h.rd ho h.tr,h.sh,h.few,h.sml,below_but h.bel ho (by omega),h.ne⟩
theorem PaI.below (h:PaI w0 gt gk gf A T X U w) (hb:Below w.heap.size w w'):PaI w0 gt gk gf A T X U w':=by
 have hk:∀ {q:Nat} {o:Obj},w.heap[q]?=some o→w'.heap[q]?=some o:=fun e=>(hb.block _ (Array.getElem?_eq_some_iff.1 e).1).trans e
 exact ⟨hk h.ma,hk h.res,⟨hk h.rd.row,h.rd.len⟩,hk h.box,hk h.fr,hk h.to_,hk h.mem,hk h.tab,hk h.key,hk h.fn,h.trA.below hb,h.tr.below hb,h.sh,h.few,h.sml,h.bel.trans (hb.mono h.bel.size),h.ne⟩
theorem PaI.get (h:PaI w0 gt gk gf A T X U w):w.cell? ⟨w0.heap.size+3,0,none⟩=some (.pointer (some ⟨w0.heap.size+2,0,none⟩)):=cell_of_row _ _ _ _ _ _ h.box
theorem PaI.setFr (h:PaI w0 gt gk gf A T X U w) (n:Nat):PaI w0 gt gk gf A T (X.1,{ X.2 with fr:=n }) U (w.setCell ⟨w0.heap.size+4,0,none⟩ (.int .u64 (n:Int))):=by
 obtain ⟨n1,n2,n3,n4,n5,n6⟩:=h.ne;have hk:∀ {q:Nat} {o:Obj},w.heap[q]?=some o→q≠w0.heap.size+4→(w.setCell ⟨w0.heap.size+4,0,none⟩ (.int .u64 (n:Int))).heap[q]?=some o:=fun e hq=>(Below.heap_setCell _ _ _ _ (by exact hq)).trans e
 exact ⟨hk h.ma (by omega),hk h.res (by omega),⟨hk h.rd.row (by omega),h.rd.len⟩,hk h.box (by omega),h.fr.set,hk h.to_ (by omega),hk h.mem (by omega),hk h.tab (by omega),hk h.key (by omega),hk h.fn (by omega),h.trA.set h.fr,h.tr.set h.fr,h.sh,h.few,h.sml,below_setV h.bel (by omega),h.ne⟩
theorem PaI.setTo (h:PaI w0 gt gk gf A T X U w) (n:Nat):PaI w0 gt gk gf A T (X.1,{ X.2 with to_:=n }) U (w.setCell ⟨w0.heap.size+5,0,none⟩ (.int .u64 (n:Int))):=by
 obtain ⟨n1,n2,n3,n4,n5,n6⟩:=h.ne;have hk:∀ {q:Nat} {o:Obj},w.heap[q]?=some o→q≠w0.heap.size+5→(w.setCell ⟨w0.heap.size+5,0,none⟩ (.int .u64 (n:Int))).heap[q]?=some o:=fun e hq=>(Below.heap_setCell _ _ _ _ (by exact hq)).trans e
 exact ⟨hk h.ma (by omega),hk h.res (by omega),⟨hk h.rd.row (by omega),h.rd.len⟩,hk h.box (by omega),hk h.fr (by omega),h.to_.set,hk h.mem (by omega),hk h.tab (by omega),hk h.key (by omega),hk h.fn (by omega),h.trA.set h.to_,h.tr.set h.to_,h.sh,h.few,h.sml,below_setV h.bel (by omega),h.ne⟩
theorem PaI.setMem (h:PaI w0 gt gk gf A T X U w) (n:Nat) (hn:n<256):PaI w0 gt gk gf A T (X.1,{ X.2 with mem:=n }) U (w.setCell ⟨w0.heap.size+6,0,none⟩ (.int .u8 (n:Int))):=by
 obtain ⟨n1,n2,n3,n4,n5,n6⟩:=h.ne;have hk:∀ {q:Nat} {o:Obj},w.heap[q]?=some o→q≠w0.heap.size+6→(w.setCell ⟨w0.heap.size+6,0,none⟩ (.int .u8 (n:Int))).heap[q]?=some o:=fun e hq=>(Below.heap_setCell _ _ _ _ (by exact hq)).trans e
 exact ⟨hk h.ma (by omega),hk h.res (by omega),⟨hk h.rd.row (by omega),h.rd.len⟩,hk h.box (by omega),hk h.fr (by omega),hk h.to_ (by omega),h.mem.set,hk h.tab (by omega),hk h.key (by omega),hk h.fn (by omega),h.trA.set h.mem,h.tr.set h.mem,h.sh,h.few,hn,below_setV h.bel (by omega),h.ne⟩
theorem PaI.setTab (h:PaI w0 gt gk gf A T X U w) (t:TabV):PaI w0 gt gk gf A T (X.1,{ X.2 with tab:=t }) U (rowSt w gt 0 (tabCells t)):=by
 obtain ⟨n1,n2,n3,n4,n5,n6⟩:=h.ne;have hk:∀ {q:Nat} {o:Obj},w.heap[q]?=some o→q≠gt→(rowSt w gt 0 (tabCells t)).heap[q]?=some o:=fun e hq=>(rowSt_other hq _ _ _).trans e
 exact ⟨hk h.ma (by omega),hk h.res (by omega),⟨hk h.rd.row (by omega),h.rd.len⟩,hk h.box (by omega),hk h.fr (by omega),hk h.to_ (by omega),hk h.mem (by omega),rowSt_row (tabCells t) [] (tabCells X.2.tab) w h.tab rfl,hk h.key (by omega),hk h.fn (by omega),TreeAt.row h.tab (by decide) _ _ h.trA,TreeAt.row h.tab (by decide) _ _ h.tr,h.sh,h.few,h.sml,rowSt_below (by omega) _ _ _ h.bel,h.ne⟩
theorem PaI.setKey (h:PaI w0 gt gk gf A T X U w) (V:Tr) (hV:TreeAt w V) (S:Sh) (hs:V.sh=S) (hc:V.cnt≤T.cnt+513):PaI w0 gt gk gf A T (X.1,{ X.2 with sh:=S }) V (w.setCell ⟨gk,0,none⟩ (.pointer V.ptr)):=by
 obtain ⟨n1,n2,n3,n4,n5,n6⟩:=h.ne;have hk:∀ {q:Nat} {o:Obj},w.heap[q]?=some o→q≠gk→(w.setCell ⟨gk,0,none⟩ (.pointer V.ptr)).heap[q]?=some o:=fun e hq=>(Below.heap_setCell _ _ _ _ (by exact hq)).trans e
 exact ⟨hk h.ma (by omega),hk h.res (by omega),⟨hk h.rd.row (by omega),h.rd.len⟩,hk h.box (by omega),hk h.fr (by omega),hk h.to_ (by omega),hk h.mem (by omega),hk h.tab (by omega),h.key.set,hk h.fn (by omega),h.trA.set h.key,hV.set h.key,hs,hc,h.sml,below_setV h.bel (by omega),h.ne⟩
end
section
variable {w0 : World} {gt gk gf : Nat} {A : MacV} {T U : Tr} {X : RdV × PaV}
set_option maxHeartbeats 8000000 in
theorem pstep1_any (w:World) (h:PaI w0 gt gk gf A T X U w) :
  Calls Tryz.prog 93 #[.pointer (some ⟨w0.heap.size+3,0,none⟩),.pointer (some ⟨w0.heap.size+4,0,none⟩)] w fun e w'=>e=.returned (.tuple #[])∧PaI w0 gt gk gf A T (paStep 0 X) U w':=by
 have Hb:=Lib.hid (takeSum_any X.1 (w0.heap.size+2) w h.rd);rw [paStep_0];generalize X.1.sumP 8=Q at *;have f0:=h.get;have H:=Lib.hid h;clear h
 go_enter Tryz.func93,Tryz.ntmps93
 go_wp2_with ((with_reducible refine Hb.out.mono ?_);rintro e w2 ⟨rfl,h2⟩;have H2:=Lib.hid (H.out.only h2.1 (h2.2.but _));clear h2 Hb f0;have p0:=H2.out.fr.cell;have q0:=H2.out.fr.frozen);refine bodyPost_end (results_none rfl _ _ _) rfl ?_;exact ⟨rfl,H2.out.setFr _⟩
set_option maxHeartbeats 8000000 in
theorem pstep2_any (w:World) (h:PaI w0 gt gk gf A T X U w) :
  Calls Tryz.prog 95 #[.pointer (some ⟨w0.heap.size+3,0,none⟩),.pointer (some ⟨w0.heap.size+5,0,none⟩)] w fun e w'=>e=.returned (.tuple #[])∧PaI w0 gt gk gf A T (paStep 1 X) U w':=by
 have Hb:=Lib.hid (takeSum_any X.1 (w0.heap.size+2) w h.rd);rw [paStep_1];generalize X.1.sumP 8=Q at *;have f0:=h.get;have H:=Lib.hid h;clear h
 go_enter Tryz.func95,Tryz.ntmps95
 go_wp2_with ((with_reducible refine Hb.out.mono ?_);rintro e w2 ⟨rfl,h2⟩;have H2:=Lib.hid (H.out.only h2.1 (h2.2.but _));clear h2 Hb f0;have p0:=H2.out.to_.cell;have q0:=H2.out.to_.frozen);refine bodyPost_end (results_none rfl _ _ _) rfl ?_;exact ⟨rfl,H2.out.setTo _⟩
set_option maxHeartbeats 8000000 in
theorem pstep3_any (w:World) (h:PaI w0 gt gk gf A T X U w) :
  Calls Tryz.prog 96 #[.pointer (some ⟨w0.heap.size+3,0,none⟩),.pointer (some ⟨w0.heap.size+6,0,none⟩)] w fun e w'=>e=.returned (.tuple #[])∧PaI w0 gt gk gf A T (paStep 2 X) U w':=by
 have Hb:=Lib.hid (byte_any X.1 (w0.heap.size+2) w h.rd);rw [paStep_2];generalize X.1.byte=Q at *;have f0:=h.get;have H:=Lib.hid h;clear h
 go_enter Tryz.func96,Tryz.ntmps96
 go_wp2_with ((with_reducible refine Hb.out.mono ?_);rintro e w2 ⟨rfl,h2⟩;have H2:=Lib.hid (H.out.only h2.1 (h2.2.but _));clear h2 Hb f0;have p0:=H2.out.mem.cell;have q0:=H2.out.mem.frozen);refine bodyPost_end (results_none rfl _ _ _) rfl ?_;exact ⟨rfl,H2.out.setMem _ Q.1.toNat_lt⟩
set_option maxHeartbeats 8000000 in
theorem pstep4_any (w:World) (h:PaI w0 gt gk gf A T X U w) :
  Calls Tryz.prog 98 #[.pointer (some ⟨w0.heap.size+3,0,none⟩),.pointer (some ⟨gt,0,none⟩)] w fun e w'=>e=.returned (.tuple #[])∧PaI w0 gt gk gf A T (paStep 3 X) U w':=by
 have hb:=takeClients_any X.1 X.2.tab (w0.heap.size+2) w h.rd;rw [paStep_3];generalize X.1.clients X.2.tab=Q at *;obtain ⟨t,R2⟩:=Q;simp only at hb ⊢;rw [tab_eta X.2.tab,tab_eta t] at hb;have Hb:=Lib.hid hb;clear hb
 have f0:=h.get;obtain ⟨⟨a0,a1,a2⟩,⟨b0,b1,b2⟩,⟨c0,c1,c2⟩,⟨d0,d1,d2⟩⟩:=h.tab.cells;have H:=Lib.hid h;clear h
 go_enter Tryz.func98,Tryz.ntmps98
 go_wp2_with ((with_reducible refine Hb.out.mono ?_);rintro e w2 ⟨rfl,h2⟩;have H2:=Lib.hid (H.out.only h2.1 h2.2);clear h2 Hb f0 a0 a1 a2 b0 b1 b2 c0 c1 c2 d0 d1 d2;obtain ⟨⟨a0,a1,a2⟩,⟨b0,b1,b2⟩,⟨c0,c1,c2⟩,⟨d0,d1,d2⟩⟩:=H2.out.tab.cells;have q0:=H2.out.tab.thawed 0;have q1:=H2.out.tab.thawed 1;have q2:=H2.out.tab.thawed 2;have q3:=H2.out.tab.thawed 3;have q4:=H2.out.tab.thawed 4;have q5:=H2.out.tab.thawed 5;have q6:=H2.out.tab.thawed 6;have q7:=H2.out.tab.thawed 7;have q8:=H2.out.tab.thawed 8;have q9:=H2.out.tab.thawed 9;have q10:=H2.out.tab.thawed 10;have q11:=H2.out.tab.thawed 11);refine bodyPost_end (results_none rfl _ _ _) rfl ?_;change _∧PaI _ _ _ _ _ _ _ _ (rowSt w2 gt 0 (tabCells t));exact ⟨rfl,H2.out.setTab t⟩
set_option maxHeartbeats 8000000 in
theorem pstep5_any (w:World) (hc:T.cnt≤500000) (hU:U.sh.cnt≤T.cnt) (h:PaI w0 gt gk gf A T X U w) :
  Calls Tryz.prog 100 #[.pointer (some ⟨w0.heap.size+3,0,none⟩),.pointer (some ⟨gk,0,none⟩)] w fun e w'=>e=.returned (.tuple #[])∧∃ V,PaI w0 gt gk gf A T (paStep 4 X) V w':=by
 have hb:=takeKeysD_any X.1 U (by have:=h.few;omega) (w0.heap.size+2) w h.rd h.tr;rw [paStep_4];rw [h.sh] at hb;generalize X.1.keysD X.2.sh=Q at *;obtain ⟨S,R2⟩:=Q;simp only at hb ⊢;obtain ⟨P,hP⟩:∃ P,U.ptr=P:=⟨_,rfl⟩;have f0:=h.get;have f1:=h.key.cell;rw [hP] at hb f1;have Hb:=Lib.hid hb;clear hb hP
 have H:=Lib.hid h;clear h
 go_enter Tryz.func100,Tryz.ntmps100
 go_wp2_with ((with_reducible refine Hb.out.mono ?_);rintro e w2 ⟨V,rfl,hV,hs,hn,h2⟩;have H2:=Lib.hid (And.intro (H.out.only h2.1 h2.2) (And.intro hV (And.intro hs hn)));clear h2 hV hs hn Hb f0 f1;have p0:=H2.out.1.key.cell;have q0:=H2.out.1.key.frozen);refine bodyPost_end (results_none rfl _ _ _) rfl ?_;exact ⟨rfl,V,H2.out.1.setKey V H2.out.2.1 S H2.out.2.2.1 (by have h1:=H2.out.2.2.2;rw [← sh_cnt] at hU;omega)⟩
end
theorem layTab (ρ:Operand→Value) (x:World) (o:Oper) (h:o.op=.alloc 31):(execOp ρ o).run Tryz.prog x=.ok (.value (RegL.ptr x.heap.size)) (x.alloc (.cells (tabCells tabNone).toArray 31 (0,0))):=by
 simp only [execOp,h];go_simp;exact ⟨rfl,rfl⟩
theorem layPtr (ρ:Operand→Value) (x:World) (o:Oper) (h:o.op=.alloc 32):(execOp ρ o).run Tryz.prog x=.ok (.value (RegL.ptr x.heap.size)) (x.alloc (.cells #[.pointer none] 32 (0,0))):=by
 simp only [execOp,h];go_simp;rfl
theorem tab_store {y:World} {g:Nat} {t0:TabV} (hs:TabAt y g t0) {t:TabV} {V:Value} (hV:Value.agg (tabCells t).toArray=V) :
  V.cells.size=12∧(storeCells ⟨g,0,none⟩ V.cells.toList).run Tryz.prog y=.ok () (rowSt y g 0 (tabCells t)):=by
 subst hV;exact ⟨rfl,store_row (tabCells t) 0 _ y hs (Nat.le_refl _) (by simp [tabCells,lastCells,Value.oneCell'])⟩
theorem tab_loads (ρ:Operand→Value) (o:Oper) (a:Operand) (h:o.op=.load 31 a) {g:Nat} {t:TabV} (ha:ρ a=.pointer (some ⟨g,0,none⟩)) {y:World} (hm:TabAt y g t) :
  (execOp ρ o).run Tryz.prog y=.ok (.value (.agg (tabCells t).toArray)) y:=by
 simp only [execOp,h,ha];rw [tab_eta];obtain ⟨⟨a0,a1,a2⟩,⟨b0,b1,b2⟩,⟨c0,c1,c2⟩,⟨d0,d1,d2⟩⟩:=hm.cells;go_simp
structure PaEnd (w w':World) (gt gk:Nat) (t:TabV) (P:Option Addr):Prop where
 tab:TabAt w' gt t
 key:BoxAt w' gk (.pointer P) 32
 bel:Below w.heap.size w w'
 lt:w.heap.size≤gt∧w.heap.size≤gk∧gt≠gk
theorem pa_reg4 (w0:World) (g:Nat) (A:MacV) (P:Option Addr) {Q:Exit→Act→World→Prop}
  (hQ:∀ c a d v w,Q (.panic c) (Act.put a d v) w→Q (.panic c) a w) (hQ2:∀ c a d v w,Q (.panic c) a w→Q (.panic c) (Act.put a d v) w) (HM:Hid (MacAt w0 g A P))
  (u0 u1 u3 u4 u5 u6 u7 u8 u9 u10 u11 u12 u13 u14 u15 u16 u17 u18 u19 u20 u21 u22 u23 u24 u25 u26 u27 u28 u29 u30 u31 u32 u33 u34 u35 u36 u37 u38 u39 u40 u41 u42 u43 u44 u45 u46 u47 u48 u49 u50 u51 u52 u53 u54 u55 u56 u57 u58 u59 u60 u61 u62 u63 u64 u65 u66 u67 u68 u69 u70 u71 u72 u73 u74 u75:Value)
  (Hk:Hid (∀ (s20 s21 s22 s23:Value) (gt gk:Nat) (w2:World),PaEnd w0 w2 gt gk A.tab P→Q .normal ⟨List.toArray (u0::u1::Value.pointer (some ⟨g,0,none⟩)::u3::u4::u5::u6::u7::u8::u9::Value.pointer (some ⟨gt,0,none⟩)::Value.pointer (some ⟨gk,0,none⟩)::u12::u13::u14::u15::u16::u17::u18::u19::s20::s21::s22::s23::u24::u25::u26::u27::u28::u29::u30::u31::u32::u33::u34::u35::u36::u37::u38::u39::u40::u41::u42::u43::u44::u45::u46::u47::u48::u49::u50::u51::u52::u53::u54::u55::u56::u57::u58::u59::u60::u61::u62::u63::u64::u65::u66::u67::u68::u69::u70::u71::u72::u73::u74::u75::[]),[]⟩ w2)) :
  Code.wp Tryz.prog (findR 4 (Tryz.f50.body.getD .skip)) Q ⟨List.toArray (u0::u1::Value.pointer (some ⟨g,0,none⟩)::u3::u4::u5::u6::u7::u8::u9::u10::u11::u12::u13::u14::u15::u16::u17::u18::u19::u20::u21::u22::u23::u24::u25::u26::u27::u28::u29::u30::u31::u32::u33::u34::u35::u36::u37::u38::u39::u40::u41::u42::u43::u44::u45::u46::u47::u48::u49::u50::u51::u52::u53::u54::u55::u56::u57::u58::u59::u60::u61::u62::u63::u64::u65::u66::u67::u68::u69::u70::u71::u72::u73::u74::u75::[]),[]⟩ w0:=by
 conv=>arg 2;whnf
 refine (wpIn_wide (n:=1)).1 ?_;refine RegL.wpIn_region_lays (F:=Fence.wide) (KeptW w0) [⟨4,10,.cells (tabCells tabNone).toArray 31 (0,0)⟩,⟨5,11,.cells #[.pointer none] 32 (0,0)⟩] [(0,0),(2,0),(1,1),(3,1),(6,3),(7,3)] (by kernel_rfl) (by kernel_rfl) (by kernel_rfl) (fun p hp=>by simp only [List.mem_cons,List.not_mem_nil,or_false] at hp;rcases hp with rfl | rfl;exact lays_any layTab rfl;exact lays_any layPtr rfl)
  hQ hQ2 ⟨rfl,rfl,rfl,Nat.le_refl _,fun _ _=>rfl⟩ (keptW_mono w0) ?_
 clear hQ hQ2;dsimp only [RegK.pick,List.getElem?_cons_zero,List.getElem?_cons_succ];obtain ⟨VA,hVA⟩:∃ V,macV A P=V:=⟨_,rfl⟩;have HVA:=Lib.hid hVA;clear hVA
 obtain ⟨VT,hVT⟩:∃ V,Value.agg (tabCells A.tab).toArray=V:=⟨_,rfl⟩;have HVT:=Lib.hid hVT;clear hVT
 refine RegL.reads ?_;intro K hK;rw [if_pos (by simp [Region.wanted])];refine ⟨VA,fun y hy=>?_,hK _ ?_⟩
 ·
  rw [← HVA.out];exact mac_loads _ _ _ rfl rfl (HM.out.below (KeptW.bel hy))
 clear hK K;go_simp;refine RegL.reads ?_;intro K hK;rw [if_pos (by simp [Region.wanted])];refine ⟨VA,fun y hy=>?_,hK _ ?_⟩
 ·
  rw [← HVA.out];exact mac_loads _ _ _ rfl rfl (HM.out.below (KeptW.bel hy))
 clear hK K;go_simp;refine RegL.adds (fun _=>trivial) ?_;go_simp;intro x1 hx1 K hK;refine ⟨trivial,?_⟩;have hkx1:KeptW w0 x1:=hx1;have hd:=mtable_any A P x1;rw [HVA.out,HVT.out] at hd;refine (callsIn_wide.2 hd).mono ?_;clear hd;rintro e xc1 ⟨rfl,hb1⟩;have hxc1:KeptW w0 xc1:=KeptW.mono hkx1 hb1;refine hK (KeptW xc1) _ _ hb1 (fun y h=>KeptW.mono hxc1 (KeptW.bel h)) (keptW_mono xc1) (Below.refl _ _) ?_;clear hK K;refine RegL.adds (fun _=>trivial) ?_;go_simp;intro x2 hx2 K hK;refine ⟨trivial,?_⟩;have hkx2:KeptW w0 x2:=KeptW.mono hxc1 (KeptW.bel hx2);have hd:=mtree_any A P x2;rw [HVA.out] at hd;refine (callsIn_wide.2 hd).mono ?_;clear hd;rintro e xc2 ⟨rfl,hb2⟩;have hxc2:KeptW w0 xc2:=KeptW.mono hkx2 hb2;refine hK (KeptW xc2) _ _ hb2 (fun y h=>KeptW.mono (KeptW.bel hx2) (Below.trans hb2 ((KeptW.bel h).mono hb2.size))) (keptW_mono xc2) (Below.refl _ _) ?_;clear hK K;refine RegL.last ?_;intro g' y hF hy;have hyk:KeptW w0 y:=KeptW.mono hxc2 (KeptW.bel hy);obtain ⟨hg1,hg2⟩:=hF.1 ⟨4,10,.cells (tabCells tabNone).toArray 31 (0,0)⟩ (by simp) rfl;obtain ⟨hg3,hg4⟩:=hF.1 ⟨5,11,.cells #[.pointer none] 32 (0,0)⟩ (by simp) rfl;have hne:g' 5≠g' 4:=hF.2 ⟨5,11,.cells #[.pointer none] 32 (0,0)⟩ (by simp) ⟨4,10,.cells (tabCells tabNone).toArray 31 (0,0)⟩ (by simp) rfl rfl (by simp);have hs:TabAt y (g' 4) tabNone:=hg1;have hr:BoxAt y (g' 5) (.pointer none) 32:=hg3;have hsl:w0.heap.size≤g' 4:=hg2;have hrl:w0.heap.size≤g' 5:=hg4;simp only [RegL.putS,RegL.ptr,if_true];clear hF hg1 hg2 hg3 hg4;generalize g' 4=gt at *;generalize g' 5=gk at *;have hr2:BoxAt (rowSt y gt 0 (tabCells A.tab)) gk (.pointer none) 32:=(rowSt_other hne _ _ _).trans hr;have ht2:TabAt (rowSt y gt 0 (tabCells A.tab)) gt A.tab:=rowSt_row (tabCells A.tab) [] (tabCells tabNone) y hs rfl;have hE:=Lib.hid (show PaEnd w0 ((rowSt y gt 0 (tabCells A.tab)).setCell ⟨gk,0,none⟩ (.pointer P)) gt gk A.tab P from
  ⟨(Below.heap_setCell _ _ _ _ (by exact (Ne.symm hne))).trans ht2,hr2.set,below_setV (rowSt_below hsl _ _ _ (KeptW.bel hyk)) hrl,hsl,hrl,Ne.symm hne⟩)
 obtain ⟨q0,q1⟩:=tab_store hs HVT.out;simp only [Value.cells] at q0 q1;have k0:=hr2.cell;have k1:=hr2.frozen;clear hs hr hr2 ht2;generalize rowSt y gt 0 (tabCells A.tab)=wr at *;refine RegK.can_frees (fun _=>trivial) ?_;intro K K0 hK hK0;go_simp;refine hK (fun _=>True) _ _ trivial ?_;clear hK K hK0 K0 q0 q1;refine RegK.can_frees (fun _=>trivial) ?_;intro K K0 hK hK0;go_simp;refine hK (fun _=>True) _ _ trivial ?_;clear hK K hK0 K0;refine RegK.can_nil ?_;exact Hk.out _ _ _ _ gt gk _ hE.out
def mkM (B:MacV):MacV:=if makeOk B=true then B else macNone
def mkP (B:MacV) (P:Option Addr):Option Addr:=if makeOk B=true then P else none
def mkC (B:MacV):Int:=if makeOk B=true then 0 else 4
theorem mk_val (B:MacV) (P:Option Addr):(if makeOk B=true then macV B P else macV macNone none)=macV (mkM B) (mkP B P):=by
 unfold mkM mkP;split <;> rfl
theorem pa_reg18 (w0:World) (g g9 gt gk:Nat) (A:MacV) (P:Option Addr) (m:Nat) (t:TabV) (S:Sh) (U:Tr) {Q:Exit→Act→World→Prop}
  (hQ:∀ c a d v w,Q (.panic c) (Act.put a d v) w→Q (.panic c) a w) (hQ2:∀ c a d v w,Q (.panic c) a w→Q (.panic c) (Act.put a d v) w) (HM:Hid (MacAt w0 g A P)) (HB:Hid (BoxAt w0 g9 (.int .u8 (m:Int)) 24)) (HT:Hid (TabAt w0 gt t)) (HK:Hid (BoxAt w0 gk (.pointer U.ptr) 32)) (HU:Hid (TreeAt w0 U∧U.sh=S∧U.cnt≤1000000)) (Hs:Hid (A.all<256∧m<256))
  (u0 u1 u3 u4 u5 u6 u7 u8 u12 u13 u14 u15 u16 u17 u18 u19 u20 u21 u22 u23 u24 u25 u26 u27 u28 u29 u30 u31 u32 u33 u34 u35 u36 u37 u38 u39 u40 u41 u42 u43 u44 u45 u46 u47 u48 u49 u50 u51 u52 u53 u54 u55 u56 u57 u58 u59 u60 u61 u62 u63 u64 u65 u66 u67 u68 u69 u70 u71 u72 u73 u74 u75:Value)
  (Hk:Hid (∀ (s56 s57 s58 s59 s60 s61 s62 s63 s64:Value) (gb:Nat) (w2:World),MacAt w2 gb (mkM ⟨A.all,m,t,S⟩) (mkP ⟨A.all,m,t,S⟩ U.ptr)∧Below w0.heap.size w0 w2∧w0.heap.size≤gb→Q .normal ⟨List.toArray (u0::u1::Value.pointer (some ⟨g,0,none⟩)::u3::u4::u5::u6::u7::u8::Value.pointer (some ⟨g9,0,none⟩)::Value.pointer (some ⟨gt,0,none⟩)::Value.pointer (some ⟨gk,0,none⟩)::u12::u13::u14::u15::Value.pointer (some ⟨gb,0,none⟩)::Value.int .i64 (mkC ⟨A.all,m,t,S⟩)::u18::u19::u20::u21::u22::u23::u24::u25::u26::u27::u28::u29::u30::u31::u32::u33::u34::u35::u36::u37::u38::u39::u40::u41::u42::u43::u44::u45::u46::u47::u48::u49::u50::u51::u52::u53::u54::u55::s56::s57::s58::s59::s60::s61::s62::s63::s64::u65::u66::u67::u68::u69::u70::u71::u72::u73::u74::u75::[]),[]⟩ w2)) :
  Code.wp Tryz.prog (findR 18 (Tryz.f50.body.getD .skip)) Q ⟨List.toArray (u0::u1::Value.pointer (some ⟨g,0,none⟩)::u3::u4::u5::u6::u7::u8::Value.pointer (some ⟨g9,0,none⟩)::Value.pointer (some ⟨gt,0,none⟩)::Value.pointer (some ⟨gk,0,none⟩)::u12::u13::u14::u15::u16::u17::u18::u19::u20::u21::u22::u23::u24::u25::u26::u27::u28::u29::u30::u31::u32::u33::u34::u35::u36::u37::u38::u39::u40::u41::u42::u43::u44::u45::u46::u47::u48::u49::u50::u51::u52::u53::u54::u55::u56::u57::u58::u59::u60::u61::u62::u63::u64::u65::u66::u67::u68::u69::u70::u71::u72::u73::u74::u75::[]),[]⟩ w0:=by
 conv=>arg 2;whnf
 refine (wpIn_wide (n:=1)).1 ?_;refine RegL.wpIn_region_lays (F:=Fence.wide) (KeptW w0) [⟨9,16,.cells (macCells macNone none).toArray 38 (0,0)⟩] [(0,0),(2,0),(3,0),(4,0),(1,1),(5,1),(6,2),(7,2),(8,2),(10,3),(11,3)] (by kernel_rfl) (by kernel_rfl) (by kernel_rfl) (fun p hp=>by simp only [List.mem_cons,List.not_mem_nil,or_false] at hp;rcases hp with rfl;exact lays_any layMac rfl)
  hQ hQ2 ⟨rfl,rfl,rfl,Nat.le_refl _,fun _ _=>rfl⟩ (keptW_mono w0) ?_
 clear hQ hQ2;dsimp only [RegK.pick,List.getElem?_cons_zero,List.getElem?_cons_succ];obtain ⟨VA,hVA⟩:∃ V,macV A P=V:=⟨_,rfl⟩;have HVA:=Lib.hid hVA;clear hVA
 obtain ⟨VT,hVT⟩:∃ V,Value.agg (tabCells t).toArray=V:=⟨_,rfl⟩;have HVT:=Lib.hid hVT;clear hVT
 have hmk:=fun (y:World) (hy:TreeAt y U)=>make_any ⟨A.all,m,t,S⟩ U y hy HU.out.2.1 HU.out.2.2 Hs.out.1 Hs.out.2
 obtain ⟨B,hB⟩:∃ B:MacV,(⟨A.all,m,t,S⟩:MacV)=B:=⟨_,rfl⟩;have hmk2:=fun (y:World) (hy:TreeAt y U)=>(show Calls Tryz.prog 104 #[.int .u8 (A.all:Int),.int .u8 (m:Int),VT,.pointer U.ptr] y fun e w'=>e=.returned (.tuple #[macV (mkM ⟨A.all,m,t,S⟩) (mkP ⟨A.all,m,t,S⟩ U.ptr),.int .i64 (mkC ⟨A.all,m,t,S⟩)])∧TreeAt w' U∧Below y.heap.size y w' by
  rw [← HVT.out, ← mk_val];exact hmk y hy)
 clear hmk;rw [hB] at hmk2 Hk;clear hB;obtain ⟨V1,hV1⟩:∃ V,macV (mkM B) (mkP B U.ptr)=V:=⟨_,rfl⟩;rw [hV1] at hmk2;have HV1:=Lib.hid hV1;clear hV1
 have Hmk:=Lib.hid hmk2;clear hmk2
 obtain ⟨PU,hPU⟩:∃ P,U.ptr=P:=⟨_,rfl⟩;rw [hPU] at HK Hmk HV1 Hk;clear hPU;refine RegL.reads ?_;intro K hK;rw [if_pos (by simp [Region.wanted])];refine ⟨VA,fun y hy=>?_,hK _ ?_⟩
 ·
  rw [← HVA.out];exact mac_loads _ _ _ rfl rfl (HM.out.below (KeptW.bel hy))
 clear hK K;go_simp;refine RegL.reads ?_;intro K hK;go_simp;refine ⟨.int .u8 (m:Int),fun y hy=>?_,hK _ ?_⟩
 ·
  have k0:=(HB.out.below (KeptW.bel hy)).cell;go_simp
 clear hK K;refine RegL.reads ?_;intro K hK;rw [if_pos (by simp [Region.wanted])];refine ⟨VT,fun y hy=>?_,hK _ ?_⟩
 ·
  rw [← HVT.out];exact tab_loads _ _ _ rfl rfl (HT.out.below' (KeptW.bel hy))
 clear hK K;go_simp;refine RegL.reads ?_;intro K hK;go_simp;refine ⟨.pointer PU,fun y hy=>?_,hK _ ?_⟩
 ·
  have k0:=(HK.out.below (KeptW.bel hy)).cell;go_simp
 clear hK K;refine RegL.adds (fun _=>trivial) ?_;go_simp;intro x1 hx1 K hK;refine ⟨trivial,?_⟩;have hkx1:KeptW w0 x1:=hx1;have hd:=mall_any A P x1;rw [HVA.out] at hd;refine (callsIn_wide.2 hd).mono ?_;clear hd;rintro e xc1 ⟨rfl,hb1⟩;have hxc1:KeptW w0 xc1:=KeptW.mono hkx1 hb1;refine hK (KeptW xc1) _ _ hb1 (fun y h=>KeptW.mono hxc1 (KeptW.bel h)) (keptW_mono xc1) (Below.refl _ _) ?_;clear hK K;refine RegL.adds (fun _=>trivial) ?_;go_simp;intro x2 hx2 K hK;refine ⟨trivial,?_⟩;have hkx2:KeptW w0 x2:=KeptW.mono hxc1 (KeptW.bel hx2);have hd:=Hmk.out x2 (HU.out.1.below (KeptW.bel hkx2));refine (callsIn_wide.2 hd).mono ?_;clear hd;rintro e xc2 ⟨rfl, -, hb2⟩;have hxc2:KeptW w0 xc2:=KeptW.mono hkx2 hb2;refine hK (KeptW xc2) _ _ hb2 (fun y h=>KeptW.mono (KeptW.bel hx2) (Below.trans hb2 ((KeptW.bel h).mono hb2.size))) (keptW_mono xc2) (Below.refl _ _) ?_;clear hK K;iterate 3 (refine RegL.pures ?_;intro K hK;go_simp;(first | (refine ⟨_,fun _=>rfl,hK _ ?_⟩) | (refine hK _ ?_));clear hK K)
 refine RegL.last ?_;intro g' y hF hy;have hyk:KeptW w0 y:=KeptW.mono hxc2 (KeptW.bel hy);obtain ⟨hg1,hg2⟩:=hF.1 ⟨9,16,.cells (macCells macNone none).toArray 38 (0,0)⟩ (by simp) rfl;have hs:MacAt y (g' 9) macNone none:=hg1;have hsl:w0.heap.size≤g' 9:=hg2;simp only [RegL.putS,RegL.ptr,if_true];clear hF hg1 hg2;generalize g' 9=gb at *;obtain ⟨s1,s2,s3,s4⟩:=ma_st hs (mkM B) (mkP B PU);have hE:=Lib.hid (And.intro s1 (And.intro (s3 _ _ (KeptW.bel hyk) hsl) hsl));obtain ⟨q0,q1⟩:=mac_store hs HV1.out;simp only [Value.cells] at q0 q1;clear hs s1 s2 s3 s4;generalize rowSt y gb 0 (macCells (mkM B) (mkP B PU))=wr at *;refine RegK.can_frees (fun _=>trivial) ?_;intro K K0 hK hK0;go_simp;refine hK (fun _=>True) _ _ trivial ?_;clear hK K hK0 K0 q0 q1;refine RegK.can_frees (fun _=>trivial) ?_;intro K K0 hK hK0;go_simp;refine hK (fun _=>True) _ _ trivial ?_;clear hK K hK0 K0;refine RegK.can_nil ?_;exact Hk.out _ _ _ _ _ _ _ _ _ gb _ hE.out
theorem pa_reg16 (w0:World) (g q:Nat) (A:MacV) (P:Option Addr) (X:Tr) (n:Nat) {Q:Exit→Act→World→Prop}
  (hQ:∀ c a d v w,Q (.panic c) (Act.put a d v) w→Q (.panic c) a w) (HM:Hid (MacAt w0 g A P)) (HB:Hid (BoxAt w0 q (.int .u64 (n:Int)) 22)) (HX:Hid (TreeAt w0 X∧X.ptr=P∧X.sh=A.sh)) (HA:Hid (MacBy A∧(macB A).length≤maxLen))
  (u0 u1 u3 u4 u5 u6 u8 u9 u10 u11 u12 u13 u14 u15 u16 u17 u18 u19 u20 u21 u22 u23 u24 u25 u26 u27 u28 u29 u30 u31 u32 u33 u34 u35 u36 u37 u38 u39 u40 u41 u42 u43 u44 u45 u46 u47 u48 u49 u50 u51 u52 u53 u54 u55 u56 u57 u58 u59 u60 u61 u62 u63 u64 u65 u66 u67 u68 u69 u70 u71 u72 u73 u74 u75:Value)
  (Hk:Hid (∀ (s50 s51 s52 s53:Value) (w2:World),Below w0.heap.size w0 w2→Q .normal ⟨List.toArray (u0::u1::Value.pointer (some ⟨g,0,none⟩)::u3::u4::u5::u6::Value.pointer (some ⟨q,0,none⟩)::u8::u9::u10::u11::u12::u13::u14::u15::u16::u17::u18::u19::u20::u21::u22::u23::u24::u25::u26::u27::u28::u29::u30::u31::u32::u33::u34::u35::u36::u37::u38::u39::u40::u41::u42::u43::u44::u45::u46::u47::u48::u49::s50::s51::s52::s53::Value.bool ((sumM A:Int) != (n:Int))::u55::u56::u57::u58::u59::u60::u61::u62::u63::u64::u65::u66::u67::u68::u69::u70::u71::u72::u73::u74::u75::[]),[]⟩ w2)) :
  Code.wp Tryz.prog (findR 16 (Tryz.f50.body.getD .skip)) Q ⟨List.toArray (u0::u1::Value.pointer (some ⟨g,0,none⟩)::u3::u4::u5::u6::Value.pointer (some ⟨q,0,none⟩)::u8::u9::u10::u11::u12::u13::u14::u15::u16::u17::u18::u19::u20::u21::u22::u23::u24::u25::u26::u27::u28::u29::u30::u31::u32::u33::u34::u35::u36::u37::u38::u39::u40::u41::u42::u43::u44::u45::u46::u47::u48::u49::u50::u51::u52::u53::u54::u55::u56::u57::u58::u59::u60::u61::u62::u63::u64::u65::u66::u67::u68::u69::u70::u71::u72::u73::u74::u75::[]),[]⟩ w0:=by
 conv=>arg 2;whnf
 have hby:=fun (y:World) (hy:TreeAt y X)=>mbytes_any A X HA.out.1 y hy HX.out.2.2
 rw [HX.out.2.1] at hby;obtain ⟨VA,hVA⟩:∃ V,macV A P=V:=⟨_,rfl⟩;rw [hVA] at hby;have HVA:=Lib.hid hVA;clear hVA
 have hsum:=fun y:World=>sum_any ⟨(macB A).toArray⟩ (by simpa [ByteArray.size] using HA.out.2) y
 obtain ⟨SA,hSA⟩:∃ S:ByteArray,(⟨(macB A).toArray⟩:ByteArray)=S:=⟨_,rfl⟩;have hx:(Crc.sum 0#64 SA.data.toList).toNat=sumM A:=by rw [← hSA];rfl
 rw [hSA] at hby hsum;clear hSA;rw [hx] at hsum;clear hx;have Hby:=Lib.hid hby;clear hby
 have Hsum:=Lib.hid (fun y:World=>(hsum y).mono fun e w' h=>(show e=.returned (.int .u64 (sumM A:Int))∧Below y.heap.size y w' from ⟨h.1,by rw [← h.2];exact Below.refl _ _⟩));clear hsum
 generalize sumM A=sa at *;refine (wpIn_wide (n:=1)).1 ?_;refine RegK.wpIn_region_can (F:=Fence.wide) (KeptW w0) [(0,0),(3,0),(1,1),(2,1),(4,0)] (by kernel_rfl) (by kernel_rfl) (by kernel_rfl) hQ ⟨rfl,rfl,rfl,Nat.le_refl _,fun _ _=>rfl⟩ ?_;dsimp only [RegK.pick,List.getElem?_cons_zero,List.getElem?_cons_succ];change RegK.Can _ _ _ _ _ _ _ _ w0.drew;have hkd:KeptW w0 w0.drew:=⟨rfl,rfl,rfl,Nat.le_refl _,fun _ _=>rfl⟩;generalize w0.drew=z1 at *;refine RegK.can_reads ?_;intro K hK;rw [if_pos (by simp [Region.wanted])];refine ⟨VA,fun y hy=>?_,hK _ ?_⟩
 ·
  rw [← HVA.out];exact mac_loads _ _ _ rfl rfl (HM.out.below (KeptW.bel hy))
 clear hK K;go_simp;refine RegK.can_reads ?_;intro K hK;go_simp;refine ⟨.int .u64 (n:Int),fun y hy=>?_,hK _ ?_⟩
 ·
  have k0:=(HB.out.below (KeptW.bel hy)).cell;go_simp
 clear hK K;refine RegK.can_turns (fun _=>trivial) ?_;intro K K0 hK hK0;go_simp;refine ⟨trivial,?_⟩;refine (callsIn_wide.2 (Hby.out z1 (HX.out.1.below (KeptW.bel hkd)))).mono ?_;rintro e z2 ⟨rfl,hb7⟩;have z2k:KeptW w0 z2:=KeptW.mono hkd hb7;refine hK _ _ z2k ?_;clear hK K hK0 K0;refine RegK.can_turns (fun _=>trivial) ?_;intro K K0 hK hK0;go_simp;refine ⟨trivial,?_⟩;refine (callsIn_wide.2 (Hsum.out z2)).mono ?_;rintro e z3 ⟨rfl,hb7⟩;have z3k:KeptW w0 z3:=KeptW.mono z2k hb7;refine hK _ _ z3k ?_;clear hK K hK0 K0;refine RegK.can_reads ?_;intro K hK;go_simp;(first | refine ⟨_,fun _ _=>rfl,hK _ ?_⟩ | refine hK _ ?_);clear hK K
 refine RegK.can_nil ?_;exact Hk.out _ _ _ _ _ (KeptW.bel z3k)
theorem pa_reg21 (w0:World) (g q:Nat) (A:MacV) (P:Option Addr) (X:Tr) (n:Nat) {Q:Exit→Act→World→Prop}
  (hQ:∀ c a d v w,Q (.panic c) (Act.put a d v) w→Q (.panic c) a w) (HM:Hid (MacAt w0 g A P)) (HB:Hid (BoxAt w0 q (.int .u64 (n:Int)) 22)) (HX:Hid (TreeAt w0 X∧X.ptr=P∧X.sh=A.sh)) (HA:Hid (MacBy A∧(macB A).length≤maxLen))
  (u0 u1 u2 u3 u4 u5 u6 u7 u9 u10 u11 u12 u13 u14 u15 u17 u18 u19 u20 u21 u22 u23 u24 u25 u26 u27 u28 u29 u30 u31 u32 u33 u34 u35 u36 u37 u38 u39 u40 u41 u42 u43 u44 u45 u46 u47 u48 u49 u50 u51 u52 u53 u54 u55 u56 u57 u58 u59 u60 u61 u62 u63 u64 u65 u66 u67 u68 u69 u70 u71 u72 u73 u74 u75:Value)
  (Hk:Hid (∀ (s69 s70 s71 s72:Value) (w2:World),Below w0.heap.size w0 w2→Q .normal ⟨List.toArray (u0::u1::u2::u3::u4::u5::u6::u7::Value.pointer (some ⟨q,0,none⟩)::u9::u10::u11::u12::u13::u14::u15::Value.pointer (some ⟨g,0,none⟩)::u17::u18::u19::u20::u21::u22::u23::u24::u25::u26::u27::u28::u29::u30::u31::u32::u33::u34::u35::u36::u37::u38::u39::u40::u41::u42::u43::u44::u45::u46::u47::u48::u49::u50::u51::u52::u53::u54::u55::u56::u57::u58::u59::u60::u61::u62::u63::u64::u65::u66::u67::u68::s69::s70::s71::s72::Value.bool ((sumM A:Int) != (n:Int))::u74::u75::[]),[]⟩ w2)) :
  Code.wp Tryz.prog (findR 21 (Tryz.f50.body.getD .skip)) Q ⟨List.toArray (u0::u1::u2::u3::u4::u5::u6::u7::Value.pointer (some ⟨q,0,none⟩)::u9::u10::u11::u12::u13::u14::u15::Value.pointer (some ⟨g,0,none⟩)::u17::u18::u19::u20::u21::u22::u23::u24::u25::u26::u27::u28::u29::u30::u31::u32::u33::u34::u35::u36::u37::u38::u39::u40::u41::u42::u43::u44::u45::u46::u47::u48::u49::u50::u51::u52::u53::u54::u55::u56::u57::u58::u59::u60::u61::u62::u63::u64::u65::u66::u67::u68::u69::u70::u71::u72::u73::u74::u75::[]),[]⟩ w0:=by
 conv=>arg 2;whnf
 have hby:=fun (y:World) (hy:TreeAt y X)=>mbytes_any A X HA.out.1 y hy HX.out.2.2
 rw [HX.out.2.1] at hby;obtain ⟨VA,hVA⟩:∃ V,macV A P=V:=⟨_,rfl⟩;rw [hVA] at hby;have HVA:=Lib.hid hVA;clear hVA
 have hsum:=fun y:World=>sum_any ⟨(macB A).toArray⟩ (by simpa [ByteArray.size] using HA.out.2) y
 obtain ⟨SA,hSA⟩:∃ S:ByteArray,(⟨(macB A).toArray⟩:ByteArray)=S:=⟨_,rfl⟩;have hx:(Crc.sum 0#64 SA.data.toList).toNat=sumM A:=by rw [← hSA];rfl
 rw [hSA] at hby hsum;clear hSA;rw [hx] at hsum;clear hx;have Hby:=Lib.hid hby;clear hby
 have Hsum:=Lib.hid (fun y:World=>(hsum y).mono fun e w' h=>(show e=.returned (.int .u64 (sumM A:Int))∧Below y.heap.size y w' from ⟨h.1,by rw [← h.2];exact Below.refl _ _⟩));clear hsum
 generalize sumM A=sa at *;refine (wpIn_wide (n:=1)).1 ?_;refine RegK.wpIn_region_can (F:=Fence.wide) (KeptW w0) [(0,0),(3,0),(1,1),(2,1),(4,0)] (by kernel_rfl) (by kernel_rfl) (by kernel_rfl) hQ ⟨rfl,rfl,rfl,Nat.le_refl _,fun _ _=>rfl⟩ ?_;dsimp only [RegK.pick,List.getElem?_cons_zero,List.getElem?_cons_succ];change RegK.Can _ _ _ _ _ _ _ _ w0.drew;have hkd:KeptW w0 w0.drew:=⟨rfl,rfl,rfl,Nat.le_refl _,fun _ _=>rfl⟩;generalize w0.drew=z1 at *;refine RegK.can_reads ?_;intro K hK;rw [if_pos (by simp [Region.wanted])];refine ⟨VA,fun y hy=>?_,hK _ ?_⟩
 ·
  rw [← HVA.out];exact mac_loads _ _ _ rfl rfl (HM.out.below (KeptW.bel hy))
 clear hK K;go_simp;refine RegK.can_reads ?_;intro K hK;go_simp;refine ⟨.int .u64 (n:Int),fun y hy=>?_,hK _ ?_⟩
 ·
  have k0:=(HB.out.below (KeptW.bel hy)).cell;go_simp
 clear hK K;refine RegK.can_turns (fun _=>trivial) ?_;intro K K0 hK hK0;go_simp;refine ⟨trivial,?_⟩;refine (callsIn_wide.2 (Hby.out z1 (HX.out.1.below (KeptW.bel hkd)))).mono ?_;rintro e z2 ⟨rfl,hb7⟩;have z2k:KeptW w0 z2:=KeptW.mono hkd hb7;refine hK _ _ z2k ?_;clear hK K hK0 K0;refine RegK.can_turns (fun _=>trivial) ?_;intro K K0 hK hK0;go_simp;refine ⟨trivial,?_⟩;refine (callsIn_wide.2 (Hsum.out z2)).mono ?_;rintro e z3 ⟨rfl,hb7⟩;have z3k:KeptW w0 z3:=KeptW.mono z2k hb7;refine hK _ _ z3k ?_;clear hK K hK0 K0;refine RegK.can_reads ?_;intro K hK;go_simp;(first | refine ⟨_,fun _ _=>rfl,hK _ ?_⟩ | refine hK _ ?_);clear hK K
 refine RegK.can_nil ?_;exact Hk.out _ _ _ _ _ (KeptW.bel z3k)
end Go.Proofs.YtbckjgageofldaaGreat
