/- The document's table of sessions: ref12.Keep. Condition: the command is fresh; few are kept. -/
import Derived.Test.YtbckjgageofldaaGreatZLearnRefuses22
import Derived.Test.YtbckjgageofldaaGreatZLearnRefuses13
import Derived.Test.YtbckjgageofldaaGreatZLearnRefuses14
import Derived.Test.YtbckjgageofldaaGreatZLearnRefuses12
import Derived.Test.YtbckjgageofldaaGreatZLearnRefuses15
import Derived.Test.YtbckjgageofldaaGreatZLearnRefuses6
import Derived.Deep.DeepCutAuto
import Derived.Test.YtbckjgageofldaaGreatZLearnRefuses7
set_option maxRecDepth 100000
namespace Go.Proofs.YtbckjgageofldaaGreat
open Go.RowKit
theorem infoKept:(Tryz.prog.info? 179).map (fun i=>(i.zero,i.size,i.bytes))=some (some (.agg #[.int .u8 0,.int .u32 0,.int .u8 0,.string ByteArray.empty]),4,32):=by kernel_rfl
theorem kept_len (k:KeptV):(keptCells k).length=4:=rfl
theorem kept_one (k:KeptV):∀ u ∈ keptCells k,u.oneCell'=true:=by simp [keptCells,Value.oneCell']
theorem kept_new (w:World) (k:KeptV):KeptsAt (w.alloc (.cells (keptCells k).toArray 179)) (some ⟨w.heap.size,0,none⟩) 1 [k]:=by
 refine ⟨rfl,by unfold maxLen;omega,fun i x hx=>?_⟩;match i,hx with
 | 0,hx =>
  simp at hx;subst hx;refine ⟨w.heap.size,0,rfl,by simp,fun j v hj=>?_⟩;have h:=heap_alloc_new w (.cells (keptCells k).toArray 179);simp only [World.cell?,h,Nat.zero_mul,Nat.zero_add];simpa using hj
def STy (w:World) (t:TypeId) (A:Option Addr):Prop:=∀ b o,A=some ⟨b,o,none⟩→∃ cs,w.heap[b]?=some (.cells cs t (0,0))
theorem STy.stay {w w':World} {t:TypeId} {A:Option Addr} (h:STy w t A) (hb:∀ b o,A=some ⟨b,o,none⟩→w'.heap[b]?=w.heap[b]?):STy w' t A:=fun b o e=>by
 obtain ⟨cs,hc⟩:=h b o e;exact ⟨cs,(hb b o e).trans hc⟩
theorem STy.below {w w':World} {t:TypeId} {A:Option Addr} (h:STy w t A) (hb:Below w.heap.size w w'):STy w' t A:=fun b o e=>by
 obtain ⟨cs,h1⟩:=h b o e;exact ⟨cs,(hb.block b (Array.getElem?_eq_some_iff.1 h1).1).trans h1⟩
theorem sty_none (w:World) (t:TypeId):STy w t none:=fun b o e=>by cases e
theorem own_sty {w:World} {base:Nat} {t:TypeId} {size:Nat} {A:Option Addr} {n c:Nat} {xs:List Value} (h:w.ownsRow base t size (.slice A n c) n xs):STy w t A:=by
 rcases h.2 with ⟨e1,e2⟩ | ⟨g,cap,cur,e1,h2,h3,h4,h5,_,_⟩
 ·
  simp only [Value.slice.injEq] at e1;rw [e1.1];exact sty_none w t
 ·
  simp only [Value.slice.injEq] at e1;rw [e1.1];intro b o e;cases e
  exact ⟨_,h3⟩
set_option maxHeartbeats 4000000 in
theorem rkeep_any (A:Option Addr) (n cap:Nat) (z:List KeptV) (t:TabV) (hT:KeptTab t z) (hnil:A=none→n=0∧cap=0) (hn:n≤1000000) (k:KeptV) (hcl:k.client.toNat<4) (hsq:k.seq.toNat≠0) (hf:(lookT t k.client.toNat k.seq).1=1) (w:World) (h:KeptsAt w A n z) :
  Calls Tryz.prog 86 #[.slice A n cap,.agg (keptCells k).toArray] w fun e w'=>∃ A' c',e=.returned (.slice A' (n+1) c')∧KeptsAt w' A' (n+1) (z++[k])∧(A'≠none∧STy w' 179 A')∧Below w.heap.size w w':=by
 obtain ⟨i0,hi0,hz0,hs0,hb0⟩:=info_parts infoKept;have hk0:KeptRow (w.alloc (.cells (keptCells k).toArray 179)) w.heap.size k:=heap_alloc_new _ _;have hb1:=(Below.refl w.heap.size w).alloc (Nat.le_refl _) (.cells (keptCells k).toArray 179);have hl:=fun (y:World) (hy:Below w.heap.size w y)=>rlook_any A n cap z t hT k.client hcl k.seq hsq y (h.below hy)
 rw [hf] at hl;obtain ⟨q2,hq2⟩:∃ q,(lookT t k.client.toNat k.seq).2.1=q:=⟨_,rfl⟩;obtain ⟨q3,hq3⟩:∃ q,(lookT t k.client.toNat k.seq).2.2=q:=⟨_,rfl⟩;rw [hq2,hq3] at hl;unfold repV repCells at hl;have Hl:=Lib.hid hl;clear hl hq2 hq3
 have Hnil:=Lib.hid hnil;clear hnil
 have H:=Lib.hid h;clear h
 clear hf hT hsq;rw [kept_eta];go_enter Tryz.func86,Tryz.ntmps86
 go_upto_region 1 with fail;change Code.wp _ _ _ _ (w.alloc (.cells (keptCells k).toArray 179));generalize w.alloc (.cells (keptCells k).toArray 179)=w1 at *;have Hk0:=Lib.hid hk0;have Hb1:=Lib.hid hb1;clear hb1
 obtain ⟨k0,k1,k2,k3⟩:=hk0.cells;clear hk0;go_upto_region 4 with ((with_reducible refine (Hl.out _ Hb1.out).mono ?_);rintro e w2 ⟨rfl,hb2⟩;have Hb2:=Lib.hid hb2;clear hb2)
 clear k0 k1 k2 k3 Hl;have hb3:=Hb2.out.alloc Hb2.out.size (.cells (repCells q2 q3).toArray 27);change Code.wp _ _ _ _ (w2.alloc (.cells (repCells q2 q3).toArray 27));generalize w2.alloc (.cells (repCells q2 q3).toArray 27)=w3 at *;have Hk3:=Lib.hid (Hk0.out.below hb3);have Hbw:=Lib.hid (Hb1.out.trans (hb3.mono Hb1.out.size));clear hb3 Hb2 Hb1 Hk0;have Hlw:=Lib.hid (show w.heap.size<w3.heap.size from Hk3.out.lt);refine (wpIn_wide (n:=1)).1 ?_;refine RegJ.wpIn_region_plan (F:=Fence.wide) (KeptW w3) (.step 0 0 (.step 2 0 (.fork 1 (.step 3 1 (.step 4 1 (.step 5 0 .nil))) 3 (.step 1 1 (.step 4 1 (.step 5 0 .nil)))))) (by kernel_rfl) (by kernel_rfl) (by kernel_rfl) (fun _ _ d _ _ h=>by cases d <;> exact h) ⟨rfl,rfl,rfl,Nat.le_refl _,fun _ _=>rfl⟩ ?_;dsimp only [RegJ.pickJ,List.getElem?_cons_zero,List.getElem?_cons_succ];change RegJ.Can _ _ _ _ _ _ _ _ w3.drew;have hkd:KeptW w3 w3.drew:=⟨rfl,rfl,rfl,Nat.le_refl _,fun _ _=>rfl⟩;generalize w3.drew=w4 at *;refine RegJ.reads ?_;intro K hK;go_simp;refine ⟨_,fun _ _=>rfl,hK _ ?_⟩;clear hK K;refine RegJ.reads ?_;intro K hK;go_simp;refine ⟨.agg #[.int .u8 (k.client.toNat:Int),.int .u32 (k.seq.toNat:Int),.int .u8 (k.code:Int),.string k.text],fun y hy=>?_,hK _ ?_⟩
 ·
  obtain ⟨f0,f1,f2,f3⟩:=(Hk3.out.below (KeptW.bel hy)).cells;go_simp
 clear hK K;refine RegJ.forks ?_ ?_
 ·
  skip
  refine RegJ.turns (fun _=>trivial) ?_;intro K K0 hK hK0;rw [if_pos (by simp [Region.wanted])];refine RegK.op_wide rfl ?_;refine wp_append_slice (enc:=keptCells) _ _ 41 rfl w3.heap.size 179 i0 _ 32 Tryz.underlying41 hi0 hz0 hs0 hb0 rfl (by omega) kept_len kept_one (.slice none 0 0) 0 [] rfl (World.ownsRow_nil _ _ _ _) A n cap z rfl (H.out.below (Hbw.out.trans ((KeptW.bel hkd).mono Hbw.out.size))) Hnil.out (by unfold maxLen;omega) (by omega) (KeptW.bel hkd).size ?_;intro v5 w5 ho5 hg5;have hb5:Below w4.heap.size w4 w5:=⟨hg5.os,hg5.tape,hg5.output,hg5.size,fun q hq=>hg5.block q hq (fun e=>by cases e)⟩;have hk5:KeptW w3 w5:=KeptW.mono hkd hb5;refine hK _ _ _ (fun _ h=>h) hk5 ?_;clear hK K hK0 K0 hg5;rw [Nat.zero_add,List.nil_append] at ho5;refine RegJ.turns (fun _=>trivial) ?_;intro K K0 hK hK0;go_simp;have hb6:=(Below.refl w5.heap.size w5).alloc (Nat.le_refl _) (.cells (keptCells k).toArray 179);have qk:KeptW w3 (w5.alloc (.cells (keptCells k).toArray 179)):=KeptW.mono hk5 hb6;have qn:=kept_new w5 k;have ho6:(w5.alloc (.cells (keptCells k).toArray 179)).ownsRow w3.heap.size 179 4 v5 n (flat keptCells z):=ho5.alloc _;refine hK _ _ (w5.alloc (.cells (keptCells k).toArray 179)) (fun _ h=>h) qk ?_;have hk6:=qk;have hn6:=qn;clear hK K hK0 K0 hb6 ho5 hk5 qk qn;generalize w5.alloc (.cells (keptCells k).toArray 179)=w6 at *;generalize w5.heap.size=g5 at *;refine RegJ.turns (fun _=>trivial) ?_;intro K K0 hK hK0;rw [if_pos (by simp [Region.wanted])];refine RegK.op_wide rfl ?_;refine wp_append_slice (enc:=keptCells) _ _ 41 rfl w3.heap.size 179 i0 _ 32 Tryz.underlying41 hi0 hz0 hs0 hb0 rfl (by omega) kept_len kept_one v5 n (flat keptCells z) rfl ho6 (some ⟨g5,0,none⟩) 1 1 [k] rfl hn6 (fun e=>by cases e) (by unfold maxLen;omega) (by omega) (KeptW.bel hk6).size ?_;intro v7 w7 ho7 hg7;have hv5:∀ q,v5.ownBlock=some q→w3.heap.size≤q:=fun q hq=>(World.ownsRow.lt ho6 q hq).1
  have hk7:KeptW w3 w7:=(KeptW.bel hk6).trans ⟨hg7.os,hg7.tape,hg7.output,hg7.size,fun q hq=>hg7.block q (Nat.lt_of_lt_of_le hq (KeptW.bel hk6).size) (fun e=>by have:=hv5 q e.symm;omega)⟩;refine hK _ _ _ (fun _ h=>h) hk7 ?_;clear hK K hK0 K0;obtain ⟨A',c',rfl⟩:=own_slice_of ho7;have hne:A'≠none∧STy w7 179 A':=⟨fun e=>by have:=(own_nil ho7 e).1;omega,own_sty ho7⟩;rw [← flat_app] at ho7;have hs7:KeptsAt w7 A' (n+1) (z++[k]):=own_slice kept_len ho7 (by rw [List.length_append,H.out.hlen];rfl) (by unfold maxLen;omega);have hbel:=Hbw.out.trans ((KeptW.bel hk7).mono Hbw.out.size);have HF:=Lib.hid (And.intro hs7 (And.intro hne hbel));clear hs7 hne hbel ho7 hg7 hv5 hk7 hk6 hn6 ho6;refine RegJ.reads ?_;intro K hK;go_simp;refine ⟨_,fun _ _=>rfl,hK _ ?_⟩;clear hK K;refine RegJ.nil ?_;go_wp2_with fail;go_ret;exact ⟨A',c',rfl,HF.out.1,HF.out.2.1,HF.out.2.2⟩
 ·
  skip
  refine RegJ.turns (fun _=>trivial) ?_;intro K K0 hK hK0;go_simp;have hb6:=(Below.refl w4.heap.size w4).alloc (Nat.le_refl _) (.cells (keptCells k).toArray 179);have qk:KeptW w3 (w4.alloc (.cells (keptCells k).toArray 179)):=KeptW.mono hkd hb6;have qn:=kept_new w4 k;refine hK _ _ (w4.alloc (.cells (keptCells k).toArray 179)) (fun _ h=>h) qk ?_;clear hK K hK0 K0 hb6;generalize w4.alloc (.cells (keptCells k).toArray 179)=wq at *;generalize w4.heap.size=g5 at *;refine RegJ.turns (fun _=>trivial) ?_;intro K K0 hK hK0;rw [if_pos (by simp [Region.wanted])];refine RegK.op_wide rfl ?_;refine wp_append_slice (enc:=keptCells) _ _ 41 rfl w3.heap.size 179 i0 _ 32 Tryz.underlying41 hi0 hz0 hs0 hb0 rfl (by omega) kept_len kept_one (.slice none 0 0) 0 [] rfl (World.ownsRow_nil _ _ _ _) A n cap z rfl (H.out.below (Hbw.out.trans ((KeptW.bel qk).mono Hbw.out.size))) Hnil.out (by unfold maxLen;omega) (by omega) (KeptW.bel qk).size ?_;intro v5 w5 ho5 hg5;have hb5:Below wq.heap.size wq w5:=⟨hg5.os,hg5.tape,hg5.output,hg5.size,fun q hq=>hg5.block q hq (fun e=>by cases e)⟩;have hk5:KeptW w3 w5:=KeptW.mono qk hb5;refine hK _ _ _ (fun _ h=>h) hk5 ?_;clear hK K hK0 K0 hg5;rw [Nat.zero_add,List.nil_append] at ho5;have ho6:=ho5;have hk6:=hk5;have hn6:=qn.below hb5;clear ho5 hk5 hb5 qn qk;refine RegJ.turns (fun _=>trivial) ?_;intro K K0 hK hK0;rw [if_pos (by simp [Region.wanted])];refine RegK.op_wide rfl ?_;refine wp_append_slice (enc:=keptCells) _ _ 41 rfl w3.heap.size 179 i0 _ 32 Tryz.underlying41 hi0 hz0 hs0 hb0 rfl (by omega) kept_len kept_one v5 n (flat keptCells z) rfl ho6 (some ⟨g5,0,none⟩) 1 1 [k] rfl hn6 (fun e=>by cases e) (by unfold maxLen;omega) (by omega) (KeptW.bel hk6).size ?_;intro v7 w7 ho7 hg7;have hv5:∀ q,v5.ownBlock=some q→w3.heap.size≤q:=fun q hq=>(World.ownsRow.lt ho6 q hq).1
  have hk7:KeptW w3 w7:=(KeptW.bel hk6).trans ⟨hg7.os,hg7.tape,hg7.output,hg7.size,fun q hq=>hg7.block q (Nat.lt_of_lt_of_le hq (KeptW.bel hk6).size) (fun e=>by have:=hv5 q e.symm;omega)⟩;refine hK _ _ _ (fun _ h=>h) hk7 ?_;clear hK K hK0 K0;obtain ⟨A',c',rfl⟩:=own_slice_of ho7;have hne:A'≠none∧STy w7 179 A':=⟨fun e=>by have:=(own_nil ho7 e).1;omega,own_sty ho7⟩;rw [← flat_app] at ho7;have hs7:KeptsAt w7 A' (n+1) (z++[k]):=own_slice kept_len ho7 (by rw [List.length_append,H.out.hlen];rfl) (by unfold maxLen;omega);have hbel:=Hbw.out.trans ((KeptW.bel hk7).mono Hbw.out.size);have HF:=Lib.hid (And.intro hs7 (And.intro hne hbel));clear hs7 hne hbel ho7 hg7 hv5 hk7 hk6 hn6 ho6;refine RegJ.reads ?_;intro K hK;go_simp;refine ⟨_,fun _ _=>rfl,hK _ ?_⟩;clear hK K;refine RegJ.nil ?_;go_wp2_with fail;go_ret;exact ⟨A',c',rfl,HF.out.1,HF.out.2.1,HF.out.2.2⟩
structure RefM where
 A:Option Addr
 n:Nat
 c:Nat
 all:Nat
 mem:Nat
 B:Option Addr
 k:Nat
 d:Nat
def refCells (r:RefM):List Value:=[.slice r.A r.n r.c,.int .u8 (r.all:Int),.int .u8 (r.mem:Int),.slice r.B r.k r.d]
structure RefAt (w:World) (r:RefM) (M:MacV) (z:List KeptV):Prop where
 pairs:PairsAt w r.A r.n M.sh.kv
 keeps:KeptsAt w r.B r.k z
 all:r.all=M.all
 mem:r.mem=M.mem
 tab:KeptTab M.tab z
 ok:POk r.A r.n r.c
 ty:PTy w r.A
 asc:Asc M.sh.kv
 nilB:r.B=none→r.k=0∧r.d=0
 kty:STy w 179 r.B
theorem RefAt.below {w w':World} {r:RefM} {M:MacV} {z:List KeptV} (h:RefAt w r M z) (hb:Below w.heap.size w w'):RefAt w' r M z:=⟨h.pairs.below hb,h.keeps.below hb,h.all,h.mem,h.tab,h.ok,h.ty.below hb,h.asc,h.nilB,h.kty.below hb⟩
theorem ref_eta (r:RefM):(refCells r).toArray=#[.slice r.A r.n r.c,.int .u8 (r.all:Int),.int .u8 (r.mem:Int),.slice r.B r.k r.d]:=rfl
def RefRow (w:World) (g:Nat) (r:RefM):Prop:=w.heap[g]?=some (.cells (refCells r).toArray 43 (0,0))
theorem RefRow.cells {w:World} {g:Nat} {r:RefM} (h:RefRow w g r):w.cell? ⟨g,0,none⟩=some (.slice r.A r.n r.c)∧w.cell? ⟨g,1,none⟩=some (.int .u8 (r.all:Int))∧w.cell? ⟨g,2,none⟩=some (.int .u8 (r.mem:Int))∧w.cell? ⟨g,3,none⟩=some (.slice r.B r.k r.d) :=
 ⟨cell_of_row _ _ _ _ _ _ h,cell_of_row _ _ _ _ _ _ h,cell_of_row _ _ _ _ _ _ h,cell_of_row _ _ _ _ _ _ h⟩
theorem RefRow.lt {w:World} {g:Nat} {r:RefM} (h:RefRow w g r):g<w.heap.size:=(Array.getElem?_eq_some_iff.1 h).1
theorem RefRow.below {w w':World} {g:Nat} {r:RefM} (h:RefRow w g r) (hb:Below w.heap.size w w'):RefRow w' g r:=(hb.block g h.lt).trans h
theorem RefRow.thawed {w:World} {g:Nat} {r:RefM} (h:RefRow w g r) (j:Nat):w.frozen? ⟨g,j,none⟩=false:=by
 unfold RefRow at h;simp [World.frozen?,h]
def lstB (s:Nat):Nat→List UInt8
 | 0=>[]
 | i+1=>lstB s i++(if s / 2 ^ i % 2=1 then [UInt8.ofNat i] else [])
theorem lstB_len (s:Nat):∀ i,(lstB s i).length≤i
 | 0=>Nat.le_refl _
 | i+1=>by
  have:=lstB_len s i;unfold lstB;rw [List.length_append];split
  ·
   simp;omega
  ·
   simp;omega
set_option maxHeartbeats 4000000 in
theorem list8_any (s:Nat) (hs:s<256) (w:World):Calls Tryz.prog 145 #[.int .u8 (s:Int)] w fun e w'=>∃ v,e=.returned v∧OwnB w' w.heap.size 5 v (lstB s 7)∧Below w.heap.size w w':=by
 obtain ⟨i0,hi0,hz0,hs0,hb0⟩:=info_parts info8;go_enter Tryz.func145,Tryz.ntmps145
 go_wp2_with fail;go_loopw [0,3,4] (fun s0 s3 s4 wr=>∃ i:Nat,i≤7∧s4=.int .i64 (i:Int)∧s0=.int .u8 ((s / 2 ^ i:Nat):Int)∧OwnB wr w.heap.size 5 s3 (lstB s i)∧Below w.heap.size w wr) (fun _ _ s4 _=>7 - (intOf s4).toNat)
 case atStart=>exact ⟨0,by omega,rfl,by simp,⟨rfl,.inl ⟨rfl,rfl⟩⟩,Below.refl _ _⟩
 case round =>
  obtain ⟨i,hi,rfl,rfl,ho,hb⟩:=hrel;have Ho:=Lib.hid ho;clear ho
  have Hb:=Lib.hid hb;clear hb
  have hll:=lstB_len s i;by_cases h7:i<7
  ·
   have h7':(i:Int)<7:=by omega
   have hsucc:=tsucc (n:=i) (by omega);have hst:lstB s (i+1)=lstB s i++(if s / 2 ^ i % 2=1 then [UInt8.ofNat i] else []):=rfl;have hdiv:s / 2 ^ (i+1)=s / 2 ^ i / 2:=by rw [Nat.pow_succ,Nat.div_div_eq_div_mul]
   have Hdiv:=Lib.hid hdiv;clear hdiv
   have hlt:s / 2 ^ i<256:=Nat.lt_of_le_of_lt (Nat.div_le_self _ _) hs;obtain ⟨m,hm⟩:∃ m,s / 2 ^ i=m:=⟨_,rfl⟩;rw [hm] at hst Hdiv hlt ⊢;clear hm;have hmod:(i:Int) % 256=(i:Int):=by omega
   have hi8:((UInt8.ofNat i).toNat:Int)=(i:Int):=by simp;omega
   have hone:=ReadB.one wr (UInt8.ofNat i) 5;rw [hi8] at hone;have Hone:=Lib.hid hone;clear hone hi8
   have Hst:=Lib.hid hst;clear hst
   have Hlw:=Lib.hid (show w.heap.size≤wr.heap.size from Hb.out.size);by_cases h1:m % 2=1
   ·
    have h1':((m:Int) % 2 == 1)=true:=by rw [beq_iff_eq];omega
    have h1'':((m:Int).tmod 2 == 1)=true:=by rw [beq_iff_eq,Int.tmod_eq_emod_of_nonneg (by omega)];omega
    have H1:=Lib.hid h1;clear h1
    go_wp2_with (at_builtin;refine wpList_append_read rfl _ _ 44 rfl w.heap.size 5 i0 (.int .u8 0) Tryz.underlying44 hi0 hz0 hs0 hb0 rfl _ _ _ rfl (World.ownsRow.alloc Ho.out _) _ _ rfl Hone.out (by simp;omega) (by simp;have:=Hlw.out;omega) ?_;intro v4 w4 ho4 hg4;have Hg4:=Lib.hid hg4;clear hg4;have Ho4:=Lib.hid ho4;clear ho4);go_roundw
    case rel =>
     refine ⟨i+1,by omega,rfl,by rw [Hdiv.out];rfl,?_,below_grown Hg4.out (Hb.out.alloc Hlw.out _) (by simp;have:=Hlw.out;omega) (fun k hk=>(World.ownsRow.lt Ho.out k hk).1)⟩;rw [Hst.out,if_pos H1.out];exact OwnB.of Ho4.out rfl rfl
    case measure=>simp [intOf];omega
   ·
    have h1':((m:Int) % 2 == 1)=false:=by rw [beq_eq_false_iff_ne];omega
    have h1'':((m:Int).tmod 2 == 1)=false:=by rw [beq_eq_false_iff_ne,Int.tmod_eq_emod_of_nonneg (by omega)];omega
    have H1:=Lib.hid h1;clear h1
    go_wp2_with fail;go_roundw
    case rel =>
     refine ⟨i+1,by omega,rfl,by rw [Hdiv.out];rfl,?_,Hb.out⟩;rw [Hst.out,if_neg H1.out,List.append_nil];exact Ho.out
    case measure=>simp [intOf];omega
  ·
   have h7' : ¬ (i:Int)<7:=by omega
   have hi7:i=7:=by omega
   subst hi7;go_wp2_with fail;go_ret;exact ⟨_,rfl,Ho.out,Hb.out⟩
theorem readB_at {w:World} {v:Value} {l:List UInt8} (h:ReadB w v l) {i:Nat} (hi:i<l.length):∃ b o c,v=.slice (some ⟨b,o,none⟩) l.length c∧b<w.heap.size∧w.cell? ⟨b,o+i,none⟩=some (.int .u8 ((l.getD i 0).toNat:Int)):=by
 obtain ⟨a,c,rfl,_,h2⟩:=h.out;obtain ⟨b,o,rfl,h3,h4⟩:=h2 i _ (bcells_get hi);exact ⟨b,o,c,rfl,h3,by rw [h4];simp [List.getD,List.getElem?_eq_getElem hi]⟩
def hasB (l:List UInt8) (x:UInt8):Bool:=l.any fun y=>y == x
theorem hasB_take {l:List UInt8} {x:UInt8} {i:Nat} (hi:i<l.length):hasB (l.take (i+1)) x=(hasB (l.take i) x || (l.getD i 0 == x)):=by
 unfold hasB;rw [List.take_succ_eq_append_getElem hi,List.any_append];simp [List.getD,List.getElem?_eq_getElem hi]
theorem u8_eq {a b:UInt8} (h:a.toNat=b.toNat):a=b:=UInt8.toNat_inj.1 h
set_option maxHeartbeats 4000000 in
theorem has8_any (v:Value) (l:List UInt8) (x:UInt8) (hl:l.length≤1000000) (w:World) (h:ReadB w v l):Calls Tryz.prog 192 #[v,.int .u8 (x.toNat:Int)] w fun e w'=>e=.returned (.bool (hasB l x))∧w=w':=by
 obtain ⟨a,c,rfl,_,_⟩:=h.out;have H:=Lib.hid h;clear h
 go_enter Tryz.func192,Tryz.ntmps192
 go_wp2_with fail;go_loopw [5] (fun s5 wr=>∃ i:Nat,i≤l.length∧s5=.int .i64 (i:Int)∧hasB (l.take i) x=false∧w=wr) (fun s5 _=>l.length - (intOf s5).toNat)
 case atStart=>exact ⟨0,by omega,rfl,rfl,rfl⟩
 case round =>
  obtain ⟨i,hi,rfl,hn,rfl⟩:=hrel;have Hn:=Lib.hid hn;clear hn
  by_cases hlt:i<l.length
  ·
   have hlt':(i:Int)<(l.length:Int):=by omega
   have hsucc:=tsucc (n:=i) (by omega);have hst:=hasB_take (x:=x) hlt;obtain ⟨b,o,c',e,_,c0⟩:=readB_at H.out hlt;cases e
   generalize l.getD i 0=y at *;have Hst:=Lib.hid hst;clear hst
   by_cases hy:y=x
   ·
    subst hy;have hall:hasB l y=true:=by
     have h1:hasB (l.take (i+1)) y=true:=by rw [Hst.out];simp
     unfold hasB at *
     rw [List.any_eq_true] at h1 ⊢;obtain ⟨q,hq,hqe⟩:=h1;exact ⟨q,List.mem_of_mem_take hq,hqe⟩
    have Hall:=Lib.hid hall;clear hall
    go_wp2_with fail;go_ret;exact ⟨by rw [Hall.out];rfl,rfl⟩
   ·
    have hne:((y.toNat:Int) == (x.toNat:Int))=false:=by
     rw [beq_eq_false_iff_ne];intro e;exact hy (u8_eq (by omega))
    have Hy:=Lib.hid hy;clear hy
    go_wp2_with fail;go_roundw
    case rel=>exact ⟨i+1,hlt,rfl,by rw [Hst.out,Hn.out];simp [Hy.out],by first | rfl | trivial⟩
    case measure=>simp [intOf];omega
  ·
   have hlt' : ¬ (i:Int)<(l.length:Int):=by omega
   have hall:hasB l x=false:=by
    have h1:=Hn.out;rwa [List.take_of_length_le (by omega)] at h1
   have Hall:=Lib.hid hall;clear hall
   go_wp2_with fail;go_ret;exact ⟨by rw [Hall.out];rfl,rfl⟩
def pickB (a b:List UInt8):List UInt8:=a.filter fun x => !hasB b x
theorem pickB_take {a b:List UInt8} {i:Nat} (hi:i<a.length):pickB (a.take (i+1)) b=pickB (a.take i) b++(if hasB b (a.getD i 0)=true then [] else [a.getD i 0]):=by
 unfold pickB;rw [List.take_succ_eq_append_getElem hi,List.filter_append];have e:a.getD i 0=a[i]:=by simp [List.getD,List.getElem?_eq_getElem hi]
 rw [e];cases h:hasB b a[i] <;> simp [h]
set_option maxHeartbeats 4000000 in
theorem pick8_any (va vb:Value) (a b:List UInt8) (ha:a.length≤1000) (hb:b.length≤1000) (w:World) (h1:ReadB w va a) (h2:ReadB w vb b) :
  Calls Tryz.prog 172 #[va,vb,.bool false] w fun e w'=>∃ v,e=.returned v∧OwnB w' w.heap.size 5 v (pickB a b)∧Below w.heap.size w w':=by
 obtain ⟨i0,hi0,hz0,hs0,hb0⟩:=info_parts info8;obtain ⟨aa,ca,rfl,_,_⟩:=h1.out;have H1:=Lib.hid h1;clear h1
 have H2:=Lib.hid h2;clear h2
 go_enter Tryz.func172,Tryz.ntmps172
 go_wp2_with fail;go_loopw [7,8] (fun s7 s8 wr=>∃ i:Nat,i≤a.length∧s8=.int .i64 (i:Int)∧OwnB wr w.heap.size 5 s7 (pickB (a.take i) b)∧Below w.heap.size w wr) (fun _ s8 _=>a.length - (intOf s8).toNat)
 case atStart=>exact ⟨0,by omega,rfl,⟨rfl,.inl ⟨rfl,rfl⟩⟩,Below.refl _ _⟩
 case round =>
  obtain ⟨i,hi,rfl,ho,hbl⟩:=hrel;have Ho:=Lib.hid ho;clear ho
  have Hb:=Lib.hid hbl;clear hbl
  by_cases hlt:i<a.length
  ·
   have hlt':(i:Int)<(a.length:Int):=by omega
   have hsucc:=tsucc (n:=i) (by omega);have hst:=pickB_take (b:=b) hlt;obtain ⟨g,o,c',e,_,c0⟩:=readB_at (H1.out.below Hb.out) hlt;cases e
   have hpl:(pickB (a.take i) b).length≤1000:=by
    have h3:=List.length_filter_le (fun x => !hasB b x) (a.take i);rw [List.length_take] at h3;unfold pickB;omega
   generalize a.getD i 0=y at *;have Hst:=Lib.hid hst;clear hst
   have Hh:=Lib.hid (has8_any vb b y (by omega) wr (H2.out.below Hb.out));obtain ⟨hv,hhv⟩:∃ q,hasB b y=q:=⟨_,rfl⟩;rw [hhv] at Hh Hst;clear hhv;have Hlw:=Lib.hid (show w.heap.size≤wr.heap.size from Hb.out.size);have Hone:=Lib.hid (ReadB.one wr y 5);cases hv with
   | true =>
    go_wp2_with ((with_reducible refine Hh.out.mono ?_);rintro e w' ⟨rfl,rfl⟩);go_roundw
    case rel=>exact ⟨i+1,hlt,rfl,by rw [Hst.out,if_pos (by simp),List.append_nil];exact Ho.out,Hb.out⟩
    case measure=>simp [intOf];omega
   | false =>
    go_wp2_with (first
     | ((with_reducible refine Hh.out.mono ?_);rintro e w' ⟨rfl,rfl⟩)
     | (at_builtin;refine wpList_append_read rfl _ _ 44 rfl w.heap.size 5 i0 (.int .u8 0) Tryz.underlying44 hi0 hz0 hs0 hb0 rfl _ _ _ rfl (World.ownsRow.alloc Ho.out _) _ _ rfl Hone.out (by simp;omega) (by simp;have:=Hlw.out;omega) ?_;intro v4 w4 ho4 hg4;have Hg4:=Lib.hid hg4;clear hg4;have Ho4:=Lib.hid ho4;clear ho4))
    go_roundw
    case rel =>
     refine ⟨i+1,hlt,rfl,?_,below_grown Hg4.out (Hb.out.alloc Hlw.out _) (by simp;have:=Hlw.out;omega) (fun k hk=>(World.ownsRow.lt Ho.out k hk).1)⟩;rw [Hst.out,if_neg (by simp)];exact OwnB.of Ho4.out rfl rfl
    case measure=>simp [intOf];omega
  ·
   have hlt' : ¬ (i:Int)<(a.length:Int):=by omega
   go_wp2_with fail;go_ret;refine ⟨_,rfl,?_,Hb.out⟩;have h3:=Ho.out;rwa [List.take_of_length_le (by omega)] at h3
set_option maxHeartbeats 4000000 in
theorem may8_any (va vb:Value) (a b:List UInt8) (ha:a.length≤1000) (hb:b.length≤1000) (w:World) (h1:ReadB w va a) (h2:ReadB w vb b) :
  Calls Tryz.prog 144 #[va,vb] w fun e w'=>e=.returned (.bool (decide (0<a.length) && decide ((pickB a b).length=0)))∧Below w.heap.size w w':=by
 obtain ⟨aa,ca,rfl,hc0,hrd⟩:=h1.out;have Hp:=Lib.hid (pick8_any (.slice aa a.length ca) vb a b ha hb w ⟨aa,ca,rfl,hc0,hrd⟩ h2);obtain ⟨m,hm⟩:∃ m,(pickB a b).length=m:=⟨_,rfl⟩;obtain ⟨n,hn⟩:∃ n,a.length=n:=⟨_,rfl⟩;rw [hm,hn];rw [hn] at Hp ha;have Hm:=Lib.hid hm;clear hm
 clear hrd h2 hc0 h1;by_cases h0:0<n
 ·
  have h0':(0:Int)<(n:Int):=by omega
  have hd:decide (0<n)=true:=by simpa using h0
  rw [hd,Bool.true_and];clear hd hn;by_cases hz:m=0
  ·
   have hz':((m:Int) == 0)=true:=by rw [beq_iff_eq];omega
   have hd:decide (m=0)=true:=by simpa using hz
   rw [hd];clear hd;have Hz:=Lib.hid hz;clear hz
   go_enter Tryz.func144,Tryz.ntmps144
   go_wp2_with ((with_reducible refine Hp.out.mono ?_);rintro e w' ⟨v,rfl,ho,hb⟩;obtain ⟨av,cv,rfl,_,_⟩:=ho.read.out;rw [Hm.out];have Hb:=Lib.hid hb;clear hb);go_ret;exact ⟨rfl,Hb.out⟩
  ·
   have hz':((m:Int) == 0)=false:=by rw [beq_eq_false_iff_ne];omega
   have hd:decide (m=0)=false:=by simpa using hz
   rw [hd];clear hd;have Hz:=Lib.hid hz;clear hz
   go_enter Tryz.func144,Tryz.ntmps144
   go_wp2_with ((with_reducible refine Hp.out.mono ?_);rintro e w' ⟨v,rfl,ho,hb⟩;obtain ⟨av,cv,rfl,_,_⟩:=ho.read.out;rw [Hm.out];have Hb:=Lib.hid hb;clear hb);go_ret;exact ⟨rfl,Hb.out⟩
 ·
  have h0' : ¬ (0:Int)<(n:Int):=by omega
  have hd:decide (0<n)=false:=by simpa using h0
  rw [hd,Bool.false_and];clear hd hn Hm Hp h0;go_enter Tryz.func144,Tryz.ntmps144
  go_wp2_with fail;go_ret;exact ⟨rfl,Below.refl _ _⟩
def rmayS (s t:Nat):Bool:=decide (0<(lstB s 7).length) && decide ((pickB (lstB s 7) (lstB t 7)).length=0)
theorem rmay_any (s t:Nat) (hs:s<256) (ht:t<256) (w:World) :
  Calls Tryz.prog 84 #[.int .u8 (s:Int),.int .u8 (t:Int)] w fun e w'=>e=.returned (.bool (rmayS s t))∧Below w.heap.size w w':=by
 have Hs:=Lib.hid (fun y:World=>list8_any s hs y);have Ht:=Lib.hid (fun y:World=>list8_any t ht y);have hls:=lstB_len s 7;have hlt:=lstB_len t 7;have hm:=fun (v1 v2:Value) (y:World) (h1:ReadB y v1 (lstB s 7)) (h2:ReadB y v2 (lstB t 7))=>(show Calls Tryz.prog 144 #[v1,v2] y fun e w'=>e=.returned (.bool (rmayS s t))∧Below y.heap.size y w' from may8_any v1 v2 _ _ (by omega) (by omega) y h1 h2)
 obtain ⟨q,hq⟩:∃ q,rmayS s t=q:=⟨_,rfl⟩;rw [hq] at hm ⊢;have Hm:=Lib.hid hm;clear hm hq
 go_enter Tryz.func84,Tryz.ntmps84
 go_wp2_with (first
  | ((with_reducible refine (Hs.out w).mono ?_);rintro e w1 ⟨v1,rfl,ho1,hb1⟩;have Ho1:=Lib.hid ho1;clear ho1;have Hb1:=Lib.hid hb1;clear hb1 Hs)
  | ((with_reducible refine (Ht.out w1).mono ?_);rintro e w2 ⟨v2,rfl,ho2,hb2⟩;have Ho2:=Lib.hid ho2;clear ho2;have Hb2:=Lib.hid hb2;clear hb2 Ht)
  | ((with_reducible refine (Hm.out v1 v2 w2 (Ho1.out.below Hb2.out).read Ho2.out.read).mono ?_);rintro e w3 ⟨rfl,hb3⟩;have Hb3:=Lib.hid hb3;clear hb3))
 go_ret;have hb2:=Hb1.out.trans (Hb2.out.mono Hb1.out.size);exact ⟨rfl,hb2.trans (Hb3.out.mono hb2.size)⟩
theorem lstB_mem (s:Nat):∀ (i:Nat),i≤8→∀ x:UInt8,x ∈ lstB s i ↔ x.toNat<i∧s / 2 ^ x.toNat % 2=1
 | 0,_,x=>by simp [lstB]
 | i+1,hi,x=>by
  have ih:=lstB_mem s i (by omega) x;have e:(UInt8.ofNat i).toNat=i:=by simp;omega
  unfold lstB;rw [List.mem_append,ih];constructor
  ·
   rintro (⟨h1,h2⟩ | h)
   ·
    exact ⟨by omega,h2⟩
   ·
    split at h
    ·
     rename_i h3
     have hx:x=UInt8.ofNat i:=by simpa using h
     rw [hx,e];exact ⟨by omega,h3⟩
    ·
     simp at h
  ·
   rintro ⟨h1,h2⟩;by_cases hx:x.toNat=i
   ·
    right
    rw [hx] at h2;rw [if_pos h2];have:x=UInt8.ofNat i:=u8_eq (by rw [e,hx]);simp [this]
   ·
    exact .inl ⟨by omega,h2⟩
theorem pop_pos:∀ n:Fin 256,(0<pop8 n.val)=(n.val≠0):=by decide +kernel
theorem has_mem (l:List UInt8) (x:UInt8):hasB l x=true ↔ x ∈ l:=by
 unfold hasB;rw [List.any_eq_true];constructor
 ·
  rintro ⟨y,h1,h2⟩;rw [beq_iff_eq] at h2;rwa [← h2]
 ·
  exact fun h=>⟨x,h,by simp⟩
theorem bit_of (s i:Nat):s.testBit i=decide (s / 2 ^ i % 2=1):=by
 rw [Nat.testBit_eq_decide_div_mod_eq]
theorem rmay_eq {s t:Nat} (hs:s<256) (ht:t<256):rmayS s t=mayS s t:=by
 unfold rmayS mayS;have h127:∀ i,Nat.testBit 127 i=decide (i<7):=fun i=>by
  rw [show (127:Nat)=2 ^ 7 - 1 by rfl,Nat.testBit_two_pow_sub_one]
 have e1:(0<(lstB s 7).length)=(0<pop8 (s &&& 127)):=by
  have hb:s &&& 127<256:=Nat.lt_of_le_of_lt Nat.and_le_left hs;rw [pop_pos ⟨s &&& 127,hb⟩];apply propext
  constructor
  ·
   intro h h0;obtain ⟨x,hx⟩:=List.exists_mem_of_length_pos h;have h2:=(lstB_mem s 7 (by omega) x).1 hx;have h3:(s &&& 127).testBit x.toNat=true:=by rw [Nat.testBit_and,h127,bit_of];simp [h2.1,h2.2]
   rw [show s &&& 127=0 from h0] at h3;simp at h3
  ·
   intro h;obtain ⟨i,hi⟩:=Nat.exists_testBit_of_ne_zero h;rw [Nat.testBit_and,h127,bit_of] at hi;simp only [Bool.and_eq_true,decide_eq_true_eq] at hi;have hm:UInt8.ofNat i ∈ lstB s 7:=(lstB_mem s 7 (by omega) _).2 (by
    rw [show (UInt8.ofNat i).toNat=i by simp;omega];exact ⟨hi.2,hi.1⟩)
   exact List.length_pos_of_mem hm
 have e2:((pickB (lstB s 7) (lstB t 7)).length=0)=(withoutS s t=0):=by
  apply propext
  have hbit:∀ i,(withoutS s t).testBit i=(decide (s / 2 ^ i % 2=1) && (decide (i<8) && !decide (t / 2 ^ i % 2=1)) && decide (i<7)):=fun i=>by
   unfold withoutS;rw [Nat.testBit_and,Nat.testBit_and,h127,bit_of,show 255 - t=2 ^ 8 - (t+1) by omega,Nat.testBit_two_pow_sub_succ (show t<2 ^ 8 by omega),bit_of]
  rw [List.length_eq_zero_iff];constructor
  ·
   intro h;apply Nat.eq_of_testBit_eq
   intro i;rw [hbit,Nat.zero_testBit];cases hc:(decide (s / 2 ^ i % 2=1) && (decide (i<8) && !decide (t / 2 ^ i % 2=1)) && decide (i<7)) with
   | false=>rfl
   | true =>
    exfalso;simp only [Bool.and_eq_true,decide_eq_true_eq,Bool.not_eq_true',decide_eq_false_iff_not] at hc;obtain ⟨⟨h1,_,h3⟩,h4⟩:=hc;have e:(UInt8.ofNat i).toNat=i:=by simp;omega
    have hm:UInt8.ofNat i ∈ pickB (lstB s 7) (lstB t 7):=by
     unfold pickB;rw [List.mem_filter];refine ⟨(lstB_mem s 7 (by omega) _).2 (by rw [e];exact ⟨h4,h1⟩),?_⟩;cases hh:hasB (lstB t 7) (UInt8.ofNat i) with
     | false=>rfl
     | true =>
      have:=(lstB_mem t 7 (by omega) _).1 ((has_mem _ _).1 hh);rw [e] at this;exact absurd this.2 h3
    rw [h] at hm;simp at hm
  ·
   intro h;unfold pickB;rw [List.filter_eq_nil_iff];intro x hx hn;obtain ⟨h1,h2⟩:=(lstB_mem s 7 (by omega) x).1 hx;have h3 : ¬ t / 2 ^ x.toNat % 2=1:=fun h3=>by
    have:=(has_mem (lstB t 7) x).2 ((lstB_mem t 7 (by omega) x).2 ⟨h1,h3⟩);rw [this] at hn;simp at hn
   have hb:=hbit x.toNat;rw [h,Nat.zero_testBit] at hb;simp [h1,h2,h3] at hb;omega
 simp only [e1,e2]
end Go.Proofs.YtbckjgageofldaaGreat
