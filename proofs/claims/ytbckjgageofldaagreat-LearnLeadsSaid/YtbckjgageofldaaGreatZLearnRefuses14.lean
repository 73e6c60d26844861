/- The document's Do on pairs in order: what the program's does on the tree. Conditions: the pairs lie in the keys' order, at most 1000000. -/
import Derived.Test.YtbckjgageofldaaGreatZLearnRefuses13
import Derived.Test.YtbckjgageofldaaGreatZLearnRefuses8
import Derived.Test.YtbckjgageofldaaGreatZLearnRefuses11
import Derived.Deep.DeepCutAuto
import Derived.Test.YtbckjgageofldaaGreatZLearnRefuses2
set_option maxRecDepth 100000
namespace Go.Proofs.YtbckjgageofldaaGreat
open Go.RowKit
theorem pairs_setC {y:World} {g i n code:Nat} {text:ByteArray} {A:Option Addr} {L:Prs} {x:Value} (hp:PairsAt y A n L) (hty:PTy y A) (hr:RepAt y g code text):PairsAt (y.setCell ⟨g,i,none⟩ x) A n L∧PTy (y.setCell ⟨g,i,none⟩ x) A:=by
 have key:∀ b o,A=some ⟨b,o,none⟩→(y.setCell ⟨g,i,none⟩ x).heap[b]?=y.heap[b]?:=fun b o he=>by
  obtain ⟨cs,h1⟩:=hty b o he;refine Below.heap_setCell _ _ _ _ (fun e=>?_);have e':b=g:=e;subst e';unfold RepAt at hr;rw [hr] at h1;cases h1
 refine ⟨⟨hp.hlen,hp.hmax,fun j u hj=>?_⟩,fun b o he=>?_⟩
 ·
  obtain ⟨b,o,e1,e2,e3⟩:=hp.cells j u hj;refine ⟨b,o,e1,by simpa [World.setCell] using e2,fun k v hk=>?_⟩;rw [← e3 k v hk];simp only [World.cell?,key b o e1]
 ·
  obtain ⟨cs,h1⟩:=hty b o he;exact ⟨cs,(key b o he).trans h1⟩
structure RefI (w0:World) (c:CmdV) (w:World):Prop where
 bc:CmdAt w w0.heap.size c
 r1:RepAt w (w0.heap.size+1) 0 ByteArray.empty
 bel:Below w0.heap.size w0 w
theorem RefI.below {w0 w w':World} {c:CmdV} (h:RefI w0 c w) (hb:Below w.heap.size w w'):RefI w0 c w':=⟨h.bc.below hb,h.r1.below hb,h.bel.trans (hb.mono h.bel.size)⟩
theorem refI_start (w:World) (c:CmdV):RefI w c ((w.alloc (.cells (cmdCells c).toArray 56)).alloc (.cells (repCells 0 ByteArray.empty).toArray 27)):=by
 have b1:=(Below.refl w.heap.size w).alloc (Nat.le_refl _) (.cells (cmdCells c).toArray 56);have s1:(w.alloc (.cells (cmdCells c).toArray 56)).heap.size=w.heap.size+1:=by simp
 have v3:RepAt ((w.alloc (.cells (cmdCells c).toArray 56)).alloc (.cells (repCells 0 ByteArray.empty).toArray 27)) _ 0 ByteArray.empty:=heap_alloc_new _ _;rw [s1] at v3;exact ⟨(CmdAt.new w c).below ((Below.refl _ _).alloc (Nat.le_refl _) _),v3,b1.alloc b1.size _⟩
def repW (y:World) (g:Nat) (code:Nat) (text:ByteArray):World:=(y.setCell ⟨g,0,none⟩ (.int .u8 (code:Int))).setCell ⟨g,1,none⟩ (.string text)
structure RefEnd (w0 w:World) (code:Nat) (text:ByteArray):Prop where
 rep:RepAt w (w0.heap.size+1) code text
 bel:Below w0.heap.size w0 w
theorem ref_end {w0 w:World} {c:CmdV} (h:RefI w0 c w) (code:Nat) (text:ByteArray) {A:Option Addr} {n:Nat} {L:Prs} (hp:PairsAt w A n L) (hty:PTy w A) :
  RefEnd w0 (repW w (w0.heap.size+1) code text) code text∧PairsAt (repW w (w0.heap.size+1) code text) A n L∧PTy (repW w (w0.heap.size+1) code text) A:=by
 have r2:RepAt (w.setCell ⟨w0.heap.size+1,0,none⟩ (.int .u8 (code:Int))) (w0.heap.size+1) code ByteArray.empty:=h.r1.set rfl;obtain ⟨p1,p2⟩:=pairs_setC (i:=0) (x:=.int .u8 (code:Int)) hp hty h.r1;exact ⟨⟨r2.set rfl,below_setV (below_setV h.bel (by omega)) (by omega)⟩,pairs_setC p1 p2 r2⟩
def RefPostD (S:Sh) (c:CmdV) (w:World) (e:Ending) (w':World):Prop :=
 ∃ A' n' c',e=.returned (.tuple #[.slice A' n' c',repV (kvDo S c).code (kvDo S c).text])∧PairsAt w' A' n' (kvDo S c).sh.kv∧Below w.heap.size w w'∧POk A' n' c'∧PTy w' A'
theorem put_kv' {S:Sh} (h:Asc S.kv) (k v:ByteArray):(putSh k v S (S.look k)).kv=insL S.kv k v:=step_kv h ⟨1,k,v⟩
theorem del_kv' {S:Sh} (h:Asc S.kv) (k:ByteArray):(delSh k S (S.look k)).kv=rmL S.kv k:=step_kv h ⟨0,k,ByteArray.empty⟩
theorem may_kind {c:CmdV} (h:mayC c=true):c.kind=1∨c.kind=2∨c.kind=3∨c.kind=4∨c.kind=5:=by
 unfold mayC at h;simp only [Bool.and_eq_true] at h;have h1:=h.1.1.1.1.1.1.1;unfold hasOf at h1;by_cases e1:c.kind=1
 ·
  exact .inl e1
 by_cases e2:c.kind=2
 ·
  exact .inr (.inl e2)
 by_cases e3:c.kind=3
 ·
  exact .inr (.inr (.inl e3))
 by_cases e4:c.kind=4
 ·
  exact .inr (.inr (.inr (.inl e4)))
 by_cases e5:c.kind=5
 ·
  exact .inr (.inr (.inr (.inr e5)))
 rw [if_neg e1,if_neg e2,if_neg e3,if_neg e4,if_neg e5] at h1;cases h1
set_option maxHeartbeats 16000000 in
theorem do11_any (c:CmdV) (S:Sh) (A:Option Addr) (n cp:Nat) (w:World) (hp:PairsAt w A n S.kv) (hok:POk A n cp) (hty:PTy w A) (hasc:Asc S.kv) (hn:n≤1000000) :
  Calls Tryz.prog 85 #[.slice A n cp,.agg (cmdCells c).toArray] w (RefPostD S c w):=by
 have hI:=refI_start w c;have hcn:S.cnt=n:=by rw [cnt_kv];exact hp.hlen
 obtain ⟨hf1,hf2⟩:=find_look hasc c.key;have hmay:=fun y:World=>may09_any c y
 rw [cmd_eta] at hmay ⊢;have hfind:=fun (y:World) (hb:Below w.heap.size w y)=>find10_any A n cp S.kv c.key y (hp.below hb)
 rw [hf1] at hfind;have hputc:=fun (y:World) (hb:Below w.heap.size w y)=>put10_any A n cp S.kv c.key c.fresh y (hp.below hb) hok hasc hn
 have hdelc:=fun (y:World) (hb:Below w.heap.size w y)=>del10_any A n cp S.kv c.key y (hp.below hb) hok (hty.below hb) hasc hn
 obtain ⟨o,ho⟩:∃ o,kvDo S c=o:=⟨_,rfl⟩;unfold RefPostD;rw [ho];have HO:=Lib.hid ho;clear ho
 have Hput:=Lib.hid hputc;clear hputc
 have Hdel:=Lib.hid hdelc;clear hdelc
 have Hf2:=Lib.hid hf2;clear hf2 hf1
 have Hp:=Lib.hid (And.intro hp hty);clear hp hty
 have Hok:=Lib.hid hok;clear hok
 have Hasc:=Lib.hid hasc;clear hasc
 have HI:=Lib.hid hI;clear hI
 obtain ⟨I,hI⟩:∃ I,idxOf S.kv c.key=I:=⟨_,rfl⟩;rw [hI] at hfind;have HIx:=Lib.hid hI;clear hI
 obtain ⟨kn,hkn⟩:∃ k,c.kind=k:=⟨_,rfl⟩;have Hkn:=Lib.hid hkn;clear hkn
 cases hm:mayC c with
 | false =>
  rw [hm] at hmay;have Hmay:=Lib.hid hmay;clear hmay
  obtain rfl:o=⟨S,2,ByteArray.empty⟩:=by rw [← HO.out];unfold kvDo;rw [if_neg (by rw [hm];simp)]
  clear hm hfind;have Hkc:=Lib.hid (fun (y:World) (_:CmdAt y w.heap.size c)=>trivial);go_enter Tryz.func85,Tryz.ntmps85
  go_upto_region 1 with fail;change Code.wp _ _ _ _ ((w.alloc (.cells (cmdCells c).toArray 56)).alloc (.cells (repCells 0 ByteArray.empty).toArray 27));generalize (w.alloc (.cells (cmdCells c).toArray 56)).alloc (.cells (repCells 0 ByteArray.empty).toArray 27)=w1 at *;obtain ⟨d0,d1,d2,d3,d4,d5,d6⟩:=HI.out.bc.cells;go_wp2_with (first
   | ((with_reducible refine (Hmay.out _).mono ?_);clear Hmay;rintro e w2 ⟨rfl,hb2⟩;have HI2:=Lib.hid (HI.out.below hb2);clear hb2;obtain ⟨-, -, -, d32,d42,d52, -⟩:=HI2.out.bc.cells;obtain ⟨e22,e32⟩:=HI2.out.r1.cells;have e42:=HI2.out.r1.thawed 0;have e52:=HI2.out.r1.thawed 1;have d22:=Hkc.out _ HI2.out.bc))
  obtain ⟨z0,z1,z2⟩:=ref_end HI2.out 2 ByteArray.empty (Hp.out.1.below HI2.out.bel) (Hp.out.2.below HI2.out.bel);change bodyPost _ _ _ _ _ (repW w2 (w.heap.size+1) 2 ByteArray.empty);clear e22 e32 e42 e52;generalize repW w2 (w.heap.size+1) 2 ByteArray.empty=w9 at *;obtain ⟨y0,y1⟩:=z0.rep.cells;refine bodyPost_ret (v:=.tuple #[.slice A n cp,.agg #[.int .u8 (2:Int),.string ByteArray.empty]]) (by simp [results,Tryz.results85,go_sem,y0,y1] <;> rfl) rfl ?_;exact ⟨A,n,cp,rfl,z1,z0.bel,Hok.out,z2⟩
 | true =>
  rw [hm] at hmay;have Hmay:=Lib.hid hmay;clear hmay
  have hdo:kvDo S c=if c.kind=1 then kvGet S c else if c.kind=2 then kvPut S c else if c.kind=3 then kvDel S c else if c.kind=4 then kvCas S c else ⟨S,2,ByteArray.empty⟩:=by unfold kvDo;rw [if_pos hm]
  rw [HO.out] at hdo;have Hdo:=Lib.hid hdo;clear hdo
  rcases may_kind hm with h5 | h5 | h5 | h5 | h5 <;> rw [Hkn.out] at h5 <;> subst h5 <;> clear hm
  ·
   cases hl:S.look c.key with
   | none =>
    rw [hl] at hfind;have Hfind:=Lib.hid hfind;clear hfind
    obtain rfl:o=⟨S,1,ByteArray.empty⟩:=by rw [Hdo.out];simp only [Hkn.out];unfold kvGet;rw [hl];rfl
    clear hl;have Hkc:=Lib.hid (fun (y:World) (hb:CmdAt y w.heap.size c)=>show y.cell? ⟨w.heap.size,2,none⟩=some (.int .u8 1) by have:=hb.cells.2.2.1;rwa [Hkn.out] at this);go_enter Tryz.func85,Tryz.ntmps85
    go_upto_region 1 with fail;change Code.wp _ _ _ _ ((w.alloc (.cells (cmdCells c).toArray 56)).alloc (.cells (repCells 0 ByteArray.empty).toArray 27));generalize (w.alloc (.cells (cmdCells c).toArray 56)).alloc (.cells (repCells 0 ByteArray.empty).toArray 27)=w1 at *;obtain ⟨d0,d1,d2,d3,d4,d5,d6⟩:=HI.out.bc.cells;go_wp2_with (first
     | ((with_reducible refine (Hmay.out _).mono ?_);clear Hmay;rintro e w2 ⟨rfl,hb2⟩;have HI2:=Lib.hid (HI.out.below hb2);clear hb2;obtain ⟨-, -, -, d32,d42,d52, -⟩:=HI2.out.bc.cells;obtain ⟨e22,e32⟩:=HI2.out.r1.cells;have e42:=HI2.out.r1.thawed 0;have e52:=HI2.out.r1.thawed 1;have d22:=Hkc.out _ HI2.out.bc)
     | ((with_reducible refine (Hfind.out _ HI2.out.bel).mono ?_);clear Hfind;rintro e w3 ⟨rfl,hb3⟩;have HI3:=Lib.hid (HI2.out.below hb3);clear hb3;obtain ⟨-, -, -, d33,d43,d53, -⟩:=HI3.out.bc.cells;obtain ⟨e23,e33⟩:=HI3.out.r1.cells;have e43:=HI3.out.r1.thawed 0;have e53:=HI3.out.r1.thawed 1;have d23:=Hkc.out _ HI3.out.bc))
    obtain ⟨z0,z1,z2⟩:=ref_end HI3.out 1 ByteArray.empty (Hp.out.1.below HI3.out.bel) (Hp.out.2.below HI3.out.bel);change bodyPost _ _ _ _ _ (repW w3 (w.heap.size+1) 1 ByteArray.empty);clear e23 e33 e43 e53;generalize repW w3 (w.heap.size+1) 1 ByteArray.empty=w9 at *;obtain ⟨y0,y1⟩:=z0.rep.cells;refine bodyPost_ret (v:=.tuple #[.slice A n cp,.agg #[.int .u8 (1:Int),.string ByteArray.empty]]) (by simp [results,Tryz.results85,go_sem,y0,y1] <;> rfl) rfl ?_;exact ⟨A,n,cp,rfl,z1,z0.bel,Hok.out,z2⟩
   | some v =>
    rw [hl] at hfind;have Hfind:=Lib.hid hfind;clear hfind
    have hget:=Hf2.out v hl;have hIn:I<n:=by have h1:=(find_look Hasc.out c.key).1;rw [hl] at h1;have h2:=isAt_lt h1;rw [HIx.out,Hp.out.1.hlen] at h2;exact h2
    obtain ⟨ba,oa,rfl,hbl,_,hcv⟩:=pairs_get Hp.out.1 hIn;rw [HIx.out] at hget;rw [hget] at hcv;have Hcell:=Lib.hid (fun (y:World) (hb:Below w.heap.size w y)=>show y.cell? ⟨ba,oa+I*2+1,none⟩=some (.string v) from (hb.cell (p:=⟨ba,oa+I*2+1,none⟩) hbl).trans hcv);have hIn':(I:Int)<(n:Int):=by omega
    clear hbl hcv hget;obtain rfl:o=⟨S,0,v⟩:=by rw [Hdo.out];simp only [Hkn.out];unfold kvGet;rw [hl];rfl
    clear hl;have Hkc:=Lib.hid (fun (y:World) (hb:CmdAt y w.heap.size c)=>show y.cell? ⟨w.heap.size,2,none⟩=some (.int .u8 1) by have:=hb.cells.2.2.1;rwa [Hkn.out] at this);go_enter Tryz.func85,Tryz.ntmps85
    go_upto_region 1 with fail;change Code.wp _ _ _ _ ((w.alloc (.cells (cmdCells c).toArray 56)).alloc (.cells (repCells 0 ByteArray.empty).toArray 27));generalize (w.alloc (.cells (cmdCells c).toArray 56)).alloc (.cells (repCells 0 ByteArray.empty).toArray 27)=w1 at *;obtain ⟨d0,d1,d2,d3,d4,d5,d6⟩:=HI.out.bc.cells;go_wp2_with (first
     | ((with_reducible refine (Hmay.out _).mono ?_);clear Hmay;rintro e w2 ⟨rfl,hb2⟩;have HI2:=Lib.hid (HI.out.below hb2);clear hb2;obtain ⟨-, -, -, d32,d42,d52, -⟩:=HI2.out.bc.cells;obtain ⟨e22,e32⟩:=HI2.out.r1.cells;have e42:=HI2.out.r1.thawed 0;have e52:=HI2.out.r1.thawed 1;have d22:=Hkc.out _ HI2.out.bc)
     | ((with_reducible refine (Hfind.out _ HI2.out.bel).mono ?_);clear Hfind;rintro e w3 ⟨rfl,hb3⟩;have HI3:=Lib.hid (HI2.out.below hb3);clear hb3;obtain ⟨-, -, -, d33,d43,d53, -⟩:=HI3.out.bc.cells;obtain ⟨e23,e33⟩:=HI3.out.r1.cells;have e43:=HI3.out.r1.thawed 0;have e53:=HI3.out.r1.thawed 1;have d23:=Hkc.out _ HI3.out.bc;have x3:=Hcell.out w3 HI3.out.bel))
    obtain ⟨z0,z1,z2⟩:=ref_end HI3.out 0 v (Hp.out.1.below HI3.out.bel) (Hp.out.2.below HI3.out.bel);change bodyPost _ _ _ _ _ (repW w3 (w.heap.size+1) 0 v);clear e23 e33 e43 e53;generalize repW w3 (w.heap.size+1) 0 v=w9 at *;obtain ⟨y0,y1⟩:=z0.rep.cells;refine bodyPost_ret (v:=.tuple #[.slice (some ⟨ba,oa,none⟩) n cp,.agg #[.int .u8 (0:Int),.string v]]) (by simp [results,Tryz.results85,go_sem,y0,y1] <;> rfl) rfl ?_;exact ⟨(some ⟨ba,oa,none⟩),n,cp,rfl,z1,z0.bel,Hok.out,z2⟩
  ·
   cases hl:S.look c.key with
   | none =>
    rw [hl] at hfind;have Hfind:=Lib.hid hfind;clear hfind
    by_cases hfull:256≤n
    ·
     have hful' : ¬ (n:Int)<256:=by omega
     obtain rfl:o=⟨S,2,ByteArray.empty⟩:=by rw [Hdo.out];simp only [Hkn.out];unfold kvPut;rw [hl];simp only [show (2:UInt8)≠1 by decide,if_false,if_true];rw [if_pos (by rw [hcn];exact hfull)]
     clear hl hcn;have Hkc:=Lib.hid (fun (y:World) (hb:CmdAt y w.heap.size c)=>show y.cell? ⟨w.heap.size,2,none⟩=some (.int .u8 2) by have:=hb.cells.2.2.1;rwa [Hkn.out] at this);go_enter Tryz.func85,Tryz.ntmps85
     go_upto_region 1 with fail;change Code.wp _ _ _ _ ((w.alloc (.cells (cmdCells c).toArray 56)).alloc (.cells (repCells 0 ByteArray.empty).toArray 27));generalize (w.alloc (.cells (cmdCells c).toArray 56)).alloc (.cells (repCells 0 ByteArray.empty).toArray 27)=w1 at *;obtain ⟨d0,d1,d2,d3,d4,d5,d6⟩:=HI.out.bc.cells;go_wp2_with (first
      | ((with_reducible refine (Hmay.out _).mono ?_);clear Hmay;rintro e w2 ⟨rfl,hb2⟩;have HI2:=Lib.hid (HI.out.below hb2);clear hb2;obtain ⟨-, -, -, d32,d42,d52, -⟩:=HI2.out.bc.cells;obtain ⟨e22,e32⟩:=HI2.out.r1.cells;have e42:=HI2.out.r1.thawed 0;have e52:=HI2.out.r1.thawed 1;have d22:=Hkc.out _ HI2.out.bc)
      | ((with_reducible refine (Hfind.out _ HI2.out.bel).mono ?_);clear Hfind;rintro e w3 ⟨rfl,hb3⟩;have HI3:=Lib.hid (HI2.out.below hb3);clear hb3;obtain ⟨-, -, -, d33,d43,d53, -⟩:=HI3.out.bc.cells;obtain ⟨e23,e33⟩:=HI3.out.r1.cells;have e43:=HI3.out.r1.thawed 0;have e53:=HI3.out.r1.thawed 1;have d23:=Hkc.out _ HI3.out.bc))
     obtain ⟨z0,z1,z2⟩:=ref_end HI3.out 2 ByteArray.empty (Hp.out.1.below HI3.out.bel) (Hp.out.2.below HI3.out.bel);change bodyPost _ _ _ _ _ (repW w3 (w.heap.size+1) 2 ByteArray.empty);clear e23 e33 e43 e53;generalize repW w3 (w.heap.size+1) 2 ByteArray.empty=w9 at *;obtain ⟨y0,y1⟩:=z0.rep.cells;refine bodyPost_ret (v:=.tuple #[.slice A n cp,.agg #[.int .u8 (2:Int),.string ByteArray.empty]]) (by simp [results,Tryz.results85,go_sem,y0,y1] <;> rfl) rfl ?_;exact ⟨A,n,cp,rfl,z1,z0.bel,Hok.out,z2⟩
    ·
     have hful':(n:Int)<256:=by omega
     obtain rfl:o=⟨putSh c.key c.fresh S (S.look c.key),0,ByteArray.empty⟩:=by rw [Hdo.out];simp only [Hkn.out];unfold kvPut;rw [hl];simp only [show (2:UInt8)≠1 by decide,if_false,if_true];rw [if_neg (by rw [hcn];exact hfull)]
     clear hl hcn;have Hkc:=Lib.hid (fun (y:World) (hb:CmdAt y w.heap.size c)=>show y.cell? ⟨w.heap.size,2,none⟩=some (.int .u8 2) by have:=hb.cells.2.2.1;rwa [Hkn.out] at this);go_enter Tryz.func85,Tryz.ntmps85
     go_upto_region 1 with fail;change Code.wp _ _ _ _ ((w.alloc (.cells (cmdCells c).toArray 56)).alloc (.cells (repCells 0 ByteArray.empty).toArray 27));generalize (w.alloc (.cells (cmdCells c).toArray 56)).alloc (.cells (repCells 0 ByteArray.empty).toArray 27)=w1 at *;obtain ⟨d0,d1,d2,d3,d4,d5,d6⟩:=HI.out.bc.cells;go_wp2_with (first
      | ((with_reducible refine (Hmay.out _).mono ?_);clear Hmay;rintro e w2 ⟨rfl,hb2⟩;have HI2:=Lib.hid (HI.out.below hb2);clear hb2;obtain ⟨-, -, -, d32,d42,d52, -⟩:=HI2.out.bc.cells;obtain ⟨e22,e32⟩:=HI2.out.r1.cells;have e42:=HI2.out.r1.thawed 0;have e52:=HI2.out.r1.thawed 1;have d22:=Hkc.out _ HI2.out.bc)
      | ((with_reducible refine (Hfind.out _ HI2.out.bel).mono ?_);clear Hfind;rintro e w3 ⟨rfl,hb3⟩;have HI3:=Lib.hid (HI2.out.below hb3);clear hb3;obtain ⟨-, -, -, d33,d43,d53, -⟩:=HI3.out.bc.cells;obtain ⟨e23,e33⟩:=HI3.out.r1.cells;have e43:=HI3.out.r1.thawed 0;have e53:=HI3.out.r1.thawed 1;have d23:=Hkc.out _ HI3.out.bc)
      | ((with_reducible refine (Hput.out _ HI3.out.bel).mono ?_);rintro e w4 ⟨A4,n4,c4,rfl,hp4,hb4,hok4,hty4⟩;have HI4:=Lib.hid (HI3.out.below hb4);clear hb4;have Hp4:=Lib.hid (And.intro hp4 hty4);clear hp4 hty4;have Hok4:=Lib.hid hok4;clear hok4;obtain ⟨-, -, -, d34,d44,d54, -⟩:=HI4.out.bc.cells;obtain ⟨e24,e34⟩:=HI4.out.r1.cells;have e44:=HI4.out.r1.thawed 0;have e54:=HI4.out.r1.thawed 1;have d24:=Hkc.out _ HI4.out.bc))
     obtain ⟨z0,z1,z2⟩:=ref_end HI4.out 0 ByteArray.empty Hp4.out.1 Hp4.out.2;change bodyPost _ _ _ _ _ (repW w4 (w.heap.size+1) 0 ByteArray.empty);clear e24 e34 e44 e54;generalize repW w4 (w.heap.size+1) 0 ByteArray.empty=w9 at *;obtain ⟨y0,y1⟩:=z0.rep.cells;refine bodyPost_ret (v:=.tuple #[.slice A4 n4 c4,.agg #[.int .u8 (0:Int),.string ByteArray.empty]]) (by simp [results,Tryz.results85,go_sem,y0,y1] <;> rfl) rfl ?_;exact ⟨A4,n4,c4,rfl,(by rw [put_kv' Hasc.out];exact z1),z0.bel,Hok4.out,z2⟩
   | some v =>
    rw [hl] at hfind;have Hfind:=Lib.hid hfind;clear hfind
    have hget:=Hf2.out v hl;have hIn:I<n:=by have h1:=(find_look Hasc.out c.key).1;rw [hl] at h1;have h2:=isAt_lt h1;rw [HIx.out,Hp.out.1.hlen] at h2;exact h2
    obtain ⟨ba,oa,rfl,hbl,_,hcv⟩:=pairs_get Hp.out.1 hIn;rw [HIx.out] at hget;rw [hget] at hcv;have Hcell:=Lib.hid (fun (y:World) (hb:Below w.heap.size w y)=>show y.cell? ⟨ba,oa+I*2+1,none⟩=some (.string v) from (hb.cell (p:=⟨ba,oa+I*2+1,none⟩) hbl).trans hcv);have hIn':(I:Int)<(n:Int):=by omega
    clear hbl hcv hget;obtain rfl:o=⟨putSh c.key c.fresh S (S.look c.key),0,ByteArray.empty⟩:=by rw [Hdo.out];simp only [Hkn.out];unfold kvPut;rw [hl];rfl
    clear hl;have Hkc:=Lib.hid (fun (y:World) (hb:CmdAt y w.heap.size c)=>show y.cell? ⟨w.heap.size,2,none⟩=some (.int .u8 2) by have:=hb.cells.2.2.1;rwa [Hkn.out] at this);go_enter Tryz.func85,Tryz.ntmps85
    go_upto_region 1 with fail;change Code.wp _ _ _ _ ((w.alloc (.cells (cmdCells c).toArray 56)).alloc (.cells (repCells 0 ByteArray.empty).toArray 27));generalize (w.alloc (.cells (cmdCells c).toArray 56)).alloc (.cells (repCells 0 ByteArray.empty).toArray 27)=w1 at *;obtain ⟨d0,d1,d2,d3,d4,d5,d6⟩:=HI.out.bc.cells;go_wp2_with (first
     | ((with_reducible refine (Hmay.out _).mono ?_);clear Hmay;rintro e w2 ⟨rfl,hb2⟩;have HI2:=Lib.hid (HI.out.below hb2);clear hb2;obtain ⟨-, -, -, d32,d42,d52, -⟩:=HI2.out.bc.cells;obtain ⟨e22,e32⟩:=HI2.out.r1.cells;have e42:=HI2.out.r1.thawed 0;have e52:=HI2.out.r1.thawed 1;have d22:=Hkc.out _ HI2.out.bc)
     | ((with_reducible refine (Hfind.out _ HI2.out.bel).mono ?_);clear Hfind;rintro e w3 ⟨rfl,hb3⟩;have HI3:=Lib.hid (HI2.out.below hb3);clear hb3;obtain ⟨-, -, -, d33,d43,d53, -⟩:=HI3.out.bc.cells;obtain ⟨e23,e33⟩:=HI3.out.r1.cells;have e43:=HI3.out.r1.thawed 0;have e53:=HI3.out.r1.thawed 1;have d23:=Hkc.out _ HI3.out.bc;have x3:=Hcell.out w3 HI3.out.bel)
     | ((with_reducible refine (Hput.out _ HI3.out.bel).mono ?_);rintro e w4 ⟨A4,n4,c4,rfl,hp4,hb4,hok4,hty4⟩;have HI4:=Lib.hid (HI3.out.below hb4);clear hb4;have Hp4:=Lib.hid (And.intro hp4 hty4);clear hp4 hty4;have Hok4:=Lib.hid hok4;clear hok4;obtain ⟨-, -, -, d34,d44,d54, -⟩:=HI4.out.bc.cells;obtain ⟨e24,e34⟩:=HI4.out.r1.cells;have e44:=HI4.out.r1.thawed 0;have e54:=HI4.out.r1.thawed 1;have d24:=Hkc.out _ HI4.out.bc))
    obtain ⟨z0,z1,z2⟩:=ref_end HI4.out 0 ByteArray.empty Hp4.out.1 Hp4.out.2;change bodyPost _ _ _ _ _ (repW w4 (w.heap.size+1) 0 ByteArray.empty);clear e24 e34 e44 e54;generalize repW w4 (w.heap.size+1) 0 ByteArray.empty=w9 at *;obtain ⟨y0,y1⟩:=z0.rep.cells;refine bodyPost_ret (v:=.tuple #[.slice A4 n4 c4,.agg #[.int .u8 (0:Int),.string ByteArray.empty]]) (by simp [results,Tryz.results85,go_sem,y0,y1] <;> rfl) rfl ?_;exact ⟨A4,n4,c4,rfl,(by rw [put_kv' Hasc.out];exact z1),z0.bel,Hok4.out,z2⟩
  ·
   cases hl:S.look c.key with
   | none =>
    rw [hl] at hfind;have Hfind:=Lib.hid hfind;clear hfind
    obtain rfl:o=⟨S,1,ByteArray.empty⟩:=by rw [Hdo.out];simp only [Hkn.out];unfold kvDel;rw [hl];rfl
    clear hl;have Hkc:=Lib.hid (fun (y:World) (hb:CmdAt y w.heap.size c)=>show y.cell? ⟨w.heap.size,2,none⟩=some (.int .u8 3) by have:=hb.cells.2.2.1;rwa [Hkn.out] at this);go_enter Tryz.func85,Tryz.ntmps85
    go_upto_region 1 with fail;change Code.wp _ _ _ _ ((w.alloc (.cells (cmdCells c).toArray 56)).alloc (.cells (repCells 0 ByteArray.empty).toArray 27));generalize (w.alloc (.cells (cmdCells c).toArray 56)).alloc (.cells (repCells 0 ByteArray.empty).toArray 27)=w1 at *;obtain ⟨d0,d1,d2,d3,d4,d5,d6⟩:=HI.out.bc.cells;go_wp2_with (first
     | ((with_reducible refine (Hmay.out _).mono ?_);clear Hmay;rintro e w2 ⟨rfl,hb2⟩;have HI2:=Lib.hid (HI.out.below hb2);clear hb2;obtain ⟨-, -, -, d32,d42,d52, -⟩:=HI2.out.bc.cells;obtain ⟨e22,e32⟩:=HI2.out.r1.cells;have e42:=HI2.out.r1.thawed 0;have e52:=HI2.out.r1.thawed 1;have d22:=Hkc.out _ HI2.out.bc)
     | ((with_reducible refine (Hfind.out _ HI2.out.bel).mono ?_);clear Hfind;rintro e w3 ⟨rfl,hb3⟩;have HI3:=Lib.hid (HI2.out.below hb3);clear hb3;obtain ⟨-, -, -, d33,d43,d53, -⟩:=HI3.out.bc.cells;obtain ⟨e23,e33⟩:=HI3.out.r1.cells;have e43:=HI3.out.r1.thawed 0;have e53:=HI3.out.r1.thawed 1;have d23:=Hkc.out _ HI3.out.bc))
    obtain ⟨z0,z1,z2⟩:=ref_end HI3.out 1 ByteArray.empty (Hp.out.1.below HI3.out.bel) (Hp.out.2.below HI3.out.bel);change bodyPost _ _ _ _ _ (repW w3 (w.heap.size+1) 1 ByteArray.empty);clear e23 e33 e43 e53;generalize repW w3 (w.heap.size+1) 1 ByteArray.empty=w9 at *;obtain ⟨y0,y1⟩:=z0.rep.cells;refine bodyPost_ret (v:=.tuple #[.slice A n cp,.agg #[.int .u8 (1:Int),.string ByteArray.empty]]) (by simp [results,Tryz.results85,go_sem,y0,y1] <;> rfl) rfl ?_;exact ⟨A,n,cp,rfl,z1,z0.bel,Hok.out,z2⟩
   | some v =>
    rw [hl] at hfind;have Hfind:=Lib.hid hfind;clear hfind
    have hget:=Hf2.out v hl;have hIn:I<n:=by have h1:=(find_look Hasc.out c.key).1;rw [hl] at h1;have h2:=isAt_lt h1;rw [HIx.out,Hp.out.1.hlen] at h2;exact h2
    obtain ⟨ba,oa,rfl,hbl,_,hcv⟩:=pairs_get Hp.out.1 hIn;rw [HIx.out] at hget;rw [hget] at hcv;have Hcell:=Lib.hid (fun (y:World) (hb:Below w.heap.size w y)=>show y.cell? ⟨ba,oa+I*2+1,none⟩=some (.string v) from (hb.cell (p:=⟨ba,oa+I*2+1,none⟩) hbl).trans hcv);have hIn':(I:Int)<(n:Int):=by omega
    clear hbl hcv hget;obtain rfl:o=⟨delSh c.key S (S.look c.key),0,v⟩:=by rw [Hdo.out];simp only [Hkn.out];unfold kvDel;rw [hl];rfl
    clear hl;have Hkc:=Lib.hid (fun (y:World) (hb:CmdAt y w.heap.size c)=>show y.cell? ⟨w.heap.size,2,none⟩=some (.int .u8 3) by have:=hb.cells.2.2.1;rwa [Hkn.out] at this);go_enter Tryz.func85,Tryz.ntmps85
    go_upto_region 1 with fail;change Code.wp _ _ _ _ ((w.alloc (.cells (cmdCells c).toArray 56)).alloc (.cells (repCells 0 ByteArray.empty).toArray 27));generalize (w.alloc (.cells (cmdCells c).toArray 56)).alloc (.cells (repCells 0 ByteArray.empty).toArray 27)=w1 at *;obtain ⟨d0,d1,d2,d3,d4,d5,d6⟩:=HI.out.bc.cells;go_wp2_with (first
     | ((with_reducible refine (Hmay.out _).mono ?_);clear Hmay;rintro e w2 ⟨rfl,hb2⟩;have HI2:=Lib.hid (HI.out.below hb2);clear hb2;obtain ⟨-, -, -, d32,d42,d52, -⟩:=HI2.out.bc.cells;obtain ⟨e22,e32⟩:=HI2.out.r1.cells;have e42:=HI2.out.r1.thawed 0;have e52:=HI2.out.r1.thawed 1;have d22:=Hkc.out _ HI2.out.bc)
     | ((with_reducible refine (Hfind.out _ HI2.out.bel).mono ?_);clear Hfind;rintro e w3 ⟨rfl,hb3⟩;have HI3:=Lib.hid (HI2.out.below hb3);clear hb3;obtain ⟨-, -, -, d33,d43,d53, -⟩:=HI3.out.bc.cells;obtain ⟨e23,e33⟩:=HI3.out.r1.cells;have e43:=HI3.out.r1.thawed 0;have e53:=HI3.out.r1.thawed 1;have d23:=Hkc.out _ HI3.out.bc;have x3:=Hcell.out w3 HI3.out.bel)
     | ((with_reducible refine (Hdel.out _ HI3.out.bel).mono ?_);rintro e w4 ⟨A4,n4,c4,rfl,hp4,hb4,hok4,hty4⟩;have HI4:=Lib.hid (HI3.out.below hb4);clear hb4;have Hp4:=Lib.hid (And.intro hp4 hty4);clear hp4 hty4;have Hok4:=Lib.hid hok4;clear hok4;obtain ⟨-, -, -, d34,d44,d54, -⟩:=HI4.out.bc.cells;obtain ⟨e24,e34⟩:=HI4.out.r1.cells;have e44:=HI4.out.r1.thawed 0;have e54:=HI4.out.r1.thawed 1;have d24:=Hkc.out _ HI4.out.bc))
    obtain ⟨z0,z1,z2⟩:=ref_end HI4.out 0 v Hp4.out.1 Hp4.out.2;change bodyPost _ _ _ _ _ (repW w4 (w.heap.size+1) 0 v);clear e24 e34 e44 e54;generalize repW w4 (w.heap.size+1) 0 v=w9 at *;obtain ⟨y0,y1⟩:=z0.rep.cells;refine bodyPost_ret (v:=.tuple #[.slice A4 n4 c4,.agg #[.int .u8 (0:Int),.string v]]) (by simp [results,Tryz.results85,go_sem,y0,y1] <;> rfl) rfl ?_;exact ⟨A4,n4,c4,rfl,(by rw [del_kv' Hasc.out];exact z1),z0.bel,Hok4.out,z2⟩
  ·
   cases hl:S.look c.key with
   | none =>
    rw [hl] at hfind;have Hfind:=Lib.hid hfind;clear hfind
    obtain rfl:o=⟨S,1,ByteArray.empty⟩:=by rw [Hdo.out];simp only [Hkn.out];unfold kvCas;rw [hl];rfl
    clear hl;have Hkc:=Lib.hid (fun (y:World) (hb:CmdAt y w.heap.size c)=>show y.cell? ⟨w.heap.size,2,none⟩=some (.int .u8 4) by have:=hb.cells.2.2.1;rwa [Hkn.out] at this);go_enter Tryz.func85,Tryz.ntmps85
    go_upto_region 1 with fail;change Code.wp _ _ _ _ ((w.alloc (.cells (cmdCells c).toArray 56)).alloc (.cells (repCells 0 ByteArray.empty).toArray 27));generalize (w.alloc (.cells (cmdCells c).toArray 56)).alloc (.cells (repCells 0 ByteArray.empty).toArray 27)=w1 at *;obtain ⟨d0,d1,d2,d3,d4,d5,d6⟩:=HI.out.bc.cells;go_wp2_with (first
     | ((with_reducible refine (Hmay.out _).mono ?_);clear Hmay;rintro e w2 ⟨rfl,hb2⟩;have HI2:=Lib.hid (HI.out.below hb2);clear hb2;obtain ⟨-, -, -, d32,d42,d52, -⟩:=HI2.out.bc.cells;obtain ⟨e22,e32⟩:=HI2.out.r1.cells;have e42:=HI2.out.r1.thawed 0;have e52:=HI2.out.r1.thawed 1;have d22:=Hkc.out _ HI2.out.bc)
     | ((with_reducible refine (Hfind.out _ HI2.out.bel).mono ?_);clear Hfind;rintro e w3 ⟨rfl,hb3⟩;have HI3:=Lib.hid (HI2.out.below hb3);clear hb3;obtain ⟨-, -, -, d33,d43,d53, -⟩:=HI3.out.bc.cells;obtain ⟨e23,e33⟩:=HI3.out.r1.cells;have e43:=HI3.out.r1.thawed 0;have e53:=HI3.out.r1.thawed 1;have d23:=Hkc.out _ HI3.out.bc))
    obtain ⟨z0,z1,z2⟩:=ref_end HI3.out 1 ByteArray.empty (Hp.out.1.below HI3.out.bel) (Hp.out.2.below HI3.out.bel);change bodyPost _ _ _ _ _ (repW w3 (w.heap.size+1) 1 ByteArray.empty);clear e23 e33 e43 e53;generalize repW w3 (w.heap.size+1) 1 ByteArray.empty=w9 at *;obtain ⟨y0,y1⟩:=z0.rep.cells;refine bodyPost_ret (v:=.tuple #[.slice A n cp,.agg #[.int .u8 (1:Int),.string ByteArray.empty]]) (by simp [results,Tryz.results85,go_sem,y0,y1] <;> rfl) rfl ?_;exact ⟨A,n,cp,rfl,z1,z0.bel,Hok.out,z2⟩
   | some v =>
    rw [hl] at hfind;have Hfind:=Lib.hid hfind;clear hfind
    have hget:=Hf2.out v hl;have hIn:I<n:=by have h1:=(find_look Hasc.out c.key).1;rw [hl] at h1;have h2:=isAt_lt h1;rw [HIx.out,Hp.out.1.hlen] at h2;exact h2
    obtain ⟨ba,oa,rfl,hbl,_,hcv⟩:=pairs_get Hp.out.1 hIn;rw [HIx.out] at hget;rw [hget] at hcv;have Hcell:=Lib.hid (fun (y:World) (hb:Below w.heap.size w y)=>show y.cell? ⟨ba,oa+I*2+1,none⟩=some (.string v) from (hb.cell (p:=⟨ba,oa+I*2+1,none⟩) hbl).trans hcv);have hIn':(I:Int)<(n:Int):=by omega
    clear hbl hcv hget;by_cases hv:v=c.old
    ·
     obtain rfl:o=⟨putSh c.key c.fresh S (S.look c.key),0,ByteArray.empty⟩:=by rw [Hdo.out];simp only [Hkn.out];unfold kvCas;rw [hl];simp [hv]
     clear hl;subst hv;have Hkc:=Lib.hid (fun (y:World) (hb:CmdAt y w.heap.size c)=>show y.cell? ⟨w.heap.size,2,none⟩=some (.int .u8 4) by have:=hb.cells.2.2.1;rwa [Hkn.out] at this);go_enter Tryz.func85,Tryz.ntmps85
     go_upto_region 1 with fail;change Code.wp _ _ _ _ ((w.alloc (.cells (cmdCells c).toArray 56)).alloc (.cells (repCells 0 ByteArray.empty).toArray 27));generalize (w.alloc (.cells (cmdCells c).toArray 56)).alloc (.cells (repCells 0 ByteArray.empty).toArray 27)=w1 at *;obtain ⟨d0,d1,d2,d3,d4,d5,d6⟩:=HI.out.bc.cells;go_wp2_with (first
      | ((with_reducible refine (Hmay.out _).mono ?_);clear Hmay;rintro e w2 ⟨rfl,hb2⟩;have HI2:=Lib.hid (HI.out.below hb2);clear hb2;obtain ⟨-, -, -, d32,d42,d52, -⟩:=HI2.out.bc.cells;obtain ⟨e22,e32⟩:=HI2.out.r1.cells;have e42:=HI2.out.r1.thawed 0;have e52:=HI2.out.r1.thawed 1;have d22:=Hkc.out _ HI2.out.bc)
      | ((with_reducible refine (Hfind.out _ HI2.out.bel).mono ?_);clear Hfind;rintro e w3 ⟨rfl,hb3⟩;have HI3:=Lib.hid (HI2.out.below hb3);clear hb3;obtain ⟨-, -, -, d33,d43,d53, -⟩:=HI3.out.bc.cells;obtain ⟨e23,e33⟩:=HI3.out.r1.cells;have e43:=HI3.out.r1.thawed 0;have e53:=HI3.out.r1.thawed 1;have d23:=Hkc.out _ HI3.out.bc;have x3:=Hcell.out w3 HI3.out.bel)
      | ((with_reducible refine (Hput.out _ HI3.out.bel).mono ?_);rintro e w4 ⟨A4,n4,c4,rfl,hp4,hb4,hok4,hty4⟩;have HI4:=Lib.hid (HI3.out.below hb4);clear hb4;have Hp4:=Lib.hid (And.intro hp4 hty4);clear hp4 hty4;have Hok4:=Lib.hid hok4;clear hok4;obtain ⟨-, -, -, d34,d44,d54, -⟩:=HI4.out.bc.cells;obtain ⟨e24,e34⟩:=HI4.out.r1.cells;have e44:=HI4.out.r1.thawed 0;have e54:=HI4.out.r1.thawed 1;have d24:=Hkc.out _ HI4.out.bc))
     obtain ⟨z0,z1,z2⟩:=ref_end HI4.out 0 ByteArray.empty Hp4.out.1 Hp4.out.2;change bodyPost _ _ _ _ _ (repW w4 (w.heap.size+1) 0 ByteArray.empty);clear e24 e34 e44 e54;generalize repW w4 (w.heap.size+1) 0 ByteArray.empty=w9 at *;obtain ⟨y0,y1⟩:=z0.rep.cells;refine bodyPost_ret (v:=.tuple #[.slice A4 n4 c4,.agg #[.int .u8 (0:Int),.string ByteArray.empty]]) (by simp [results,Tryz.results85,go_sem,y0,y1] <;> rfl) rfl ?_;exact ⟨A4,n4,c4,rfl,(by rw [put_kv' Hasc.out];exact z1),z0.bel,Hok4.out,z2⟩
    ·
     obtain rfl:o=⟨S,2,v⟩:=by rw [Hdo.out];simp only [Hkn.out];unfold kvCas;rw [hl];simp [hv]
     clear hl;have hvl:(v.toList == c.old.toList)=false:=by
      rw [ByteArray.toList_eq,ByteArray.toList_eq,beq_eq_false_iff_ne];intro e;exact hv (by cases v;cases hc:c.old;rw [hc] at e;congr 1;exact Array.toList_inj.1 e)
     have Hkc:=Lib.hid (fun (y:World) (hb:CmdAt y w.heap.size c)=>show y.cell? ⟨w.heap.size,2,none⟩=some (.int .u8 4) by have:=hb.cells.2.2.1;rwa [Hkn.out] at this);go_enter Tryz.func85,Tryz.ntmps85
     go_upto_region 1 with fail;change Code.wp _ _ _ _ ((w.alloc (.cells (cmdCells c).toArray 56)).alloc (.cells (repCells 0 ByteArray.empty).toArray 27));generalize (w.alloc (.cells (cmdCells c).toArray 56)).alloc (.cells (repCells 0 ByteArray.empty).toArray 27)=w1 at *;obtain ⟨d0,d1,d2,d3,d4,d5,d6⟩:=HI.out.bc.cells;go_wp2_with (first
      | ((with_reducible refine (Hmay.out _).mono ?_);clear Hmay;rintro e w2 ⟨rfl,hb2⟩;have HI2:=Lib.hid (HI.out.below hb2);clear hb2;obtain ⟨-, -, -, d32,d42,d52, -⟩:=HI2.out.bc.cells;obtain ⟨e22,e32⟩:=HI2.out.r1.cells;have e42:=HI2.out.r1.thawed 0;have e52:=HI2.out.r1.thawed 1;have d22:=Hkc.out _ HI2.out.bc)
      | ((with_reducible refine (Hfind.out _ HI2.out.bel).mono ?_);clear Hfind;rintro e w3 ⟨rfl,hb3⟩;have HI3:=Lib.hid (HI2.out.below hb3);clear hb3;obtain ⟨-, -, -, d33,d43,d53, -⟩:=HI3.out.bc.cells;obtain ⟨e23,e33⟩:=HI3.out.r1.cells;have e43:=HI3.out.r1.thawed 0;have e53:=HI3.out.r1.thawed 1;have d23:=Hkc.out _ HI3.out.bc;have x3:=Hcell.out w3 HI3.out.bel))
     obtain ⟨z0,z1,z2⟩:=ref_end HI3.out 2 v (Hp.out.1.below HI3.out.bel) (Hp.out.2.below HI3.out.bel);change bodyPost _ _ _ _ _ (repW w3 (w.heap.size+1) 2 v);clear e23 e33 e43 e53;generalize repW w3 (w.heap.size+1) 2 v=w9 at *;obtain ⟨y0,y1⟩:=z0.rep.cells;refine bodyPost_ret (v:=.tuple #[.slice (some ⟨ba,oa,none⟩) n cp,.agg #[.int .u8 (2:Int),.string v]]) (by simp [results,Tryz.results85,go_sem,y0,y1] <;> rfl) rfl ?_;exact ⟨(some ⟨ba,oa,none⟩),n,cp,rfl,z1,z0.bel,Hok.out,z2⟩
  ·
   obtain rfl:o=⟨S,2,ByteArray.empty⟩:=by rw [Hdo.out];simp only [Hkn.out];rfl
   clear hfind;have Hkc:=Lib.hid (fun (y:World) (hb:CmdAt y w.heap.size c)=>show y.cell? ⟨w.heap.size,2,none⟩=some (.int .u8 5) by have:=hb.cells.2.2.1;rwa [Hkn.out] at this);go_enter Tryz.func85,Tryz.ntmps85
   go_upto_region 1 with fail;change Code.wp _ _ _ _ ((w.alloc (.cells (cmdCells c).toArray 56)).alloc (.cells (repCells 0 ByteArray.empty).toArray 27));generalize (w.alloc (.cells (cmdCells c).toArray 56)).alloc (.cells (repCells 0 ByteArray.empty).toArray 27)=w1 at *;obtain ⟨d0,d1,d2,d3,d4,d5,d6⟩:=HI.out.bc.cells;go_wp2_with (first
    | ((with_reducible refine (Hmay.out _).mono ?_);clear Hmay;rintro e w2 ⟨rfl,hb2⟩;have HI2:=Lib.hid (HI.out.below hb2);clear hb2;obtain ⟨-, -, -, d32,d42,d52, -⟩:=HI2.out.bc.cells;obtain ⟨e22,e32⟩:=HI2.out.r1.cells;have e42:=HI2.out.r1.thawed 0;have e52:=HI2.out.r1.thawed 1;have d22:=Hkc.out _ HI2.out.bc))
   obtain ⟨z0,z1,z2⟩:=ref_end HI2.out 2 ByteArray.empty (Hp.out.1.below HI2.out.bel) (Hp.out.2.below HI2.out.bel);change bodyPost _ _ _ _ _ (repW w2 (w.heap.size+1) 2 ByteArray.empty);clear e22 e32 e42 e52;generalize repW w2 (w.heap.size+1) 2 ByteArray.empty=w9 at *;obtain ⟨y0,y1⟩:=z0.rep.cells;refine bodyPost_ret (v:=.tuple #[.slice A n cp,.agg #[.int .u8 (2:Int),.string ByteArray.empty]]) (by simp [results,Tryz.results85,go_sem,y0,y1] <;> rfl) rfl ?_;exact ⟨A,n,cp,rfl,z1,z0.bel,Hok.out,z2⟩
structure LastFit (x:LastV):Prop where
 code:x.code≤3
 text:x.text.size≤64
 zero:x.seq.toNat=0→x=lastNone
structure MacFit (M:MacV):Prop where
 all:M.all<128
 mem:M.mem<128
 tab:∀ n,LastFit (M.tab.at_ n)
 kv:KvInv M.sh
 key:∀ p ∈ M.sh.kv,1≤p.1.size∧p.1.size≤16
theorem lastFit_none:LastFit lastNone:=⟨by decide,by decide,fun _=>rfl⟩
theorem at_none (n:Nat):tabNone.at_ n=lastNone:=by
 unfold TabV.at_ tabNone;split
 ·
  rfl
 ·
  split
  ·
   rfl
  ·
   split <;> rfl
theorem both_small (x y:Nat):bothS x y<128:=by
 have:bothS x y≤127:=Nat.and_le_right;omega
theorem macFit_none:MacFit macNone:=⟨by decide,by decide,fun n=>by show LastFit (tabNone.at_ n);rw [at_none];exact lastFit_none,KvInv.nil,fun p hp=>by simp [macNone,Sh.kv] at hp⟩
theorem macFit_new (al fi:Nat):MacFit (newM al fi):=by
 unfold newM;split
 ·
  exact ⟨both_small _ _,both_small _ _,fun n=>by show LastFit (tabNone.at_ n);rw [at_none];exact lastFit_none,KvInv.nil,fun p hp=>by simp [Sh.kv] at hp⟩
 ·
  exact macFit_none
theorem may_key1 {c:CmdV} (h:mayC c=true) (hk:c.kind=2∨c.kind=4):1≤c.key.size:=by
 unfold mayC at h;simp only [Bool.and_eq_true,decide_eq_true_eq] at h;have h1:=h.1.1.1.1.2;rcases hk with e | e <;> (rw [e] at h1;simpa [hasOf,mostOf] using h1)
theorem put_mem {S:Sh} (h:Asc S.kv) {k v:ByteArray} {p:ByteArray × ByteArray} (hp:p ∈ (putSh k v S (S.look k)).kv):p=(k,v)∨p ∈ S.kv:=by
 rw [put_kv' h] at hp;exact ins_mem hp
theorem del_mem {S:Sh} (h:Asc S.kv) {k:ByteArray} {p:ByteArray × ByteArray} (hp:p ∈ (delSh k S (S.look k)).kv):p ∈ S.kv:=by
 rw [del_kv' h] at hp;exact (rm_mem hp).1
theorem kvDo_mem {S:Sh} (h:Asc S.kv) (c:CmdV) {p:ByteArray × ByteArray} (hp:p ∈ (kvDo S c).sh.kv):p ∈ S.kv∨(p=(c.key,c.fresh)∧1≤c.key.size∧c.key.size≤16):=by
 unfold kvDo at hp;by_cases hm:mayC c=true
 ·
  rw [if_pos hm] at hp;have hk16:=may_key hm;by_cases h1:c.kind=1
  ·
   rw [if_pos h1] at hp;unfold kvGet at hp;cases hl:S.look c.key with
   | none=>rw [hl] at hp;exact .inl hp
   | some v=>rw [hl] at hp;exact .inl hp
  rw [if_neg h1] at hp;by_cases h2:c.kind=2
  ·
   rw [if_pos h2] at hp;have hk1:=may_key1 hm (.inl h2);unfold kvPut at hp;have hq:=@put_mem S h c.key c.fresh p;cases hl:S.look c.key with
   | none =>
    rw [hl] at hp hq;simp only at hp;split at hp
    ·
     exact .inl hp
    ·
     exact (hq hp).elim (fun e=>.inr ⟨e,hk1,hk16⟩) .inl
   | some v =>
    rw [hl] at hp hq;exact (hq hp).elim (fun e=>.inr ⟨e,hk1,hk16⟩) .inl
  rw [if_neg h2] at hp;by_cases h3:c.kind=3
  ·
   rw [if_pos h3] at hp;unfold kvDel at hp;have hq:=@del_mem S h c.key p;cases hl:S.look c.key with
   | none=>rw [hl] at hp;exact .inl hp
   | some v=>rw [hl] at hp hq;exact .inl (hq hp)
  rw [if_neg h3] at hp;by_cases h4:c.kind=4
  ·
   rw [if_pos h4] at hp;have hk1:=may_key1 hm (.inr h4);unfold kvCas at hp;have hq:=@put_mem S h c.key c.fresh p;cases hl:S.look c.key with
   | none=>rw [hl] at hp;exact .inl hp
   | some v =>
    rw [hl] at hp hq;simp only at hp;split at hp
    ·
     exact (hq hp).elim (fun e=>.inr ⟨e,hk1,hk16⟩) .inl
    ·
     exact .inl hp
  rw [if_neg h4] at hp;exact .inl hp
 ·
  rw [if_neg hm] at hp;exact .inl hp
theorem kvDo_says {S:Sh} (h:KvInv S) (c:CmdV):(kvDo S c).code≤2∧(kvDo S c).text.size≤64:=by
 have hs:=(kv_says h c).2;have he:ByteArray.empty.size≤64:=by decide
 cases hs with
 | miss _ _ h1 h2=>rw [h1,h2];exact ⟨by decide,he⟩
 | no _ h1 h2=>rw [h1];exact ⟨by decide,h2⟩
 | got _ h1 h2 h3=>rw [h2];exact ⟨by decide,h.look h3⟩
 | put _ h1 h2 h3=>rw [h1,h2];exact ⟨by decide,he⟩
 | del _ h1 h2 h3=>rw [h1];exact ⟨by decide,h.look h2⟩
 | cas _ h1 h2 h3 h4=>rw [h1,h2];exact ⟨by decide,he⟩
theorem macFresh_fit {M:MacV} (h:MacFit M) (c:CmdV):MacFit (macFresh M c).1∧(macFresh M c).2.1≤3∧(macFresh M c).2.2.size≤64:=by
 have he:ByteArray.empty.size≤64:=by decide
 unfold macFresh;split
 ·
  split
  ·
   exact ⟨⟨h.all,both_small _ _,h.tab,h.kv,h.key⟩,Nat.zero_le _,he⟩
  ·
   exact ⟨h,(show 2≤3 by omega),he⟩
 ·
  obtain ⟨h1,h2⟩:=kvDo_says h.kv c;exact ⟨⟨h.all,h.mem,h.tab,(kv_says h.kv c).1,fun p hp=>(kvDo_mem h.kv.asc c hp).elim (h.key p) (fun e=>by rw [e.1];exact e.2)⟩,Nat.le_succ_of_le h1,h2⟩
theorem TabV.put_any {t:TabV} {n:Nat} (x:LastV) (m:Nat):(t.put n x).at_ m=x∨(t.put n x).at_ m=t.at_ m:=by
 unfold TabV.put TabV.at_;by_cases h0:n=0 <;> by_cases h1:n=1 <;> by_cases h2:n=2 <;> by_cases g0:m=0 <;> by_cases g1:m=1 <;> by_cases g2:m=2 <;> simp [h0,h1,h2,g0,g1,g2] <;> omega
theorem macDo_fit {M:MacV} (h:MacFit M) (c:CmdV):MacFit (macDo M c).m:=by
 unfold macDo;by_cases hm:mayC c=true
 ·
  rw [if_pos hm];split
  ·
   obtain ⟨h1,h2,h3⟩:=macFresh_fit h c;have hsq:c.seq.toNat≠0:=by
    unfold mayC at hm;simp only [Bool.and_eq_true,decide_eq_true_eq] at hm;exact hm.1.1.1.1.1.2
   refine ⟨h1.all,h1.mem,fun n=>?_,h1.kv,h1.key⟩;show LastFit ((M.tab.put c.client.toNat ⟨c.seq,(macFresh M c).2.1,(macFresh M c).2.2⟩).at_ n);rcases TabV.put_any (t:=M.tab) (n:=c.client.toNat) ⟨c.seq,(macFresh M c).2.1,(macFresh M c).2.2⟩ n with e | e
   ·
    rw [e];exact ⟨h2,h3,fun e0=>absurd e0 hsq⟩
   ·
    rw [e];exact h.tab n
  ·
   exact h
 ·
  rw [if_neg hm];exact h
theorem MacFit.ok {M:MacV} (h:MacFit M):MacOk M:=⟨by have:=h.all;omega,h.kv⟩
theorem str_app (l:List UInt8) (s:ByteArray):(⟨l.toArray⟩:ByteArray)++s=⟨(l++s.data.toList).toArray⟩:=by
 apply ByteArray.ext
 rw [ByteArray.data_append];apply Array.ext'
 simp
def lastB (x:LastV):List UInt8:=numL x.seq.toNat++(if x.seq.toNat=0 then [] else UInt8.ofNat x.code::strL x.text)
def tabB (t:TabV):Nat→List UInt8
 | 0=>[]
 | n+1=>tabB t n++lastB (t.at_ n)
structure LastOk (x:LastV):Prop where
 code:x.code<256
 text:x.text.size≤4096
structure TabOk (t:TabV):Prop where
 a:LastOk t.a
 b:LastOk t.b
 c:LastOk t.c
 d:LastOk t.d
theorem TabOk.at_ {t:TabV} (h:TabOk t) (n:Nat):LastOk (t.at_ n):=by
 unfold TabV.at_;repeat' split
 ·
  exact h.a
 ·
  exact h.b
 ·
  exact h.c
 ·
  exact h.d
theorem lastB_len {x:LastV} (h:LastOk x):(lastB x).length≤4200:=by
 have h1:=(numL_len x.seq.toNat).1;have h2:=strL_len x.text;have h3:=h.text;unfold lastB;rw [List.length_append];split
 ·
  simp;omega
 ·
  simp;omega
theorem tabB_len {t:TabV} (h:TabOk t):∀ n,(tabB t n).length≤4200*n
 | 0=>by simp [tabB]
 | n+1=>by
  have:=lastB_len (h.at_ n);have:=tabB_len h n;rw [tabB,List.length_append];omega
theorem tab_index (t:TabV) (i:Nat) (hi:i<4) (w:World):(Instr.index 31 (.agg (tabCells t).toArray) (.int .i64 (i:Int))).run Tryz.prog w=.ok (.agg (lastCells (t.at_ i)).toArray) w:=by
 obtain ⟨i0,h0,hz⟩:∃ i,Tryz.prog.info? 29=some i∧i.size=3:=by
  have h:=infoLast;cases hc:Tryz.prog.info? 29 with
  | none=>rw [hc] at h;cases h
  | some i=>rw [hc] at h;exact ⟨i,rfl,by simpa using h⟩
 have hp:(part 29 (tabCells t).toArray (i*3)).run Tryz.prog w=.ok (.agg (lastCells (t.at_ i)).toArray) w:=by
  have e:List.take 3 (List.drop (i*3) (tabCells t))=lastCells (t.at_ i):=by
   have h:i=0∨i=1∨i=2∨i=3:=by omega
   rcases h with rfl | rfl | rfl | rfl <;> rfl
  simp [part,Sem.run_bind,typeInfo,sizeOf,h0,hz,e]
 have hi':(i:Int)<4:=by omega
 unfold Instr.index;simp [asIntOf,Sem.run_bind,run_underlying Tryz.underlying31,sizeOf,typeInfo,h0,hz,hp];exact fun h=>absurd h (by omega)
def LastCells (g:Nat) (x:LastV) (y:World):Prop :=
 y.cell? ⟨g,0,none⟩=some (.int .u32 (x.seq.toNat:Int))∧y.cell? ⟨g,1,none⟩=some (.int .u8 (x.code:Int))∧y.cell? ⟨g,2,none⟩=some (.string x.text)
theorem LastCells.new (w:World) (x:LastV):LastCells w.heap.size x (w.alloc (.cells (lastCells x).toArray 29)):=by
 have h:=heap_alloc_new w (.cells (lastCells x).toArray 29);exact ⟨cell_of_row _ _ _ _ _ _ h,cell_of_row _ _ _ _ _ _ h,cell_of_row _ _ _ _ _ _ h⟩
theorem LastCells.same {g:Nat} {x:LastV} {y y':World} (h:LastCells g x y) (e:y'.heap[g]?=y.heap[g]?):LastCells g x y':=by
 obtain ⟨h1,h2,h3⟩:=h;exact ⟨(World.cell?_of_block (a:=⟨g,0,none⟩) e).trans h1,(World.cell?_of_block (a:=⟨g,1,none⟩) e).trans h2,(World.cell?_of_block (a:=⟨g,2,none⟩) e).trans h3⟩
set_option maxHeartbeats 8000000 in
theorem tput_any (t:TabV) (ht:TabOk t) (v:Value) (l:List UInt8) (hl:l.length≤1099500000000) (w:World) (h:ReadB w v l) :
  Calls Tryz.prog 51 #[.agg (tabCells t).toArray,v] w fun e w'=>∃ v',e=.returned v'∧OwnB w' w.heap.size 5 v' (l++tabB t 4)∧Below w.heap.size w w':=by
 obtain ⟨i0,hi0,hz0,hs0,hb0⟩:=info_parts info8;have hT0:TabAt (w.alloc (.cells (tabCells t).toArray 31)) w.heap.size t:=heap_alloc_new w _;have hb1:=(Below.refl w.heap.size w).alloc (Nat.le_refl _) (.cells (tabCells t).toArray 31);have hr1:=h.below hb1;have hidx:=fun (i:Nat) (hi:i<4) (y:World)=>tab_index t i hi y
 obtain ⟨V,hV⟩:∃ V:Value,.agg (tabCells t).toArray=V:=⟨_,rfl⟩;rw [hV] at hidx;rw [tab_eta] at hV;have Hidx:=Lib.hid hidx;clear hidx
 go_enter Tryz.func51,Tryz.ntmps51
 go_upto_region 1 with fail;change Code.wp _ _ _ _ (w.alloc (.cells (tabCells t).toArray 31));generalize w.alloc (.cells (tabCells t).toArray 31)=w1 at *;obtain ⟨⟨a0,a1,a2⟩,⟨b0,b1,b2⟩,⟨c0,c1,c2⟩,⟨d0,d1,d2⟩⟩:=hT0.cells;go_wp2_with fail;clear a0 a1 a2 b0 b1 b2 c0 c1 c2 d0 d1 d2 hT0 hV h;have Hb1:=Lib.hid hb1;clear hb1
 have Hr1:=Lib.hid hr1;clear hr1
 go_loopw [1,8] (fun s1 s8 wr=>∃ (i:Nat),i≤4∧s8=.int .i64 (i:Int)∧ReadB wr s1 (l++tabB t i)∧(1≤i→OwnB wr w.heap.size 5 s1 (l++tabB t i))∧Below w.heap.size w wr) (fun _ s8 _=>4 - (intOf s8).toNat)
 case atStart=>exact ⟨0,by omega,rfl,by simpa [tabB] using Hr1.out,fun h=>by omega,Hb1.out⟩
 case round =>
  clear Hr1 Hb1;obtain ⟨i,hi,rfl,hrd,hown,hbel⟩:=hrel;have hlen:=tabB_len ht i;have Hbel:=Lib.hid hbel;clear hbel
  by_cases hi4:i<4
  ·
   have hi4':(i:Int)<4:=by omega
   have hix:=Hidx.out i hi4;have hok:=ht.at_ i;have hsucc:tabB t (i+1)=tabB t i++lastB (t.at_ i):=rfl;have Hsucc:=Lib.hid hsucc;clear hsucc
   obtain ⟨x,hx⟩:∃ x,t.at_ i=x:=⟨_,rfl⟩;rw [hx] at hix hok Hsucc;clear hx hown;have hcode:=hok.code;have htext:=hok.text;have Hok:=Lib.hid hok;clear hok
   have hixA:∀ y,(Instr.index 31 V (.int .i64 (i:Int))).run Tryz.prog y=.ok (.agg #[.int .u32 (x.seq.toNat:Int),.int .u8 (x.code:Int),.string x.text]) y:=hix;clear hix;have Hrd:=Lib.hid hrd;clear hrd
   have hL:=LastCells.new wr x;have hba:=(Below.refl wr.heap.size wr).alloc (Nat.le_refl _) (.cells (lastCells x).toArray 29);have hisu:=tsucc (n:=i) (by omega);go_upto_region 4 with fail;change Code.wp _ _ _ _ (wr.alloc (.cells (lastCells x).toArray 29));have HLt:=Lib.hid (show wr.heap.size<(wr.alloc (.cells (lastCells x).toArray 29)).heap.size by simp);generalize wr.alloc (.cells (lastCells x).toArray 29)=w2 at *;have HL:=Lib.hid hL;obtain ⟨l0,l1,l2⟩:=hL;have Hba:=Lib.hid hba;clear hba
   have hsq:(x.seq.toNat:Int)<4294967296:=by have:=x.seq.isLt;omega
   have hnum:=num_any _ (l++tabB t i) x.seq.toNat (by have:=x.seq.isLt;omega) (by rw [List.length_append];omega) w2 (Hrd.out.below Hba.out);have Hnum:=Lib.hid hnum;clear hnum
   clear hixA;go_upto_region 5 with ((with_reducible refine Hnum.out.mono ?_);rintro e w3 ⟨v3,rfl,ho3,hb3⟩;have Ho3:=Lib.hid ho3;clear ho3;have Hb3:=Lib.hid hb3;clear hb3)
   clear l0 l1 l2;have HL3:=Lib.hid (HL.out.same (Hb3.out.block _ HLt.out));have Hb03:=Lib.hid (Hbel.out.trans ((Hba.out.trans (Hb3.out.mono (Nat.le_of_lt HLt.out))).mono Hbel.out.size));have HLw:=Lib.hid (show w.heap.size≤wr.heap.size from Hbel.out.size);obtain ⟨l0,l1,l2⟩:=HL3.out;generalize hn:x.seq.toNat=n at l0 hsq Ho3 ⊢;have Hn:=Lib.hid hn;clear hn
   by_cases hz:n=0
   ·
    have hz':(n:Int)=0:=by omega
    have hlast:lastB x=numL n:=by unfold lastB;rw [Hn.out,if_pos hz,List.append_nil]
    have Hlast:=Lib.hid hlast;clear hlast
    go_wp2_with fail;go_roundw
    case rel =>
     have hown:OwnB w3 w.heap.size 5 v3 (l++tabB t (i+1)):=by
      rw [Hsucc.out,Hlast.out, ← List.append_assoc];exact Ho3.out.mono (by have:=HLt.out;have:=HLw.out;omega)
     exact ⟨i+1,by omega,rfl,hown.read,fun _=>hown,Hb03.out⟩
    case measure=>simp [intOf];omega
   ·
    have hz':((n:Int) != 0)=true:=by rw [bne_iff_ne];omega
    have hlast:lastB x=numL n++([UInt8.ofNat x.code]++strL x.text):=by unfold lastB;rw [Hn.out,if_neg hz];rfl
    have Hnl:=Lib.hid (numL_len n).1;have hcode8:((UInt8.ofNat x.code).toNat:Int)=(x.code:Int):=by simp;omega
    have Hcode8:=Lib.hid hcode8;clear hcode8
    have Hlast:=Lib.hid hlast;clear hlast
    have Hz:=Lib.hid hz;clear hz
    go_upto_region 6 with fail;clear l0 l1 l2;obtain ⟨q,hq⟩:∃ q,l++tabB t i++numL n=q:=⟨_,rfl⟩;have hql:q.length≤1099510000000:=by have hnl:=Hnl.out;rw [← hq,List.length_append,List.length_append];omega
    rw [hq] at Ho3;have Hq:=Lib.hid hq;clear hq
    have hnew:=LastCells.new w3.drew x;clear hnew;refine (wpIn_wide (n:=1)).1 ?_;refine RegK.wpIn_region_can (F:=Fence.wide) (LastCells wr.heap.size x) [(0,0),(1,0),(2,0),(3,0),(6,0),(7,0),(8,0),(4,1),(5,1),(9,1),(10,0)] (by kernel_rfl) (by kernel_rfl) (by kernel_rfl) (fun _ _ d _ _ h=>by cases d <;> exact h) HL3.out ?_;dsimp only [RegK.pick,List.getElem?_cons_zero,List.getElem?_cons_succ];change RegK.Can _ _ _ _ _ _ _ _ w3.drew;have Hd:=Lib.hid (show LastCells wr.heap.size x w3.drew from HL3.out);have Hod:=Lib.hid (show OwnB w3.drew w2.heap.size 5 v3 q from Ho3.out);have Hbd:=Lib.hid (show Below w.heap.size w w3.drew from ⟨Hb03.out.os,Hb03.out.tape,Hb03.out.output,Hb03.out.size,Hb03.out.block⟩);have Hld:=Lib.hid (show w2.heap.size≤w3.drew.heap.size from Hb3.out.size);generalize w3.drew=w4 at *;clear Ho3 HL3 Hb03 Hb3;iterate 3 (refine RegK.can_reads ?_;intro K hK;go_simp;(first | (refine ⟨_,fun _ _=>rfl,hK _ ?_⟩) | (refine hK _ ?_));clear hK K)
    refine RegK.can_reads ?_;intro K hK;go_simp;refine ⟨.int .u8 (x.code:Int),fun y hy=>?_,hK _ ?_⟩
    ·
     have f0:=hy.2.1;go_simp
    clear hK K;iterate 2 (refine RegK.can_reads ?_;intro K hK;go_simp;(first | (refine ⟨_,fun _ _=>rfl,hK _ ?_⟩) | (refine hK _ ?_));clear hK K)
    refine RegK.can_reads ?_;intro K hK;go_simp;refine ⟨.string x.text,fun y hy=>?_,hK _ ?_⟩
    ·
     have f0:=hy.2.2;go_simp
    clear hK K;-- the slice of one byte
    refine RegK.can_turns (fun _=>trivial) ?_;intro K K0 hK hK0;go_simp;have hb5:=(Below.refl w4.heap.size w4).alloc (Nat.le_refl _) (.cells #[.int .u8 (x.code:Int)] 5);have hne:wr.heap.size<w4.heap.size:=by have:=Hld.out;have:=HLt.out;omega
    have hL5:LastCells wr.heap.size x (w4.alloc (.cells #[.int .u8 (x.code:Int)] 5)):=Hd.out.same (hb5.block _ hne);have hone:ReadB (w4.alloc (.cells #[.int .u8 (x.code:Int)] 5)) (.slice (some ⟨w4.heap.size,0,none⟩) 1 1) [UInt8.ofNat x.code]:=by
     have h:=ReadB.one w4 (UInt8.ofNat x.code) 5;rwa [Hcode8.out] at h
    have ho5:=Hod.out.below hb5;refine hK _ _ hL5 ?_;clear hK K hK0 K0;have Hb5:=Lib.hid (Hbd.out.trans (hb5.mono (by have:=Hld.out;have:=HLt.out;have:=HLw.out;omega)));have Hone:=Lib.hid hone;clear hone
    have Ho5:=Lib.hid ho5;clear ho5
    have HL5:=Lib.hid hL5;clear hL5
    have Hl5:=Lib.hid (show w2.heap.size≤(w4.alloc (.cells #[.int .u8 (x.code:Int)] 5)).heap.size by simp;have:=Hld.out;omega);generalize hw5:w4.alloc (.cells #[.int .u8 (x.code:Int)] 5)=w5 at *
    generalize w4.heap.size = g5 at *;clear hb5 hw5 Hd Hod Hbd Hld hne;-- append
    refine RegK.can_turns (fun _=>trivial) ?_;intro K K0 hK hK0;rw [if_pos (by simp [Region.wanted])];refine RegK.op_wide rfl ?_;refine wp_append_read _ _ 44 rfl w2.heap.size 5 i0 (.int .u8 0) Tryz.underlying44 hi0 hz0 hs0 hb0 rfl _ _ _ rfl Ho5.out _ _ rfl Hone.out (by show q.length+1≤_;omega) Hl5.out ?_;intro v6 w6 ho6 hg6;have hv3:∀ k,v3.ownBlock=some k→w2.heap.size≤k:=fun k hk=>(World.ownsRow.lt Ho5.out k hk).1
    have hL6:LastCells wr.heap.size x w6:=HL5.out.same (hg6.block _ (Nat.lt_of_lt_of_le HLt.out Hl5.out) (fun e=>by have:=hv3 _ e.symm;have:=HLt.out;omega));refine hK _ _ hL6 ?_;clear hK K hK0 K0;have Ho6:=Lib.hid (OwnB.of (l:=q) (k:=[UInt8.ofNat x.code]) ho6 rfl rfl);clear ho6
    have Hb6 := Lib.hid (below_grown hg6 Hb5.out (by have := Hl5.out; have := HLt.out; have := HLw.out; omega) (fun k hk => by have := hv3 k hk; have := HLt.out; have := HLw.out; omega));have Hl6 := Lib.hid (Nat.le_trans Hl5.out hg6.size);have HL6 := Lib.hid hL6;clear hg6 hv3 HL5 Hb5 Ho5 Hone Hl5 hL6;-- the text
    refine RegK.can_turns (fun _=>trivial) ?_;intro K K0 hK hK0;go_simp;refine ⟨trivial,?_⟩;refine (callsIn_wide.2 (str_any v6 _ x.text (by rw [List.length_append];show q.length+1+x.text.size≤_;omega) w6 Ho6.out.read)).mono ?_;rintro e w7 ⟨v7,rfl,ho7,hb7⟩;refine hK _ _ (HL6.out.same (hb7.block _ (Nat.lt_of_lt_of_le HLt.out Hl6.out))) ?_;clear hK K hK0 K0;have Ho7:=Lib.hid ho7;clear ho7
    have Hb7:=Lib.hid (Hb6.out.trans (hb7.mono (by have:=Hl6.out;have:=HLt.out;have:=HLw.out;omega)));refine RegK.can_reads ?_;intro K hK;go_simp;refine ⟨_,fun _ _=>rfl,hK _ ?_⟩;clear hK K;refine RegK.can_nil ?_;go_wp2_with fail;have hown:OwnB w7 w.heap.size 5 v7 (l++tabB t (i+1)):=by
     have e:l++tabB t (i+1)=q++[UInt8.ofNat x.code]++strL x.text:=by
      rw [Hsucc.out,Hlast.out, ← Hq.out];simp [List.append_assoc]
     rw [e];exact Ho7.out.mono (by have:=Hl6.out;have:=HLt.out;have:=HLw.out;omega)
    refine ⟨⟨i+1,by omega,rfl,hown.read,fun _=>hown,Hb7.out⟩,?_⟩;simp [intOf];omega
  ·
   have hi4' : ¬ (i:Int)<4:=by omega
   have hi44:i=4:=by omega
   go_wp2_with fail;go_ret;subst hi44;exact ⟨_,rfl,hown (by omega),Hbel.out⟩
end Go.Proofs.YtbckjgageofldaaGreat
