/- Machines: Do. Conditions: the sets are bytes; few enough keys that their number is an int. -/
import Derived.Deep.DeepCutAuto
import Derived.Test.YtbckjgageofldaaGreatZLearnPlays7
import Derived.Test.YtbckjgageofldaaGreatZLearnPlays2
import Derived.Test.YtbckjgageofldaaGreatZLearnPlays6
import Derived.ChangeKeysEq
set_option maxRecDepth 100000
namespace Go.Proofs.YtbckjgageofldaaGreat
open Go.RowKit
def macCells (M:MacV) (P:Option Addr):List Value:=[.int .u8 (M.all:Int),.int .u8 (M.mem:Int)]++tabCells M.tab++[.pointer P]
def MacAt (w:World) (g:Nat) (M:MacV) (P:Option Addr):Prop:=w.heap[g]?=some (.cells (macCells M P).toArray 38 (0,0))
def macV (M:MacV) (P:Option Addr):Value:=.agg (macCells M P).toArray
theorem mac_eta (M:MacV) (P:Option Addr):(macCells M P).toArray=#[.int .u8 (M.all:Int),.int .u8 (M.mem:Int),.int .u32 (M.tab.a.seq.toNat:Int),.int .u8 (M.tab.a.code:Int),.string M.tab.a.text,.int .u32 (M.tab.b.seq.toNat:Int),.int .u8 (M.tab.b.code:Int),.string M.tab.b.text,.int .u32 (M.tab.c.seq.toNat:Int),.int .u8 (M.tab.c.code:Int),.string M.tab.c.text,.int .u32 (M.tab.d.seq.toNat:Int),.int .u8 (M.tab.d.code:Int),.string M.tab.d.text,.pointer P]:=rfl
section
variable {w w' : World} {g : Nat} {M : MacV} {P : Option Addr}
theorem MacAt.lt (h:MacAt w g M P):g<w.heap.size:=(Array.getElem?_eq_some_iff.1 h).1
theorem MacAt.below (h:MacAt w g M P) (hb:Below w.heap.size w w'):MacAt w' g M P:=(hb.block g h.lt).trans h
theorem MacAt.thawed (h:MacAt w g M P) (j:Nat):w.frozen? ⟨g,j,none⟩=false:=by
 unfold MacAt at h;simp [World.frozen?,h]
theorem MacAt.other {g' i:Nat} {x:Value} (h:MacAt w g M P) (hne:g≠g'):MacAt (w.setCell ⟨g',i,none⟩ x) g M P:=(Below.heap_setCell _ _ _ _ (by exact hne)).trans h
theorem MacAt.cells (h:MacAt w g M P):(w.cell? ⟨g,0,none⟩=some (.int .u8 (M.all:Int))∧w.cell? ⟨g,1,none⟩=some (.int .u8 (M.mem:Int))∧w.cell? ⟨g,14,none⟩=some (.pointer P))∧(w.cell? ⟨g,2,none⟩=some (.int .u32 (M.tab.a.seq.toNat:Int))∧w.cell? ⟨g,3,none⟩=some (.int .u8 (M.tab.a.code:Int))∧w.cell? ⟨g,4,none⟩=some (.string M.tab.a.text))∧(w.cell? ⟨g,5,none⟩=some (.int .u32 (M.tab.b.seq.toNat:Int))∧w.cell? ⟨g,6,none⟩=some (.int .u8 (M.tab.b.code:Int))∧w.cell? ⟨g,7,none⟩=some (.string M.tab.b.text))∧(w.cell? ⟨g,8,none⟩=some (.int .u32 (M.tab.c.seq.toNat:Int))∧w.cell? ⟨g,9,none⟩=some (.int .u8 (M.tab.c.code:Int))∧w.cell? ⟨g,10,none⟩=some (.string M.tab.c.text))∧(w.cell? ⟨g,11,none⟩=some (.int .u32 (M.tab.d.seq.toNat:Int))∧w.cell? ⟨g,12,none⟩=some (.int .u8 (M.tab.d.code:Int))∧w.cell? ⟨g,13,none⟩=some (.string M.tab.d.text)) :=
 ⟨⟨cell_of_row _ _ _ _ _ _ h,cell_of_row _ _ _ _ _ _ h,cell_of_row _ _ _ _ _ _ h⟩,⟨cell_of_row _ _ _ _ _ _ h,cell_of_row _ _ _ _ _ _ h,cell_of_row _ _ _ _ _ _ h⟩,⟨cell_of_row _ _ _ _ _ _ h,cell_of_row _ _ _ _ _ _ h,cell_of_row _ _ _ _ _ _ h⟩,⟨cell_of_row _ _ _ _ _ _ h,cell_of_row _ _ _ _ _ _ h,cell_of_row _ _ _ _ _ _ h⟩,⟨cell_of_row _ _ _ _ _ _ h,cell_of_row _ _ _ _ _ _ h,cell_of_row _ _ _ _ _ _ h⟩⟩
end
theorem macSt_at {y:World} {g:Nat} {M0:MacV} {P0:Option Addr} (h:MacAt y g M0 P0) (M:MacV) (P:Option Addr):MacAt (rowSt y g 0 (macCells M P)) g M P :=
 rowSt_row (macCells M P) [] (macCells M0 P0) y h rfl
def macNone:MacV:=⟨0,0,tabNone,.nil⟩
structure MacI (w0:World) (M:MacV) (P:Option Addr) (c:CmdV) (w:World):Prop where
 bm:MacAt w w0.heap.size M P
 bc:CmdAt w (w0.heap.size+1) c
 r0:MacAt w (w0.heap.size+2) macNone none
 r1:RepAt w (w0.heap.size+3) 0 ByteArray.empty
 bel:Below w0.heap.size w0 w
theorem MacI.below {w0 w w':World} {M:MacV} {P:Option Addr} {c:CmdV} (h:MacI w0 M P c w) (hb:Below w.heap.size w w'):MacI w0 M P c w' :=
 ⟨h.bm.below hb,h.bc.below hb,h.r0.below hb,h.r1.below hb,h.bel.trans (hb.mono h.bel.size)⟩
theorem macI_start (w:World) (M:MacV) (P:Option Addr) (c:CmdV):MacI w M P c ((((w.alloc (.cells (macCells M P).toArray 38)).alloc (.cells (cmdCells c).toArray 56)).alloc (.cells (macCells macNone none).toArray 38)).alloc (.cells (repCells 0 ByteArray.empty).toArray 27)):=by
 have b1:=(Below.refl w.heap.size w).alloc (Nat.le_refl _) (.cells (macCells M P).toArray 38);have b2:=b1.alloc b1.size (.cells (cmdCells c).toArray 56);have b3:=b2.alloc b2.size (.cells (macCells macNone none).toArray 38);have b4:=b3.alloc b3.size (.cells (repCells 0 ByteArray.empty).toArray 27);have s1:(w.alloc (.cells (macCells M P).toArray 38)).heap.size=w.heap.size+1:=by simp
 have s2:((w.alloc (.cells (macCells M P).toArray 38)).alloc (.cells (cmdCells c).toArray 56)).heap.size=w.heap.size+2:=by simp
 have s3:(((w.alloc (.cells (macCells M P).toArray 38)).alloc (.cells (cmdCells c).toArray 56)).alloc (.cells (macCells macNone none).toArray 38)).heap.size=w.heap.size+3:=by simp
 have v0:MacAt (w.alloc (.cells (macCells M P).toArray 38)) w.heap.size M P:=heap_alloc_new _ _;have v1:=CmdAt.new (w.alloc (.cells (macCells M P).toArray 38)) c;have v2:MacAt (((w.alloc (.cells (macCells M P).toArray 38)).alloc (.cells (cmdCells c).toArray 56)).alloc (.cells (macCells macNone none).toArray 38)) _ macNone none:=heap_alloc_new _ _;have v3:RepAt ((((w.alloc (.cells (macCells M P).toArray 38)).alloc (.cells (cmdCells c).toArray 56)).alloc (.cells (macCells macNone none).toArray 38)).alloc (.cells (repCells 0 ByteArray.empty).toArray 27)) _ 0 ByteArray.empty:=heap_alloc_new _ _;rw [s1] at v1;rw [s2] at v2;rw [s3] at v3;have a1:∀ (u:World) (o:Obj),Below u.heap.size u (u.alloc o):=fun u o=>(Below.refl _ _).alloc (Nat.le_refl _) _
 exact ⟨((v0.below (a1 _ _)).below (a1 _ _)).below (a1 _ _),(v1.below (a1 _ _)).below (a1 _ _),v2.below (a1 _ _),v3,b4⟩
structure MacPost (T:Tr) (r:MacOut) (w w':World) (X:Tr):Prop where
 at_:TreeAt w' X
 bel:Below w.heap.size w w'
 shp:X.sh=r.m.sh
theorem TreeAt.row {y:World} {g:Nat} {cs:Array Value} {t:TypeId} (hr:y.heap[g]?=some (.cells cs t (0,0))) (ht:t≠195) (vs:List Value) (i:Nat):∀ {T:Tr},TreeAt y T→TreeAt (rowSt y g i vs) T
 | .nil,_=>trivial
 | .node b _ _ _ _ _,⟨h1,h2,h3⟩=>⟨(rowSt_other (show b≠g by
   rintro rfl;unfold NodeAt at h1;rw [h1] at hr;cases hr
   exact ht rfl) vs i y).trans h1,TreeAt.row hr ht vs i h2,TreeAt.row hr ht vs i h3⟩
def macW (y:World) (g:Nat) (M:MacV) (P:Option Addr) (code:Nat) (text:ByteArray):World:=repSt (rowSt y (g+2) 0 (macCells M P)) (g+3) code text
structure MacEnd (y z:World) (g:Nat) (M:MacV) (P:Option Addr) (code:Nat) (text:ByteArray):Prop where
 st:MacAt z (g+2) M P
 rep:RepAt z (g+3) code text
 bel:∀ w0:World,w0.heap.size=g→Below g w0 y→Below g w0 z
 tree:∀ X,TreeAt y X→TreeAt z X
theorem mac_end {w0 y:World} {M0:MacV} {P0:Option Addr} {c:CmdV} (h:MacI w0 M0 P0 c y) (M:MacV) (P:Option Addr) (code:Nat) (text:ByteArray):MacEnd y (macW y w0.heap.size M P code text) w0.heap.size M P code text:=by
 have r1:RepAt (rowSt y (w0.heap.size+2) 0 (macCells M P)) (w0.heap.size+3) 0 ByteArray.empty:=(rowSt_other (by omega) _ _ _).trans h.r1;have m1:=macSt_at h.r0 M P;have r2:RepAt ((rowSt y (w0.heap.size+2) 0 (macCells M P)).setCell ⟨w0.heap.size+3,0,none⟩ (.int .u8 (code:Int))) (w0.heap.size+3) code ByteArray.empty:=r1.set rfl;refine ⟨(m1.other (by omega)).other (by omega),repSt_at r1 code text,fun w hw hb=>repSt_below (rowSt_below (by omega) _ _ _ hb) (by omega) _ _,fun X hX=>?_⟩;exact TreeAt.setC r2 (by simp [repCells]) (TreeAt.setC r1 (by simp [repCells]) (TreeAt.row h.r0 (by decide) _ _ hX))
theorem rowSt_mid {g:Nat} {t:TypeId}:∀ (vs pre old post:List Value) (y:World),y.heap[g]?=some (.cells (pre++(old++post)).toArray t (0,0))→old.length=vs.length→(rowSt y g pre.length vs).heap[g]?=some (.cells (pre++(vs++post)).toArray t (0,0))
 | [],pre,old,post,y,h,hl=>by
  have:old=[]:=List.length_eq_zero_iff.1 hl;subst this;exact h
 | v::r,pre,old,post,y,h,hl=>by
  match old,hl with
  | o::os,hl =>
   have h1:(y.setCell ⟨g,pre.length,none⟩ v).heap[g]?=some (.cells ((pre++[v])++(os++post)).toArray t (0,0)):=by
    rw [heap_setCell_same _ _ _ _ _ _ h];simp
   have h2:=rowSt_mid r (pre++[v]) os post _ h1 (by simpa using hl);rw [List.length_append] at h2;simp only [List.append_assoc,List.singleton_append] at h2;exact h2
theorem MacI.upd {w0 y z:World} {M M1:MacV} {P P1:Option Addr} {c:CmdV} (h:MacI w0 M P c y) (hz:MacAt z w0.heap.size M1 P1) (ho:∀ q,q≠w0.heap.size→z.heap[q]?=y.heap[q]?) (hb:Below w0.heap.size w0 z):MacI w0 M1 P1 c z :=
 ⟨hz,(ho _ (by omega)).trans h.bc,(ho _ (by omega)).trans h.r0,(ho _ (by omega)).trans h.r1,hb⟩
theorem mac_tab {y:World} {g:Nat} {M:MacV} {P:Option Addr} (h:MacAt y g M P) (t:TabV):MacAt (rowSt y g 2 (tabCells t)) g { M with tab:=t } P :=
 rowSt_mid (tabCells t) [.int .u8 (M.all:Int),.int .u8 (M.mem:Int)] (tabCells M.tab) [.pointer P] y h rfl
theorem mac_mem {y:World} {g:Nat} {M:MacV} {P:Option Addr} (h:MacAt y g M P) (n:Nat):MacAt (y.setCell ⟨g,1,none⟩ (.int .u8 (n:Int))) g { M with mem:=n } P:=by
 unfold MacAt;rw [heap_setCell_same _ _ _ _ _ _ h];rfl
theorem mac_ptr {y:World} {g:Nat} {M:MacV} {P:Option Addr} (h:MacAt y g M P) (S:Sh) (Q:Option Addr):MacAt (y.setCell ⟨g,14,none⟩ (.pointer Q)) g { M with sh:=S } Q:=by
 unfold MacAt;rw [heap_setCell_same _ _ _ _ _ _ h];rfl
theorem set_oth {y:World} {g i:Nat} {x:Value}:∀ q,q≠g→(y.setCell ⟨g,i,none⟩ x).heap[q]?=y.heap[q]?:=fun _ hq=>Below.heap_setCell _ _ _ _ (by exact hq)
set_option maxHeartbeats 16000000 in
theorem mdo_any (c:CmdV) (M:MacV) (T:Tr) (w:World) (ha:M.all<256) (hat:TreeAt w T) (hsh:T.sh=M.sh) (hcnt:T.cnt≤4611686018427387903) :
  Calls Tryz.prog 45 #[macV M T.ptr,.agg (cmdCells c).toArray] w fun e w'=>∃ X,e=.returned (.tuple #[macV (macDo M c).m X.ptr,repV (macDo M c).code (macDo M c).text,.bool (macDo M c).fresh])∧MacPost T (macDo M c) w w' X:=by
 obtain ⟨P,hP⟩:∃ P,T.ptr=P:=⟨_,rfl⟩;have hI:=macI_start w M P c;rw [hP];have HP:=Lib.hid hP;clear hP
 obtain ⟨r,hr⟩:∃ r,macDo M c=r:=⟨_,rfl⟩;rw [hr];have HO:=Lib.hid hr;clear hr
 have hchk:=fun y:World=>check_any c y
 rw [cmd_eta] at hchk ⊢;unfold macV;go_enter Tryz.func45,Tryz.ntmps45
 go_upto_region 1 with fail;rw [show w.heap.size+1+1=w.heap.size+2 by omega,show w.heap.size+2+1=w.heap.size+3 by omega];change Code.wp _ _ _ _ ((((w.alloc (.cells (macCells M P).toArray 38)).alloc (.cells (cmdCells c).toArray 56)).alloc (.cells (macCells macNone none).toArray 38)).alloc (.cells (repCells 0 ByteArray.empty).toArray 27));generalize (((w.alloc (.cells (macCells M P).toArray 38)).alloc (.cells (cmdCells c).toArray 56)).alloc (.cells (macCells macNone none).toArray 38)).alloc (.cells (repCells 0 ByteArray.empty).toArray 27)=w1 at *;have HI:=Lib.hid hI;clear hI
 have Hchk:=Lib.hid hchk;clear hchk
 obtain ⟨d0,d1,d2,d3,d4,d5,d6⟩:=HI.out.bc.cells;cases hm:mayC c with
 | false =>
  rw [hm] at Hchk;have hoe:=HO.out;unfold macDo at hoe;rw [if_neg (by rw [hm];simp)] at hoe;subst hoe;clear hm HO;go_upto_region 2 with ((with_reducible refine (Hchk.out w1).mono ?_);clear Hchk;rintro e w2 ⟨rfl,hb⟩;have HI2:=Lib.hid (HI.out.below hb);clear hb)
  obtain ⟨⟨m0,m1,m14⟩,⟨m2,m3,m4⟩,⟨m5,m6,m7⟩,⟨m8,m9,m10⟩,⟨m11,m12,m13⟩⟩:=HI2.out.bm.cells;obtain ⟨⟨o0,o1,o14⟩,⟨o2,o3,o4⟩,⟨o5,o6,o7⟩,⟨o8,o9,o10⟩,⟨o11,o12,o13⟩⟩:=HI2.out.r0.cells;have q0:=HI2.out.r0.thawed 0;have q1:=HI2.out.r0.thawed 1;have q2:=HI2.out.r0.thawed 2;have q3:=HI2.out.r0.thawed 3;have q4:=HI2.out.r0.thawed 4;have q5:=HI2.out.r0.thawed 5;have q6:=HI2.out.r0.thawed 6;have q7:=HI2.out.r0.thawed 7;have q8:=HI2.out.r0.thawed 8;have q9:=HI2.out.r0.thawed 9;have q10:=HI2.out.r0.thawed 10;have q11:=HI2.out.r0.thawed 11;have q12:=HI2.out.r0.thawed 12;have q13:=HI2.out.r0.thawed 13;have q14:=HI2.out.r0.thawed 14;obtain ⟨s0,s1⟩:=HI2.out.r1.cells;have s2:=HI2.out.r1.thawed 0;have s3:=HI2.out.r1.thawed 1;go_wp2_with fail;change bodyPost _ _ _ _ _ (macW w2 w.heap.size M P 2 ByteArray.empty);clear o0 o1 o2 o3 o4 o5 o6 o7 o8 o9 o10 o11 o12 o13 o14 q0 q1 q2 q3 q4 q5 q6 q7 q8 q9 q10 q11 q12 q13 q14 s0 s1 s2 s3;have HZ:=Lib.hid (mac_end HI2.out M P 2 ByteArray.empty);generalize macW w2 w.heap.size M P 2 ByteArray.empty=w9 at *;obtain ⟨⟨o0,o1,o14⟩,⟨o2,o3,o4⟩,⟨o5,o6,o7⟩,⟨o8,o9,o10⟩,⟨o11,o12,o13⟩⟩:=HZ.out.st.cells;obtain ⟨s0,s1⟩:=HZ.out.rep.cells;refine bodyPost_ret (v:=.tuple #[.agg (macCells M P).toArray,.agg #[.int .u8 (2:Nat),.string ByteArray.empty],.bool false]) (by rw [mac_eta];simp [results,Tryz.results45,go_sem,o0,o1,o2,o3,o4,o5,o6,o7,o8,o9,o10,o11,o12,o13,o14,s0,s1] <;> rfl) rfl ?_;exact ⟨T,by rw [HP.out];rfl,HZ.out.tree _ (hat.below HI2.out.bel),HZ.out.bel w rfl HI2.out.bel,hsh⟩
 | true =>
  rw [hm] at Hchk;have hcl:=may_client hm;have hsq:c.seq.toNat≠0:=by
   unfold mayC at hm;simp only [Bool.and_eq_true,decide_eq_true_eq] at hm;exact hm.1.1.1.1.1.2
  have hlk:=fun y:World=>look_any M.tab c.client.toNat c.seq hcl hsq y
  have hoe:=HO.out;unfold macDo at hoe;rw [if_pos hm] at hoe;have Hoe:=Lib.hid hoe;clear hoe HO
  obtain ⟨⟨wh,lco,lte⟩,hl⟩:∃ o,lookT M.tab c.client.toNat c.seq=o:=⟨_,rfl⟩;rw [hl,tab_eta] at hlk;unfold repV repCells at hlk;rw [hl] at Hoe;have Hl:=Lib.hid hl;clear hl
  have Hlk:=Lib.hid hlk;clear hlk
  have Hm:=Lib.hid (And.intro hm (And.intro hcl hsq));clear hm hcl hsq
  go_upto_region 3 with ((with_reducible refine (Hchk.out w1).mono ?_);clear Hchk;rintro e w2 ⟨rfl,hb⟩;have HI2:=Lib.hid (HI.out.below hb);clear hb)
  clear d0 d1 d2 d3 d4 d5 d6 HI;obtain ⟨⟨m0,m1,m14⟩,⟨m2,m3,m4⟩,⟨m5,m6,m7⟩,⟨m8,m9,m10⟩,⟨m11,m12,m13⟩⟩:=HI2.out.bm.cells;obtain ⟨d0,d1,d2,d3,d4,d5,d6⟩:=HI2.out.bc.cells;go_upto_region 4 with ((with_reducible refine (Hlk.out w2).mono ?_);clear Hlk;rintro e w3 ⟨rfl,hb⟩;have Hb3:=Lib.hid hb;clear hb)
  clear m0 m1 m2 m3 m4 m5 m6 m7 m8 m9 m10 m11 m12 m13 m14 d0 d1 d2 d3 d4 d5 d6;have hb4:=(Below.refl w3.heap.size w3).alloc (Nat.le_refl _) (.cells (repCells lco lte).toArray 27);have HK4:=Lib.hid (show RepAt (w3.alloc (.cells (repCells lco lte).toArray 27)) w3.heap.size lco lte from heap_alloc_new _ _);have hb24:=Hb3.out.trans (hb4.mono Hb3.out.size);have HI4:=Lib.hid (HI2.out.below hb24);have Hgk:=Lib.hid (show w.heap.size+3<w3.heap.size from Nat.lt_of_lt_of_le HI2.out.r1.lt Hb3.out.size);change Code.wp _ _ _ _ (w3.alloc (.cells (repCells lco lte).toArray 27));generalize w3.alloc (.cells (repCells lco lte).toArray 27)=w4 at *;clear hb4 hb24 HI2 Hb3;generalize w3.heap.size=gk at *;by_cases hf:wh=1
  ·
   subst hf;have hl:=Hl.out;unfold lookT at hl;have hlt:(M.tab.at_ c.client.toNat).seq.toNat<c.seq.toNat∧lco=0∧lte=ByteArray.empty:=by
    by_cases hq:(M.tab.at_ c.client.toNat).seq.toNat<c.seq.toNat
    ·
     rw [if_pos hq] at hl;simp only [Prod.mk.injEq] at hl;exact ⟨hq,hl.2.1.symm,hl.2.2.symm⟩
    ·
     rw [if_neg hq] at hl;split at hl <;> simp at hl
   clear hl;obtain ⟨hlt,rfl,rfl⟩:=hlt;have hoe:=Hoe.out;rw [if_pos rfl] at hoe;obtain ⟨⟨F,fco,fte⟩,hF⟩:∃ o,macFresh M c=o:=⟨_,rfl⟩;have hFt:=macFresh_tab M c;rw [hF] at hoe hFt;simp only at hoe hFt;subst hoe;have HF:=Lib.hid hF;clear hF
   have HFt:=Lib.hid hFt;clear hFt
   have Hlt:=Lib.hid hlt;clear hlt
   clear Hoe Hl;have hat4:=hat.below HI4.out.bel;have Hat4:=Lib.hid hat4;clear hat4
   obtain ⟨d0,d1,d2,d3,d4,d5,d6⟩:=HI4.out.bc.cells;go_upto_if 32 with fail
   go_cut [9] (fun _ wx=>∃ (X:Tr),MacI w F X.ptr c wx∧RepAt wx gk fco fte∧TreeAt wx X∧X.sh=F.sh)
   case first =>
    by_cases hk:c.kind=5
    ·
     have hk':((c.kind.toNat:Int) == 5)=true:=by rw [hk];rfl
     have hF:=HF.out;unfold macFresh at hF;rw [if_pos hk] at hF;have HFe:=Lib.hid hF;clear hF
     have Hk:=Lib.hid hk;clear hk
     have hset:c.set.toNat<256:=c.set.isLt;have hmayS:=fun y:World=>mayS_any c.set.toNat M.all hset ha y
     have hboth:=fun y:World=>both_any c.set.toNat c.set.toNat hset hset y
     have Hboth:=Lib.hid hboth;clear hboth
     obtain ⟨ms,hms⟩:∃ b,mayS c.set.toNat M.all=b:=⟨_,rfl⟩;rw [hms] at hmayS;have HmayS:=Lib.hid hmayS;clear hmayS
     obtain ⟨⟨m0,m1,m14⟩, -⟩:=HI4.out.bm.cells;cases ms with
     | true =>
      have hFe:=HFe.out;rw [if_pos hms] at hFe;simp only [Prod.mk.injEq] at hFe;obtain ⟨hF1',rfl,rfl⟩:=hFe;have HF1:=Lib.hid hF1';clear hF1'
      have q1:=HI4.out.bm.thawed 1;go_wp2_with (first
       | ((with_reducible refine (HmayS.out _).mono ?_);rintro e w' ⟨rfl,rfl⟩)
       | ((with_reducible refine (Hboth.out _).mono ?_);rintro e w' ⟨rfl,rfl⟩))
      have HI5:=Lib.hid (show MacI w F P c (w4.setCell ⟨w.heap.size,1,none⟩ (.int .u8 (bothS c.set.toNat c.set.toNat:Int))) from by
       rw [← HF1.out];exact HI4.out.upd (mac_mem HI4.out.bm _) set_oth (below_setV HI4.out.bel (Nat.le_refl _)))
      have HK5:=Lib.hid (show RepAt (w4.setCell ⟨w.heap.size,1,none⟩ (.int .u8 (bothS c.set.toNat c.set.toNat:Int))) gk 0 ByteArray.empty from HK4.out.other (by have:=Hgk.out;omega));have HT5:=Lib.hid (TreeAt.setC (i:=1) (x:=.int .u8 (bothS c.set.toNat c.set.toNat:Int)) HI4.out.bm (by simp [macCells,tabCells,lastCells]) Hat4.out);have HS5:=Lib.hid (show T.sh=F.sh by rw [hsh, ← HF1.out]);clear q1 m0 m1 m14 d0 d1 d2 d3 d4 d5 d6 HI4 HK4 Hat4 hms HF1 HFe;go_meet
      exact ⟨T,by rw [HP.out];exact HI5.out,HK5.out,HT5.out,HS5.out⟩
     | false =>
      have hFe:=HFe.out;rw [if_neg (by rw [hms];simp)] at hFe;simp only [Prod.mk.injEq] at hFe;obtain ⟨hF1',rfl,rfl⟩:=hFe;have HF1:=Lib.hid hF1';clear hF1'
      obtain ⟨k0,k1⟩:=HK4.out.cells;have q0:=HK4.out.thawed 0;have q1:=HK4.out.thawed 1;go_wp2_with ((with_reducible refine (HmayS.out _).mono ?_);rintro e w' ⟨rfl,rfl⟩);have HI5:=Lib.hid (show MacI w F P c (repSt w4 gk 2 ByteArray.empty) from by
       rw [← HF1.out];have h:=Hgk.out;exact ⟨(HI4.out.bm.other (by omega)).other (by omega),(HI4.out.bc.other (by omega)).other (by omega),(HI4.out.r0.other (by omega)).other (by omega),(HI4.out.r1.other (by omega)).other (by omega),repSt_below HI4.out.bel (by omega) _ _⟩)
      have HK5:=Lib.hid (repSt_at HK4.out 2 ByteArray.empty);have HT5:=Lib.hid (show TreeAt (repSt w4 gk 2 ByteArray.empty) T from TreeAt.setC (i:=1) (x:=.string ByteArray.empty) (RepAt.set (HK4.out) (code':=2) (text':=ByteArray.empty) (i:=0) (x:=.int .u8 2) rfl) (by simp [repCells]) (TreeAt.setC (i:=0) (x:=.int .u8 2) HK4.out (by simp [repCells]) Hat4.out));have HS5:=Lib.hid (show T.sh=F.sh by rw [hsh, ← HF1.out]);clear q0 q1 k0 k1 m0 m1 m14 d0 d1 d2 d3 d4 d5 d6 HI4 HK4 Hat4 hms HF1 HFe;go_meet
      exact ⟨T,by rw [HP.out];exact HI5.out,HK5.out,HT5.out,HS5.out⟩
    ·
     have hk':((c.kind.toNat:Int) == 5)=false:=by
      simp only [beq_eq_false_iff_ne,ne_eq];intro e;exact hk (UInt8.toNat_inj.1 (show c.kind.toNat=(5:UInt8).toNat by show c.kind.toNat=5;omega))
     have hF:=HF.out;unfold macFresh at hF;rw [if_neg hk] at hF;simp only [Prod.mk.injEq] at hF;obtain ⟨hF1,hF2,hF3⟩:=hF;have Hk:=Lib.hid hk;clear hk
     have hd:=do_any c T w4 Hat4.out hcnt;rw [HP.out,hsh,cmd_eta] at hd;obtain ⟨⟨oS,oc,ot⟩,ho⟩:∃ o,kvDo M.sh c=o:=⟨_,rfl⟩;rw [ho] at hd hF1 hF2 hF3;simp only at hF1 hF2 hF3;subst hF2 hF3;clear ho;unfold repV repCells at hd;have Hd:=Lib.hid hd;clear hd
     have HF1:=Lib.hid hF1;clear hF1
     obtain ⟨⟨m0,m1,m14⟩, -⟩:=HI4.out.bm.cells;go_wp2_with ((with_reducible refine Hd.out.mono ?_);clear Hd;rintro e w5 ⟨X,rfl,hx⟩;have Hx:=Lib.hid (And.intro hx.at_ (And.intro hx.bel (show X.sh=oS from hx.shp)));clear hx;have HI5:=Lib.hid (HI4.out.below Hx.out.2.1);have HK5:=Lib.hid (HK4.out.below Hx.out.2.1);have s14:=HI5.out.bm.cells.1.2.2;have q14:=HI5.out.bm.thawed 14;obtain ⟨k0,k1⟩:=HK5.out.cells;have q0:=HK5.out.thawed 0;have q1:=HK5.out.thawed 1;have n1 : ¬ w.heap.size=gk:=(by have:=Hgk.out;omega);have n2 : ¬ gk=w.heap.size:=(by have:=Hgk.out;omega));have h:=Hgk.out;have HIa:=Lib.hid (show MacI w F X.ptr c (w5.setCell ⟨w.heap.size,14,none⟩ (.pointer X.ptr)) from by
      rw [← HF1.out];exact HI5.out.upd (mac_ptr HI5.out.bm oS X.ptr) set_oth (below_setV HI5.out.bel (Nat.le_refl _)))
     have HKa:=Lib.hid (show RepAt (w5.setCell ⟨w.heap.size,14,none⟩ (.pointer X.ptr)) gk 0 ByteArray.empty from HK5.out.other (by omega));have HTa:=Lib.hid (TreeAt.setC (i:=14) (x:=.pointer X.ptr) HI5.out.bm (by simp [macCells,tabCells,lastCells]) Hx.out.1);have HS5:=Lib.hid (show X.sh=F.sh by rw [Hx.out.2.2, ← HF1.out]);clear s14 q14 k0 k1 q0 q1 n1 n2 m0 m1 m14 d0 d1 d2 d3 d4 d5 d6 HI4 HK4 HI5 HK5 Hat4;have HIb:=Lib.hid (show MacI w F X.ptr c (repSt (w5.setCell ⟨w.heap.size,14,none⟩ (.pointer X.ptr)) gk oc ot) from
      ⟨(HIa.out.bm.other (by omega)).other (by omega),(HIa.out.bc.other (by omega)).other (by omega),(HIa.out.r0.other (by omega)).other (by omega),(HIa.out.r1.other (by omega)).other (by omega),repSt_below HIa.out.bel (by omega) _ _⟩)
     have HKb:=Lib.hid (repSt_at HKa.out oc ot);have HTb:=Lib.hid (show TreeAt (repSt (w5.setCell ⟨w.heap.size,14,none⟩ (.pointer X.ptr)) gk oc ot) X from TreeAt.setC (i:=1) (x:=.string ot) (RepAt.set (HKa.out) (code':=oc) (text':=ByteArray.empty) (i:=0) (x:=.int .u8 (oc:Int)) rfl) (by simp [repCells]) (TreeAt.setC (i:=0) (x:=.int .u8 (oc:Int)) HKa.out (by simp [repCells]) HTa.out));go_meet
     exact ⟨X,HIb.out,HKb.out,HTb.out,HS5.out⟩
   case rest =>
    obtain ⟨X,hi5,hk5,ht5,hs5⟩:=hcut;have HI5:=Lib.hid hi5;clear hi5
    have HK5:=Lib.hid hk5;clear hk5
    have HT5:=Lib.hid ht5;clear ht5
    have HS5:=Lib.hid hs5;clear hs5
    obtain ⟨PX,hPX⟩:∃ P,X.ptr=P:=⟨_,rfl⟩;rw [hPX] at HI5;have HPX:=Lib.hid hPX;clear hPX
    clear HI4 HK4 Hat4 d0 d1 d2 d3 d4 d5 d6 HF;obtain ⟨⟨m0,m1,m14⟩,⟨m2,m3,m4⟩,⟨m5,m6,m7⟩,⟨m8,m9,m10⟩,⟨m11,m12,m13⟩⟩:=HI5.out.bm.cells;obtain ⟨d0,d1,d2,d3,d4,d5,d6⟩:=HI5.out.bc.cells;obtain ⟨k0,k1⟩:=HK5.out.cells;have hkp:∀ y:World,Calls Tryz.prog 81 #[.agg (tabCells M.tab).toArray,.int .u8 (c.client.toNat:Int),.int .u32 (c.seq.toNat:Int),.agg #[.int .u8 (fco:Int),.string fte]] y (fun e w'=>e=.returned (.agg (tabCells (M.tab.put c.client.toNat ⟨c.seq,fco,fte⟩)).toArray)∧Below y.heap.size y w') :=
     fun y=>keep_any M.tab c.client.toNat ⟨c.seq,fco,fte⟩ Hm.out.2.1 Hlt.out y
    rw [tab_eta M.tab] at hkp;rw [HFt.out] at m2 m3 m4 m5 m6 m7 m8 m9 m10 m11 m12 m13;have Hkp:=Lib.hid hkp;clear hkp
    obtain ⟨t',ht'⟩:∃ t',M.tab.put c.client.toNat ⟨c.seq,fco,fte⟩=t':=⟨_,rfl⟩;rw [ht'] at Hkp;rw [tab_eta t'] at Hkp;have Ht:=Lib.hid ht';clear ht'
    have q2:=HI5.out.bm.thawed 2;have q3:=HI5.out.bm.thawed 3;have q4:=HI5.out.bm.thawed 4;have q5:=HI5.out.bm.thawed 5;have q6:=HI5.out.bm.thawed 6;have q7:=HI5.out.bm.thawed 7;have q8:=HI5.out.bm.thawed 8;have q9:=HI5.out.bm.thawed 9;have q10:=HI5.out.bm.thawed 10;have q11:=HI5.out.bm.thawed 11;have q12:=HI5.out.bm.thawed 12;have q13:=HI5.out.bm.thawed 13;go_upto_region 13 with ((with_reducible refine (Hkp.out wc).mono ?_);clear Hkp;rintro e w6 ⟨rfl,hb⟩;have Hb6:=Lib.hid hb;clear hb;have HI6:=Lib.hid (HI5.out.below Hb6.out);have HK6:=Lib.hid (HK5.out.below Hb6.out);have HT6:=Lib.hid (HT5.out.below Hb6.out);obtain ⟨⟨n0,n1,n14⟩,⟨n2,n3,n4⟩,⟨n5,n6,n7⟩,⟨n8,n9,n10⟩,⟨n11,n12,n13⟩⟩:=HI6.out.bm.cells;have j2:=HI6.out.bm.thawed 2;have j3:=HI6.out.bm.thawed 3;have j4:=HI6.out.bm.thawed 4;have j5:=HI6.out.bm.thawed 5;have j6:=HI6.out.bm.thawed 6;have j7:=HI6.out.bm.thawed 7;have j8:=HI6.out.bm.thawed 8;have j9:=HI6.out.bm.thawed 9;have j10:=HI6.out.bm.thawed 10;have j11:=HI6.out.bm.thawed 11;have j12:=HI6.out.bm.thawed 12;have j13:=HI6.out.bm.thawed 13)
    clear m0 m1 m2 m3 m4 m5 m6 m7 m8 m9 m10 m11 m12 m13 m14 d0 d1 d2 d3 d4 d5 d6 k0 k1 q2 q3 q4 q5 q6 q7 q8 q9 q10 q11 q12 q13 n0 n1 n2 n3 n4 n5 n6 n7 n8 n9 n10 n11 n12 n13 n14 j2 j3 j4 j5 j6 j7 j8 j9 j10 j11 j12 j13;have HI7:=Lib.hid (HI6.out.upd (mac_tab HI6.out.bm t') (fun q hq=>rowSt_other hq _ _ _) (rowSt_below (Nat.le_refl _) _ _ _ HI6.out.bel));have HK7:=Lib.hid (show RepAt (rowSt w6 w.heap.size 2 (tabCells t')) gk fco fte from (rowSt_other (by have:=Hgk.out;omega) _ _ _).trans HK6.out);have HT7:=Lib.hid (TreeAt.row HI6.out.bm (by decide) (tabCells t') 2 HT6.out);change Code.wp _ _ _ _ (rowSt w6 w.heap.size 2 (tabCells t'));generalize rowSt w6 w.heap.size 2 (tabCells t')=w7 at *;clear HI6 HK6 HT6 Hb6;have HI7':=HI7.out;obtain ⟨M',hM'⟩:∃ M',{ F with tab:=t' }=M':=⟨_,rfl⟩;rw [hM'] at HI7';clear HI7;have HI7:=Lib.hid HI7';clear HI7'
    have HM':=Lib.hid hM';clear hM'
    have HId:=Lib.hid (HI7.out.below (KeptW.bel (show KeptW w7 w7.drew from ⟨rfl,rfl,rfl,Nat.le_refl _,fun _ _=>rfl⟩)));have HKd:=Lib.hid (show RepAt w7.drew gk fco fte from HK7.out);generalize hWd:w7.drew=wd at *
    obtain ⟨R,hR⟩:∃ R:World→Prop,(fun x=>x=wd∨x=rowSt wd (w.heap.size+2) 0 (macCells M' PX))=R:=⟨_,rfl⟩;have hR0:R wd:=by rw [← hR];exact .inl rfl
    have hR1:R (rowSt wd (w.heap.size+2) 0 (macCells M' PX)):=by rw [← hR];exact .inr rfl
    have hRk:∀ x,R x→RepAt x gk fco fte:=fun x hx=>by
     rw [← hR] at hx;rcases hx with rfl | rfl
     ·
      exact HKd.out
     ·
      exact (rowSt_other (by have:=Hgk.out;omega) _ _ _).trans HKd.out
    have hRm:∀ x,R x→MacAt x w.heap.size M' PX:=fun x hx=>by
     rw [← hR] at hx;rcases hx with rfl | rfl
     ·
      exact HId.out.bm
     ·
      exact (rowSt_other (by omega) _ _ _).trans HId.out.bm
    have HR1:=Lib.hid hR1;clear hR1
    have HRk:=Lib.hid hRk;clear hRk
    have HRm:=Lib.hid hRm;clear hRm
    clear hR;refine (wpIn_wide (n:=1)).1 ?_;refine RegK.wpIn_region_can (F:=Fence.wide) R [(0,0),(1,0),(2,1),(3,3),(4,0)] (by kernel_rfl) (by kernel_rfl) (by kernel_rfl) (fun _ _ d _ _ h=>by cases d <;> exact h) (by have h:=hR0;rw [← hWd] at h;exact h) ?_;dsimp only [RegK.pick,List.getElem?_cons_zero,List.getElem?_cons_succ];change RegK.Can _ _ _ _ _ _ _ _ w7.drew;rw [hWd];refine RegK.can_reads ?_;intro K hK;go_simp;refine ⟨.agg (macCells M' PX).toArray,fun y hy=>?_,hK _ ?_⟩
    ·
     rw [mac_eta];obtain ⟨⟨m0,m1,m14⟩,⟨m2,m3,m4⟩,⟨m5,m6,m7⟩,⟨m8,m9,m10⟩,⟨m11,m12,m13⟩⟩:=(HRm.out y hy).cells;go_simp
    clear hK K;refine RegK.can_reads ?_;intro K hK;go_simp;refine ⟨.agg #[.int .u8 (fco:Nat),.string fte],fun y hy=>?_,hK _ ?_⟩
    ·
     obtain ⟨f0,f1⟩:=(HRk.out y hy).cells;go_simp
    clear hK K;rw [mac_eta M' PX];obtain ⟨⟨o0,o1,o14⟩,⟨o2,o3,o4⟩,⟨o5,o6,o7⟩,⟨o8,o9,o10⟩,⟨o11,o12,o13⟩⟩:=HId.out.r0.cells;have q0:=HId.out.r0.thawed 0;have q1:=HId.out.r0.thawed 1;have q2:=HId.out.r0.thawed 2;have q3:=HId.out.r0.thawed 3;have q4:=HId.out.r0.thawed 4;have q5:=HId.out.r0.thawed 5;have q6:=HId.out.r0.thawed 6;have q7:=HId.out.r0.thawed 7;have q8:=HId.out.r0.thawed 8;have q9:=HId.out.r0.thawed 9;have q10:=HId.out.r0.thawed 10;have q11:=HId.out.r0.thawed 11;have q12:=HId.out.r0.thawed 12;have q13:=HId.out.r0.thawed 13;have q14:=HId.out.r0.thawed 14;obtain ⟨s0,s1⟩:=HId.out.r1.cells;have s2:=HId.out.r1.thawed 0;have s3:=HId.out.r1.thawed 1;refine RegK.can_narrows (fun _=>trivial) ?_;intro K K0 hK hK0;go_simp;refine hK R _ _ (fun y h=>h) HR1.out ?_;clear hK K K0 hK0;change RegK.Can _ _ _ _ _ _ _ _ (rowSt wd (w.heap.size+2) 0 (macCells M' PX));clear o0 o1 o2 o3 o4 o5 o6 o7 o8 o9 o10 o11 o12 o13 o14 q0 q1 q2 q3 q4 q5 q6 q7 q8 q9 q10 q11 q12 q13 q14;have v0:(rowSt wd (w.heap.size+2) 0 (macCells M' PX)).cell? ⟨w.heap.size+3,0,none⟩=some (.int .u8 0):=cell_of_row _ _ _ _ _ _ ((rowSt_other (by omega) _ _ _).trans HId.out.r1);have v1:(rowSt wd (w.heap.size+2) 0 (macCells M' PX)).cell? ⟨w.heap.size+3,1,none⟩=some (.string ByteArray.empty):=cell_of_row _ _ _ _ _ _ ((rowSt_other (by omega) _ _ _).trans HId.out.r1);have v2:(rowSt wd (w.heap.size+2) 0 (macCells M' PX)).frozen? ⟨w.heap.size+3,0,none⟩=false:=RepAt.thawed (code:=0) (text:=ByteArray.empty) ((rowSt_other (by omega) _ _ _).trans HId.out.r1) 0;have v3:(rowSt wd (w.heap.size+2) 0 (macCells M' PX)).frozen? ⟨w.heap.size+3,1,none⟩=false:=RepAt.thawed (code:=0) (text:=ByteArray.empty) ((rowSt_other (by omega) _ _ _).trans HId.out.r1) 1;clear s0 s1 s2 s3;generalize hwr:rowSt wd (w.heap.size+2) 0 (macCells M' PX)=wr at *
    refine RegK.can_frees (fun _=>trivial) ?_;intro K K0 hK hK0;go_simp;refine hK (fun _=>True) _ _ trivial ?_;clear hK K hK0 K0;iterate 1 (refine RegK.can_reads ?_;intro K hK;go_simp;(first | (refine ⟨_,fun _ _=>rfl,hK _ ?_⟩) | (refine hK _ ?_));clear hK K)
    refine RegK.can_nil ?_;clear v0 v1 v2 v3;change Exit.then _ _ _ _ (repSt wr (w.heap.size+3) fco fte);rw [← hwr];clear hwr;change Exit.then _ _ _ _ (macW wd w.heap.size M' PX fco fte);have HZ:=Lib.hid (mac_end HId.out M' PX fco fte);generalize macW wd w.heap.size M' PX fco fte=w9 at *;go_wp2_with fail;obtain ⟨⟨o0,o1,o14⟩,⟨o2,o3,o4⟩,⟨o5,o6,o7⟩,⟨o8,o9,o10⟩,⟨o11,o12,o13⟩⟩:=HZ.out.st.cells;obtain ⟨s0,s1⟩:=HZ.out.rep.cells;refine bodyPost_ret (v:=.tuple #[.agg (macCells M' PX).toArray,.agg #[.int .u8 (fco:Nat),.string fte],.bool true]) (by rw [mac_eta];simp [results,Tryz.results45,go_sem,o0,o1,o2,o3,o4,o5,o6,o7,o8,o9,o10,o11,o12,o13,o14,s0,s1] <;> rfl) rfl ?_;have e:=HM'.out;subst e;have e:=Ht.out;subst e;exact ⟨X,by rw [HPX.out];rfl,HZ.out.tree _ (HT7.out.below (by rw [← hWd];exact KeptW.bel (show KeptW w7 w7.drew from ⟨rfl,rfl,rfl,Nat.le_refl _,fun _ _=>rfl⟩))),HZ.out.bel w rfl HId.out.bel,HS5.out⟩
  ·
   have hf':((wh:Int) == 1)=false:=by simp;omega
   have hoe:=Hoe.out;rw [if_neg hf] at hoe;subst hoe;clear Hoe;go_upto_region 5 with fail;have HId:=Lib.hid (HI4.out.below (KeptW.bel (show KeptW w4 w4.drew from ⟨rfl,rfl,rfl,Nat.le_refl _,fun _ _=>rfl⟩)));have HKd:=Lib.hid (show RepAt w4.drew gk lco lte from HK4.out);generalize hWd:w4.drew=wd at *
   obtain ⟨R,hR⟩:∃ R:World→Prop,(fun x=>x=wd∨x=rowSt wd (w.heap.size+2) 0 (macCells M P))=R:=⟨_,rfl⟩;have hR0:R wd:=by rw [← hR];exact .inl rfl
   have hR1:R (rowSt wd (w.heap.size+2) 0 (macCells M P)):=by rw [← hR];exact .inr rfl
   have hRk:∀ x,R x→RepAt x gk lco lte:=fun x hx=>by
    rw [← hR] at hx;rcases hx with rfl | rfl
    ·
     exact HKd.out
    ·
     exact (rowSt_other (by have:=Hgk.out;omega) _ _ _).trans HKd.out
   have hRm:∀ x,R x→MacAt x w.heap.size M P:=fun x hx=>by
    rw [← hR] at hx;rcases hx with rfl | rfl
    ·
     exact HId.out.bm
    ·
     exact (rowSt_other (by omega) _ _ _).trans HId.out.bm
   have HR1:=Lib.hid hR1;clear hR1
   have HRk:=Lib.hid hRk;clear hRk
   have HRm:=Lib.hid hRm;clear hRm
   clear hR;refine (wpIn_wide (n:=1)).1 ?_;refine RegK.wpIn_region_can (F:=Fence.wide) R [(0,0),(1,0),(2,1),(3,3),(4,0)] (by kernel_rfl) (by kernel_rfl) (by kernel_rfl) (fun _ _ d _ _ h=>by cases d <;> exact h) (by have h:=hR0;rw [← hWd] at h;exact h) ?_;dsimp only [RegK.pick,List.getElem?_cons_zero,List.getElem?_cons_succ];change RegK.Can _ _ _ _ _ _ _ _ w4.drew;rw [hWd];refine RegK.can_reads ?_;intro K hK;go_simp;refine ⟨.agg (macCells M P).toArray,fun y hy=>?_,hK _ ?_⟩
   ·
    rw [mac_eta];obtain ⟨⟨m0,m1,m14⟩,⟨m2,m3,m4⟩,⟨m5,m6,m7⟩,⟨m8,m9,m10⟩,⟨m11,m12,m13⟩⟩:=(HRm.out y hy).cells;go_simp
   clear hK K;refine RegK.can_reads ?_;intro K hK;go_simp;refine ⟨.agg #[.int .u8 (lco:Nat),.string lte],fun y hy=>?_,hK _ ?_⟩
   ·
    obtain ⟨f0,f1⟩:=(HRk.out y hy).cells;go_simp
   clear hK K;rw [mac_eta M P];obtain ⟨⟨o0,o1,o14⟩,⟨o2,o3,o4⟩,⟨o5,o6,o7⟩,⟨o8,o9,o10⟩,⟨o11,o12,o13⟩⟩:=HId.out.r0.cells;have q0:=HId.out.r0.thawed 0;have q1:=HId.out.r0.thawed 1;have q2:=HId.out.r0.thawed 2;have q3:=HId.out.r0.thawed 3;have q4:=HId.out.r0.thawed 4;have q5:=HId.out.r0.thawed 5;have q6:=HId.out.r0.thawed 6;have q7:=HId.out.r0.thawed 7;have q8:=HId.out.r0.thawed 8;have q9:=HId.out.r0.thawed 9;have q10:=HId.out.r0.thawed 10;have q11:=HId.out.r0.thawed 11;have q12:=HId.out.r0.thawed 12;have q13:=HId.out.r0.thawed 13;have q14:=HId.out.r0.thawed 14;obtain ⟨s0,s1⟩:=HId.out.r1.cells;have s2:=HId.out.r1.thawed 0;have s3:=HId.out.r1.thawed 1;refine RegK.can_narrows (fun _=>trivial) ?_;intro K K0 hK hK0;go_simp;refine hK R _ _ (fun y h=>h) HR1.out ?_;clear hK K K0 hK0;change RegK.Can _ _ _ _ _ _ _ _ (rowSt wd (w.heap.size+2) 0 (macCells M P));clear o0 o1 o2 o3 o4 o5 o6 o7 o8 o9 o10 o11 o12 o13 o14 q0 q1 q2 q3 q4 q5 q6 q7 q8 q9 q10 q11 q12 q13 q14;have v0:(rowSt wd (w.heap.size+2) 0 (macCells M P)).cell? ⟨w.heap.size+3,0,none⟩=some (.int .u8 0):=cell_of_row _ _ _ _ _ _ ((rowSt_other (by omega) _ _ _).trans HId.out.r1);have v1:(rowSt wd (w.heap.size+2) 0 (macCells M P)).cell? ⟨w.heap.size+3,1,none⟩=some (.string ByteArray.empty):=cell_of_row _ _ _ _ _ _ ((rowSt_other (by omega) _ _ _).trans HId.out.r1);have v2:(rowSt wd (w.heap.size+2) 0 (macCells M P)).frozen? ⟨w.heap.size+3,0,none⟩=false:=RepAt.thawed (code:=0) (text:=ByteArray.empty) ((rowSt_other (by omega) _ _ _).trans HId.out.r1) 0;have v3:(rowSt wd (w.heap.size+2) 0 (macCells M P)).frozen? ⟨w.heap.size+3,1,none⟩=false:=RepAt.thawed (code:=0) (text:=ByteArray.empty) ((rowSt_other (by omega) _ _ _).trans HId.out.r1) 1;clear s0 s1 s2 s3;generalize hwr:rowSt wd (w.heap.size+2) 0 (macCells M P)=wr at *
   refine RegK.can_frees (fun _=>trivial) ?_;intro K K0 hK hK0;go_simp;refine hK (fun _=>True) _ _ trivial ?_;clear hK K hK0 K0;iterate 1 (refine RegK.can_reads ?_;intro K hK;go_simp;(first | (refine ⟨_,fun _ _=>rfl,hK _ ?_⟩) | (refine hK _ ?_));clear hK K)
   refine RegK.can_nil ?_;clear v0 v1 v2 v3;change Exit.then _ _ _ _ (repSt wr (w.heap.size+3) lco lte);rw [← hwr];clear hwr;change Exit.then _ _ _ _ (macW wd w.heap.size M P lco lte);have HZ:=Lib.hid (mac_end HId.out M P lco lte);generalize macW wd w.heap.size M P lco lte=w9 at *;go_wp2_with fail;obtain ⟨⟨o0,o1,o14⟩,⟨o2,o3,o4⟩,⟨o5,o6,o7⟩,⟨o8,o9,o10⟩,⟨o11,o12,o13⟩⟩:=HZ.out.st.cells;obtain ⟨s0,s1⟩:=HZ.out.rep.cells;refine bodyPost_ret (v:=.tuple #[.agg (macCells M P).toArray,.agg #[.int .u8 (lco:Nat),.string lte],.bool false]) (by rw [mac_eta];simp [results,Tryz.results45,go_sem,o0,o1,o2,o3,o4,o5,o6,o7,o8,o9,o10,o11,o12,o13,o14,s0,s1] <;> rfl) rfl ?_;exact ⟨T,by rw [HP.out];rfl,HZ.out.tree _ (hat.below HId.out.bel),HZ.out.bel w rfl HId.out.bel,hsh⟩
def newM (all first:Nat):MacV:=if mayS first all=true then ⟨bothS all all,bothS first first,tabNone,.nil⟩ else macNone
set_option maxHeartbeats 4000000 in
theorem new_any (all first:Nat) (ha:all<256) (hf:first<256) (w:World) :
  Calls Tryz.prog 35 #[.int .u8 (all:Int),.int .u8 (first:Int)] w fun e w'=>e=.returned (.tuple #[macV (newM all first) none,.int .i64 (if mayS first all=true then 0 else 2)])∧Below w.heap.size w w':=by
 have hb1:=(Below.refl w.heap.size w).alloc (Nat.le_refl _) (.cells (macCells macNone none).toArray 38);have hm1:MacAt (w.alloc (.cells (macCells macNone none).toArray 38)) w.heap.size macNone none:=heap_alloc_new _ _;have Hmay:=Lib.hid (fun y:World=>mayS_any first all hf ha y);have Hb1:=Lib.hid (fun y:World=>both_any all all ha ha y);have Hb2:=Lib.hid (fun y:World=>both_any first first hf hf y);unfold newM;obtain ⟨ms,hms⟩:∃ b,mayS first all=b:=⟨_,rfl⟩;rw [hms] at Hmay ⊢;clear hms;go_enter Tryz.func35,Tryz.ntmps35
 go_upto_region 1 with fail;change Code.wp _ _ _ _ (w.alloc (.cells (macCells macNone none).toArray 38));generalize w.alloc (.cells (macCells macNone none).toArray 38)=w1 at *;have Hm1:=Lib.hid hm1;clear hm1
 have Hbel:=Lib.hid hb1;clear hb1
 obtain ⟨⟨o0,o1,o14⟩,⟨o2,o3,o4⟩,⟨o5,o6,o7⟩,⟨o8,o9,o10⟩,⟨o11,o12,o13⟩⟩:=Hm1.out.cells;have q0:=Hm1.out.thawed 0;have q1:=Hm1.out.thawed 1;have q2:=Hm1.out.thawed 2;have q3:=Hm1.out.thawed 3;have q4:=Hm1.out.thawed 4;have q5:=Hm1.out.thawed 5;have q6:=Hm1.out.thawed 6;have q7:=Hm1.out.thawed 7;have q8:=Hm1.out.thawed 8;have q9:=Hm1.out.thawed 9;have q10:=Hm1.out.thawed 10;have q11:=Hm1.out.thawed 11;have q12:=Hm1.out.thawed 12;have q13:=Hm1.out.thawed 13;have q14:=Hm1.out.thawed 14;cases ms with
 | true =>
  go_wp2_with (first
   | ((with_reducible refine (Hmay.out _).mono ?_);rintro e w' ⟨rfl,rfl⟩)
   | ((with_reducible refine (Hb1.out _).mono ?_);rintro e w' ⟨rfl,rfl⟩)
   | ((with_reducible refine (Hb2.out _).mono ?_);rintro e w' ⟨rfl,rfl⟩))
  change bodyPost _ _ _ _ _ (rowSt w1 w.heap.size 0 (macCells ⟨bothS all all,bothS first first,tabNone,.nil⟩ none));have HZ:=Lib.hid (macSt_at Hm1.out ⟨bothS all all,bothS first first,tabNone,.nil⟩ none);have Hbz:=Lib.hid (rowSt_below (Nat.le_refl _) (macCells ⟨bothS all all,bothS first first,tabNone,.nil⟩ none) 0 _ Hbel.out);clear o0 o1 o2 o3 o4 o5 o6 o7 o8 o9 o10 o11 o12 o13 o14 q0 q1 q2 q3 q4 q5 q6 q7 q8 q9 q10 q11 q12 q13 q14;generalize rowSt w1 w.heap.size 0 (macCells ⟨bothS all all,bothS first first,tabNone,.nil⟩ none)=w9 at *;obtain ⟨⟨o0,o1,o14⟩,⟨o2,o3,o4⟩,⟨o5,o6,o7⟩,⟨o8,o9,o10⟩,⟨o11,o12,o13⟩⟩:=HZ.out.cells;refine bodyPost_ret (v:=.tuple #[.agg (macCells ⟨bothS all all,bothS first first,tabNone,.nil⟩ none).toArray,.int .i64 0]) (by rw [mac_eta];simp [results,Tryz.results35,go_sem,o0,o1,o2,o3,o4,o5,o6,o7,o8,o9,o10,o11,o12,o13,o14] <;> rfl) rfl ?_;exact ⟨rfl,Hbz.out⟩
 | false =>
  go_wp2_with ((with_reducible refine (Hmay.out _).mono ?_);rintro e w' ⟨rfl,rfl⟩);change bodyPost _ _ _ _ _ (rowSt w1 w.heap.size 0 (macCells macNone none));have HZ:=Lib.hid (macSt_at Hm1.out macNone none);have Hbz:=Lib.hid (rowSt_below (Nat.le_refl _) (macCells macNone none) 0 _ Hbel.out);clear o0 o1 o2 o3 o4 o5 o6 o7 o8 o9 o10 o11 o12 o13 o14 q0 q1 q2 q3 q4 q5 q6 q7 q8 q9 q10 q11 q12 q13 q14;generalize rowSt w1 w.heap.size 0 (macCells macNone none)=w9 at *;obtain ⟨⟨o0,o1,o14⟩,⟨o2,o3,o4⟩,⟨o5,o6,o7⟩,⟨o8,o9,o10⟩,⟨o11,o12,o13⟩⟩:=HZ.out.cells;refine bodyPost_ret (v:=.tuple #[.agg (macCells macNone none).toArray,.int .i64 2]) (by rw [mac_eta];simp [results,Tryz.results35,go_sem,o0,o1,o2,o3,o4,o5,o6,o7,o8,o9,o10,o11,o12,o13,o14] <;> rfl) rfl ?_;exact ⟨rfl,Hbz.out⟩
set_option maxHeartbeats 2000000 in
theorem mall_any (M:MacV) (P:Option Addr) (w:World):Calls Tryz.prog 105 #[macV M P] w fun e w'=>e=.returned (.int .u8 (M.all:Int))∧Below w.heap.size w w':=by
 have hb1:=(Below.refl w.heap.size w).alloc (Nat.le_refl _) (.cells (macCells M P).toArray 38);have hm1:MacAt (w.alloc (.cells (macCells M P).toArray 38)) w.heap.size M P:=heap_alloc_new _ _;unfold macV;go_enter Tryz.func105,Tryz.ntmps105
 go_upto_region 1 with fail;change Code.wp _ _ _ _ (w.alloc (.cells (macCells M P).toArray 38));generalize w.alloc (.cells (macCells M P).toArray 38)=w1 at *;obtain ⟨⟨o0,o1,o14⟩,⟨o2,o3,o4⟩,⟨o5,o6,o7⟩,⟨o8,o9,o10⟩,⟨o11,o12,o13⟩⟩:=hm1.cells;go_wp2_with fail;go_ret;exact ⟨rfl,hb1⟩
set_option maxHeartbeats 2000000 in
theorem mmem_any (M:MacV) (P:Option Addr) (w:World):Calls Tryz.prog 37 #[macV M P] w fun e w'=>e=.returned (.int .u8 (M.mem:Int))∧Below w.heap.size w w':=by
 have hb1:=(Below.refl w.heap.size w).alloc (Nat.le_refl _) (.cells (macCells M P).toArray 38);have hm1:MacAt (w.alloc (.cells (macCells M P).toArray 38)) w.heap.size M P:=heap_alloc_new _ _;unfold macV;go_enter Tryz.func37,Tryz.ntmps37
 go_upto_region 1 with fail;change Code.wp _ _ _ _ (w.alloc (.cells (macCells M P).toArray 38));generalize w.alloc (.cells (macCells M P).toArray 38)=w1 at *;obtain ⟨⟨o0,o1,o14⟩,⟨o2,o3,o4⟩,⟨o5,o6,o7⟩,⟨o8,o9,o10⟩,⟨o11,o12,o13⟩⟩:=hm1.cells;go_wp2_with fail;go_ret;exact ⟨rfl,hb1⟩
set_option maxHeartbeats 2000000 in
theorem mtree_any (M:MacV) (P:Option Addr) (w:World):Calls Tryz.prog 53 #[macV M P] w fun e w'=>e=.returned (.pointer P)∧Below w.heap.size w w':=by
 have hb1:=(Below.refl w.heap.size w).alloc (Nat.le_refl _) (.cells (macCells M P).toArray 38);have hm1:MacAt (w.alloc (.cells (macCells M P).toArray 38)) w.heap.size M P:=heap_alloc_new _ _;unfold macV;go_enter Tryz.func53,Tryz.ntmps53
 go_upto_region 1 with fail;change Code.wp _ _ _ _ (w.alloc (.cells (macCells M P).toArray 38));generalize w.alloc (.cells (macCells M P).toArray 38)=w1 at *;obtain ⟨⟨o0,o1,o14⟩,⟨o2,o3,o4⟩,⟨o5,o6,o7⟩,⟨o8,o9,o10⟩,⟨o11,o12,o13⟩⟩:=hm1.cells;go_wp2_with ((with_reducible refine (tree_any P w1).mono ?_);rintro e w2 ⟨rfl,hb⟩;have Hb:=Lib.hid (hb1.trans (hb.mono hb1.size));clear hb);go_ret;exact ⟨rfl,Hb.out⟩
theorem layMac (ρ:Operand→Value) (x:World) (o:Oper) (h:o.op=.alloc 38):(execOp ρ o).run Tryz.prog x=.ok (.value (RegL.ptr x.heap.size)) (x.alloc (.cells (macCells macNone none).toArray 38 (0,0))):=by
 simp only [execOp,h];go_simp;exact ⟨rfl,rfl⟩
theorem ma_st {y:World} {gm:Nat} {M0:MacV} {P0:Option Addr} (hs:MacAt y gm M0 P0) (M:MacV) (P:Option Addr) :
  MacAt (rowSt y gm 0 (macCells M P)) gm M P∧(∀ b,b≠gm→(rowSt y gm 0 (macCells M P)).heap[b]?=y.heap[b]?)∧(∀ n w0,Below n w0 y→n≤gm→Below n w0 (rowSt y gm 0 (macCells M P)))∧(∀ X,TreeAt y X→TreeAt (rowSt y gm 0 (macCells M P)) X) :=
 ⟨macSt_at hs M P,fun _ h=>rowSt_other h _ _ _,fun _ _ hb h=>rowSt_below h _ _ _ hb,fun _ hX=>TreeAt.row hs (by decide) _ _ hX⟩
theorem store_row {P:Program} {g:Nat} {t:TypeId}:∀ (vs:List Value) (i:Nat) (cur:Array Value) (y:World),y.heap[g]?=some (.cells cur t (0,0))→i+vs.length≤cur.size→(∀ v ∈ vs,v.oneCell'=true) →
  (storeCells ⟨g,0,none⟩ vs i).run P y=.ok () (rowSt y g i vs)
 | [],_,_,_,_,_,_=>rfl
 | v::r,i,cur,y,hg,hl,h1=>by
  have hi:i<cur.size:=by simp at hl;omega
  have hadd:(⟨g,0,none⟩:Addr).add i=⟨g,i,none⟩:=by unfold Addr.add;split <;> simp_all
  have hcell:y.cell? ⟨g,i,none⟩=some cur[i]:=by simp [World.cell?,hg,hi]
  have hfro:y.frozen? ⟨g,i,none⟩=false:=by simp [World.frozen?,hg]
  have hst:(store ((⟨g,0,none⟩:Addr).add i) v).run P y=.ok () (y.setCell ⟨g,i,none⟩ v):=by
   rw [hadd,run_store P y _ v _ (h1 v (by simp)),hcell];simp [hfro]
  have ih:=store_row (P:=P) r (i+1) (cur.setIfInBounds i v) (y.setCell ⟨g,i,none⟩ v) (heap_setCell_same _ _ _ _ _ _ hg) (by simp at hl ⊢; omega) (fun x hx=>h1 x (by simp [hx]));simp only [storeCells,Sem.run_bind,hst,Result.andThen_ok,ih];rfl
theorem mac_store {y:World} {g:Nat} {M0:MacV} {P0:Option Addr} (hs:MacAt y g M0 P0) {M:MacV} {P:Option Addr} {V:Value} (hV:macV M P=V) :
  V.cells.size=15∧(storeCells ⟨g,0,none⟩ V.cells.toList).run Tryz.prog y=.ok () (rowSt y g 0 (macCells M P)):=by
 subst hV;exact ⟨rfl,store_row (macCells M P) 0 _ y hs (Nat.le_refl _) (by simp [macCells,tabCells,lastCells,Value.oneCell'])⟩
def findRO (k:Nat):Code→Option Code
 | .region i o d=>if i=k then some (.region i o d) else none
 | .seq a b=>match findRO k a with
  | some c=>some c
  | none=>findRO k b
 | .loop c=>findRO k c
 | .block _ c=>findRO k c
 | .scope c=>findRO k c
 | .cond _ a b=>match findRO k a with
  | some c=>some c
  | none=>findRO k b
 | _=>none
def findR (k:Nat) (c:Code):Code:=(findRO k c).getD .skip
open Go.ChangeShapes Go.WideShapes Go.Deep Go.RowKit
section
variable {H : Type} {enc : TypeId × Value → H} {P : Program} {w : World} {base : Nat} {spare : Nat → Bool} {held : Bool}
theorem ones_open {α:Type} [Inhabited α] (one:α→Value) {t e:TypeId} {a:Option Addr} {len cap:Nat} {d:DataW H} {pl:List MemPlace} (ht:P.underlying t=some (.slice e)) (hC:P.cellsOf e=1)
  (hx:∀ (v:Value) (y:DataW H × List MemPlace) (n:Nat),DataW.trod enc P w base spare held n e [v]=some y→∃ x:α,v=one x)
  (h:DataW.Trod enc P w base spare held t (.slice a len cap) d pl):∃ z:List α,SliceAt 1 (fun x=>[one x]) w a len z:=by
 obtain ⟨m,hm⟩:=h;rcases open_slice ht hm with ⟨h0,_⟩ | ⟨p,ln,cp,mm,n,D,Pl,hcs,hb,hl,hmx,hmm,_,hi⟩
 ·
  have h0':[Value.slice a len cap]=[Value.slice none 0 0]:=h0;simp only [List.cons.injEq,Value.slice.injEq,and_true] at h0';obtain ⟨rfl,rfl,rfl⟩:=h0';exact ⟨[],rfl,Nat.zero_le _,fun i x hx=>by simp at hx⟩
 ·
  have h0':[Value.slice a len cap]=[Value.slice (some p) ln cp]:=hcs;simp only [List.cons.injEq,Value.slice.injEq,and_true] at h0';obtain ⟨rfl,rfl,rfl⟩:=h0';have hlm:len≤mm:=by rw [hmm];split <;> omega
  obtain ⟨g,hg⟩:=choose_lt (n:=len) (p:=fun i (x:α)=>w.cells? base (p.add (i*1)) 1=some [one x]) (fun i hil=>by
   obtain ⟨cs',h1,h2⟩:=hi i (by omega);rw [hC] at h1;obtain ⟨_,hcl,_⟩:=World.cells?_some h1;match cs',hcl with
   | [v],_ =>
    obtain ⟨x,rfl⟩:=hx v _ _ h2;exact ⟨x,h1⟩)
  refine ⟨(List.range len).map g,by simp,by omega,fun i x hix=>?_⟩;have hil:i<len:=by
   have:=(List.getElem?_eq_some_iff.1 hix).1;simpa using this
  have hgx:g i=x:=by simpa [hil] using hix
  have h1:=hg i hil;rw [hgx] at h1;obtain ⟨_,_,hcell⟩:=World.cells?_some h1;obtain ⟨b,o,sp⟩:=p;have g1:=hg 0 (by omega);obtain ⟨_,_,gcell⟩:=World.cells?_some g1;have h00:=gcell 0 (by omega);simp only [List.getElem?_cons_zero] at h00;have hspot:sp=none:=by simpa [Addr.add] using World.cell?_spot h00
  subst hspot;have hlt:=World.block_lt_of_cell? _ _ h00;refine ⟨b,o,rfl,?_,fun j v hj=>?_⟩
  ·
   simpa [Addr.add] using hlt
  ·
   have hjl:j<1:=by
    have:=(List.getElem?_eq_some_iff.1 hj).1;simpa using this
   have:=hcell j hjl;rw [add_add,hj] at this;rw [← this,add_plain]
end
abbrev U8sAt:=SliceAt 1 (fun x:BitVec 8=>[Value.int .u8 (x.toNat:Int)])
theorem u8s_cell {w:World} {a:Option Addr} {len:Nat} {z:List (BitVec 8)} (h:U8sAt w a len z) {i:Nat} (hi:i<len) :
  ∃ b o,a=some ⟨b,o,none⟩∧b<w.heap.size∧∀ y,Below w.heap.size w y→y.cell? ⟨b,o+i,none⟩=some (.int .u8 ((z.getD i default).toNat:Int)):=by
 have hl:=h.hlen;have hz:z[i]?=some (z.getD i default):=by simp [List.getD,List.getElem?_eq_getElem (show i<z.length by omega)]
 obtain ⟨b,o,h1,h2,h3⟩:=h.cells i _ hz;refine ⟨b,o,h1,h2,fun y hy=>(hy.cell (p:=⟨b,_,none⟩) h2).trans ?_⟩;have:=h3 0 _ rfl;rwa [show o+(i*1+0)=o+i by omega] at this
structure MacOk (M:MacV):Prop where
 all:M.all<256
 kv:KvInv M.sh
def macsDo (M:MacV) (l:List CmdV):MacV:=l.foldl (fun M c=>(macDo M c).m) M
set_option maxHeartbeats 4000000 in
theorem mtable_any (M:MacV) (P:Option Addr) (w:World):Calls Tryz.prog 92 #[macV M P] w fun e w'=>e=.returned (.agg (tabCells M.tab).toArray)∧Below w.heap.size w w':=by
 have hb1:=(Below.refl w.heap.size w).alloc (Nat.le_refl _) (.cells (macCells M P).toArray 38);have hm0:MacAt (w.alloc (.cells (macCells M P).toArray 38)) w.heap.size M P:=heap_alloc_new _ _;have hs1:(w.alloc (.cells (macCells M P).toArray 38)).heap.size=w.heap.size+1:=by simp
 have hm1:=hm0.below ((Below.refl _ _).alloc (Nat.le_refl _) (.cells (tabCells tabNone).toArray 31));have hb2:=hb1.alloc hb1.size (.cells (tabCells tabNone).toArray 31);have hZ:TabAt ((w.alloc (.cells (macCells M P).toArray 38)).alloc (.cells (tabCells tabNone).toArray 31)) (w.heap.size+1) tabNone:=by rw [← hs1];exact heap_alloc_new _ _
 clear hb1 hm0 hs1;unfold macV;go_enter Tryz.func92,Tryz.ntmps92
 go_upto_region 1 with fail;change Code.wp _ _ _ _ ((w.alloc (.cells (macCells M P).toArray 38)).alloc (.cells (tabCells tabNone).toArray 31));generalize (w.alloc (.cells (macCells M P).toArray 38)).alloc (.cells (tabCells tabNone).toArray 31)=w1 at *;obtain ⟨⟨m0,m1,m14⟩,⟨m2,m3,m4⟩,⟨m5,m6,m7⟩,⟨m8,m9,m10⟩,⟨m11,m12,m13⟩⟩:=hm1.cells;obtain ⟨⟨z0,z1,z2⟩,⟨z3,z4,z5⟩,⟨z6,z7,z8⟩,⟨z9,z10,z11⟩⟩:=hZ.cells;have g0:=hZ.thawed 0;have g1:=hZ.thawed 1;have g2:=hZ.thawed 2;have g3:=hZ.thawed 3;have g4:=hZ.thawed 4;have g5:=hZ.thawed 5;have g6:=hZ.thawed 6;have g7:=hZ.thawed 7;have g8:=hZ.thawed 8;have g9:=hZ.thawed 9;have g10:=hZ.thawed 10;have g11:=hZ.thawed 11;have HT5:=Lib.hid (tabSt_at hZ M.tab);have Hb5:=Lib.hid (rowSt_below (g:=w.heap.size+1) (by omega) (tabCells M.tab) 0 _ hb2);clear hm1 hZ hb2;go_wp2_with fail;change bodyPost _ _ _ _ _ (rowSt w1 (w.heap.size+1) 0 (tabCells M.tab));clear m0 m1 m2 m3 m4 m5 m6 m7 m8 m9 m10 m11 m12 m13 m14 z0 z1 z2 z3 z4 z5 z6 z7 z8 z9 z10 z11 g0 g1 g2 g3 g4 g5 g6 g7 g8 g9 g10 g11;generalize rowSt w1 (w.heap.size+1) 0 (tabCells M.tab)=w5 at *;obtain ⟨⟨a0,a1,a2⟩,⟨b0,b1,b2⟩,⟨c0,c1,c2⟩,⟨d0,d1,d2⟩⟩:=HT5.out.cells;refine bodyPost_ret (v:=.agg (tabCells M.tab).toArray) (by rw [tab_eta];simp [results,Tryz.results92,go_sem,a0,a1,a2,b0,b1,b2,c0,c1,c2,d0,d1,d2] <;> rfl) rfl ?_;exact ⟨rfl,Hb5.out⟩
theorem infoLast:(Tryz.prog.info? 29).map (fun i=>i.size)=some 3:=by kernel_rfl
end Go.Proofs.YtbckjgageofldaaGreat
