/- Readers: machine.Of: its four steps. Condition: the reader lies there. -/
import Derived.Laws.EntriesVeiled
import Derived.Test.YtbckjgageofldaaGreatZLearnRefuses12
import Derived.Test.YtbckjgageofldaaGreatZLearnRefuses8
import Derived.Test.YtbckjgageofldaaGreatZLearnRefuses2
import Derived.Test.YtbckjgageofldaaGreatZLearnRefuses5
import Derived.Test.YtbckjgageofldaaGreatZLearnRefuses9
set_option maxRecDepth 100000
namespace Go.Proofs.YtbckjgageofldaaGreat
open Go.RowKit
theorem of_any1 (s:List UInt8) (_:s.length≤maxLen) (w:World) :
  Calls Tryz.prog 87 #[.string ⟨s.toArray⟩] w fun e w'=>e=.returned (.pointer (some ⟨w.heap.size,0,none⟩))∧w'=w.alloc (.cells (rdCells ⟨0,s⟩).toArray 246):=by
 go_enter Tryz.func87,Tryz.ntmps87
 go_wp2_with fail;go_ret;exact ⟨rfl,rfl⟩
structure Off (L:List Nat) (n:Nat) (w w':World):Prop where
 os:w'.os=w.os
 tape:w'.tape=w.tape
 output:w'.output=w.output
 size:w.heap.size≤w'.heap.size
 block:∀ k,k<n→k ∉ L→w'.heap[k]?=w.heap[k]?
theorem Off.refl (L:List Nat) (n:Nat) (w:World):Off L n w w:=⟨rfl,rfl,rfl,Nat.le_refl _,fun _ _ _=>rfl⟩
theorem Off.trans {L:List Nat} {n:Nat} {a b c:World} (h:Off L n a b) (k:Off L n b c):Off L n a c :=
 ⟨k.os.trans h.os,k.tape.trans h.tape,k.output.trans h.output,Nat.le_trans h.size k.size,fun i hi hg=>(k.block i hi hg).trans (h.block i hi hg)⟩
theorem Off.mono {L:List Nat} {n m:Nat} {a b:World} (h:Off L n a b) (hm:m≤n):Off L m a b:=⟨h.os,h.tape,h.output,h.size,fun k hk hg=>h.block k (by omega) hg⟩
theorem But.off {g n:Nat} {a b:World} (h:But g n a b) {L:List Nat} (hg:g ∈ L):Off L n a b:=⟨h.os,h.tape,h.output,h.size,fun k hk hl=>h.block k hk (fun e=>hl (e ▸ hg))⟩
theorem Only.off {g:Nat} {a b:World} (h:Only g a b) (n:Nat) {L:List Nat} (hg:g ∈ L):Off L n a b:=(h.but n).off hg
theorem off_of {n:Nat} {a b:World} (h:Below n a b) (L:List Nat):Off L n a b:=⟨h.os,h.tape,h.output,h.size,fun k hk _=>h.block k hk⟩
theorem Off.below {L:List Nat} {n:Nat} {a b:World} (h:Off L n a b) (hg:∀ g ∈ L,n≤g):Below n a b:=⟨h.os,h.tape,h.output,h.size,fun k hk=>h.block k hk (fun hl=>by have:=hg k hl;omega)⟩
def PartAt (w:World) (g:Nat) (M:MacV) (P:Option Addr):Prop:=w.heap[g]?=some (.cells (macCells M P).toArray 36 (0,0))
theorem treeAt_but {w w':World} {g:Nat} {R:RdV} (hr:RdAt w g R) (ho:But g w.heap.size w w'):∀ {T:Tr},TreeAt w T→TreeAt w' T
 | .nil,_=>trivial
 | .node b _ _ _ _ _,⟨h1,h2,h3⟩=>⟨(ho.block b (Array.getElem?_eq_some_iff.1 h1).1 (by
   rintro rfl;unfold NodeAt at h1;have:=hr.row;rw [h1] at this;simp at this)).trans h1,treeAt_but hr ho h2,treeAt_but hr ho h3⟩
structure PtI (gR g4 g5:Nat) (R:RdV) (M:MacV) (T:Tr) (w:World):Prop where
 rd:RdAt w gR R
 box:w.heap[g4]?=some (.cells #[.pointer (some ⟨gR,0,none⟩)] 180 (0,0))
 p:PartAt w g5 M T.ptr
 tr:TreeAt w T
 sh:T.sh=M.sh
 ne:gR≠g4∧gR≠g5∧g4≠g5
theorem PtI.lt {gR g4 g5:Nat} {R:RdV} {M:MacV} {T:Tr} {w:World} (h:PtI gR g4 g5 R M T w):g4<w.heap.size∧g5<w.heap.size:=⟨(Array.getElem?_eq_some_iff.1 h.box).1,(Array.getElem?_eq_some_iff.1 h.p).1⟩
theorem PtI.get {gR g4 g5:Nat} {R:RdV} {M:MacV} {T:Tr} {w:World} (h:PtI gR g4 g5 R M T w):w.cell? ⟨g4,0,none⟩=some (.pointer (some ⟨gR,0,none⟩)):=cell_of_row _ _ _ _ _ _ h.box
theorem PtI.only {gR g4 g5:Nat} {R R':RdV} {M:MacV} {T:Tr} {w w':World} (h:PtI gR g4 g5 R M T w) (hr:RdAt w' gR R') (ho:But gR w.heap.size w w'):PtI gR g4 g5 R' M T w':=by
 obtain ⟨n1,n2,n3⟩:=h.ne;refine ⟨hr,(ho.block _ h.lt.1 (Ne.symm n1)).trans h.box,(ho.block _ h.lt.2 (Ne.symm n2)).trans h.p,?_,h.sh,h.ne⟩;exact treeAt_but h.rd ho h.tr
theorem PtI.all {gR g4 g5:Nat} {R:RdV} {M:MacV} {T:Tr} {w:World} (h:PtI gR g4 g5 R M T w) (n:Nat):PtI gR g4 g5 R { M with all:=n } T (w.setCell ⟨g5,0,none⟩ (.int .u8 (n:Int))):=by
 obtain ⟨n1,n2,n3⟩:=h.ne;have ho:∀ q,q≠g5→(w.setCell ⟨g5,0,none⟩ (.int .u8 (n:Int))).heap[q]?=w.heap[q]?:=fun q hq=>Below.heap_setCell _ _ _ _ (by exact hq)
 refine ⟨⟨(ho _ n2).trans h.rd.row,h.rd.len⟩,(ho _ n3).trans h.box,?_,TreeAt.setC h.p (by simp [macCells,tabCells,lastCells]) h.tr,h.sh,h.ne⟩;have h1:=h.p;unfold PartAt at *
 rw [heap_setCell_same _ _ _ _ _ _ h1];rfl
theorem PtI.mem {gR g4 g5:Nat} {R:RdV} {M:MacV} {T:Tr} {w:World} (h:PtI gR g4 g5 R M T w) (n:Nat):PtI gR g4 g5 R { M with mem:=n } T (w.setCell ⟨g5,1,none⟩ (.int .u8 (n:Int))):=by
 obtain ⟨n1,n2,n3⟩:=h.ne;have ho:∀ q,q≠g5→(w.setCell ⟨g5,1,none⟩ (.int .u8 (n:Int))).heap[q]?=w.heap[q]?:=fun q hq=>Below.heap_setCell _ _ _ _ (by exact hq)
 refine ⟨⟨(ho _ n2).trans h.rd.row,h.rd.len⟩,(ho _ n3).trans h.box,?_,TreeAt.setC h.p (by simp [macCells,tabCells,lastCells]) h.tr,h.sh,h.ne⟩;have h1:=h.p;unfold PartAt at *
 rw [heap_setCell_same _ _ _ _ _ _ h1];rfl
theorem PartAt.cells {w:World} {g:Nat} {M:MacV} {P:Option Addr} (h:PartAt w g M P):w.cell? ⟨g,0,none⟩=some (.int .u8 (M.all:Int))∧w.cell? ⟨g,1,none⟩=some (.int .u8 (M.mem:Int))∧w.cell? ⟨g,14,none⟩=some (.pointer P) :=
 ⟨cell_of_row _ _ _ _ _ _ h,cell_of_row _ _ _ _ _ _ h,cell_of_row _ _ _ _ _ _ h⟩
theorem PartAt.thawed {w:World} {g:Nat} {M:MacV} {P:Option Addr} (h:PartAt w g M P) (j:Nat):w.frozen? ⟨g,j,none⟩=false:=by
 unfold PartAt at h;simp [World.frozen?,h]
set_option maxHeartbeats 8000000 in
theorem step1_any (gR g4 g5:Nat) (R:RdV) (M:MacV) (T:Tr) (w:World) (h:PtI gR g4 g5 R M T w) :
  Calls Tryz.prog 111 #[.pointer (some ⟨g4,0,none⟩),.pointer (some ⟨g5,0,none⟩)] w fun e w'=>e=.returned (.tuple #[])∧PtI gR g4 g5 R.byte.2 { M with all:=R.byte.1.toNat } T w'∧Off [gR,g5] w.heap.size w w':=by
 have Hb:=Lib.hid (byte_any R gR w h.rd);have f0:=h.get;have H:=Lib.hid h;clear h
 go_enter Tryz.func111,Tryz.ntmps111
 go_wp2_with ((with_reducible refine Hb.out.mono ?_);rintro e w2 ⟨rfl,h2⟩;have H2:=Lib.hid (H.out.only h2.1 (h2.2.but _));have HO:=Lib.hid h2.2;clear h2 Hb f0;obtain ⟨p0,p1,p14⟩:=H2.out.p.cells;have q0:=H2.out.p.thawed 0);refine bodyPost_end (results_none rfl _ _ _) rfl ?_;exact ⟨rfl,H2.out.all _,(HO.out.off _ (by simp)).trans ((Only.set g5 0 w2 _).off _ (by simp))⟩
set_option maxHeartbeats 8000000 in
theorem step2_any (gR g4 g5:Nat) (R:RdV) (M:MacV) (T:Tr) (w:World) (h:PtI gR g4 g5 R M T w) :
  Calls Tryz.prog 112 #[.pointer (some ⟨g4,0,none⟩),.pointer (some ⟨g5,0,none⟩)] w fun e w'=>e=.returned (.tuple #[])∧PtI gR g4 g5 R.byte.2 { M with mem:=R.byte.1.toNat } T w'∧Off [gR,g5] w.heap.size w w':=by
 have Hb:=Lib.hid (byte_any R gR w h.rd);have f0:=h.get;have H:=Lib.hid h;clear h
 go_enter Tryz.func112,Tryz.ntmps112
 go_wp2_with ((with_reducible refine Hb.out.mono ?_);rintro e w2 ⟨rfl,h2⟩;have H2:=Lib.hid (H.out.only h2.1 (h2.2.but _));have HO:=Lib.hid h2.2;clear h2 Hb f0;obtain ⟨p0,p1,p14⟩:=H2.out.p.cells;have q0:=H2.out.p.thawed 1);refine bodyPost_end (results_none rfl _ _ _) rfl ?_;exact ⟨rfl,H2.out.mem _,(HO.out.off _ (by simp)).trans ((Only.set g5 1 w2 _).off _ (by simp))⟩
theorem PartAt.tabs {w:World} {g:Nat} {M:MacV} {P:Option Addr} (h:PartAt w g M P):w.cell? ⟨g,2,none⟩=some (.int .u32 (M.tab.a.seq.toNat:Int))∧w.cell? ⟨g,3,none⟩=some (.int .u8 (M.tab.a.code:Int))∧w.cell? ⟨g,4,none⟩=some (.string M.tab.a.text)∧w.cell? ⟨g,5,none⟩=some (.int .u32 (M.tab.b.seq.toNat:Int))∧w.cell? ⟨g,6,none⟩=some (.int .u8 (M.tab.b.code:Int))∧w.cell? ⟨g,7,none⟩=some (.string M.tab.b.text)∧w.cell? ⟨g,8,none⟩=some (.int .u32 (M.tab.c.seq.toNat:Int))∧w.cell? ⟨g,9,none⟩=some (.int .u8 (M.tab.c.code:Int))∧w.cell? ⟨g,10,none⟩=some (.string M.tab.c.text)∧w.cell? ⟨g,11,none⟩=some (.int .u32 (M.tab.d.seq.toNat:Int))∧w.cell? ⟨g,12,none⟩=some (.int .u8 (M.tab.d.code:Int))∧w.cell? ⟨g,13,none⟩=some (.string M.tab.d.text) :=
 ⟨cell_of_row _ _ _ _ _ _ h,cell_of_row _ _ _ _ _ _ h,cell_of_row _ _ _ _ _ _ h,cell_of_row _ _ _ _ _ _ h,cell_of_row _ _ _ _ _ _ h,cell_of_row _ _ _ _ _ _ h,cell_of_row _ _ _ _ _ _ h,cell_of_row _ _ _ _ _ _ h,cell_of_row _ _ _ _ _ _ h,cell_of_row _ _ _ _ _ _ h,cell_of_row _ _ _ _ _ _ h,cell_of_row _ _ _ _ _ _ h⟩
theorem rowSt_mid2 {g:Nat} {t:TypeId} (vs pre old post:List Value) (y:World) (h:y.heap[g]?=some (.cells (pre++(old++post)).toArray t (0,0))) (hl:old.length=vs.length):(rowSt y g pre.length vs).heap[g]?=some (.cells (pre++(vs++post)).toArray t (0,0)):=by
 induction vs generalizing pre old y with
 | nil =>
  have:old=[]:=List.length_eq_zero_iff.1 hl;subst this;exact h
 | cons v r ih =>
  match old,hl with
  | o::os,hl =>
   have h1:(y.setCell ⟨g,pre.length,none⟩ v).heap[g]?=some (.cells ((pre++[v])++(os++post)).toArray t (0,0)):=by
    rw [heap_setCell_same _ _ _ _ _ _ h];simp
   have h2:=ih (pre++[v]) os _ h1 (by simpa using hl);rw [List.length_append] at h2;simp only [List.append_assoc,List.singleton_append] at h2;exact h2
theorem PtI.tab {gR g4 g5:Nat} {R:RdV} {M:MacV} {T:Tr} {w:World} (h:PtI gR g4 g5 R M T w) (t:TabV):PtI gR g4 g5 R { M with tab:=t } T (rowSt w g5 2 (tabCells t)):=by
 obtain ⟨n1,n2,n3⟩:=h.ne;exact ⟨⟨(rowSt_other n2 _ _ _).trans h.rd.row,h.rd.len⟩,(rowSt_other n3 _ _ _).trans h.box,rowSt_mid2 (tabCells t) [.int .u8 (M.all:Int),.int .u8 (M.mem:Int)] (tabCells M.tab) [.pointer T.ptr] w h.p rfl,TreeAt.row h.p (by decide) _ _ h.tr,h.sh,h.ne⟩
set_option maxHeartbeats 8000000 in
theorem step3_any (gR g4 g5:Nat) (R:RdV) (M:MacV) (T:Tr) (w:World) (h:PtI gR g4 g5 R M T w) :
  Calls Tryz.prog 113 #[.pointer (some ⟨g4,0,none⟩),.pointer (some ⟨g5,0,none⟩)] w fun e w'=>e=.returned (.tuple #[])∧PtI gR g4 g5 R.tab.2 { M with tab:=R.tab.1 } T w'∧Off [gR,g5] w.heap.size w w':=by
 have hb:=take12_any R gR w h.rd;rw [tab_eta] at hb;have Hb:=Lib.hid hb;clear hb
 have f0:=h.get;have H:=Lib.hid h;clear h
 generalize R.tab=X at *;obtain ⟨t,R2⟩:=X;simp only at Hb ⊢;go_enter Tryz.func113,Tryz.ntmps113
 go_wp2_with ((with_reducible refine Hb.out.mono ?_);rintro e w2 ⟨rfl,h2⟩;have H2:=Lib.hid (H.out.only h2.1 h2.2);have HO:=Lib.hid h2.2;clear h2 Hb f0;obtain ⟨p2,p3,p4,p5,p6,p7,p8,p9,p10,p11,p12,p13⟩:=H2.out.p.tabs;have q2:=H2.out.p.thawed 2;have q3:=H2.out.p.thawed 3;have q4:=H2.out.p.thawed 4;have q5:=H2.out.p.thawed 5;have q6:=H2.out.p.thawed 6;have q7:=H2.out.p.thawed 7;have q8:=H2.out.p.thawed 8;have q9:=H2.out.p.thawed 9;have q10:=H2.out.p.thawed 10;have q11:=H2.out.p.thawed 11;have q12:=H2.out.p.thawed 12;have q13:=H2.out.p.thawed 13);refine bodyPost_end (results_none rfl _ _ _) rfl ?_;change _∧PtI _ _ _ _ _ _ (rowSt w2 g5 2 (tabCells t))∧Off _ _ _ (rowSt w2 g5 2 (tabCells t));exact ⟨rfl,H2.out.tab t,(HO.out.off (by simp)).trans ⟨(rowSt_below (Nat.zero_le _) (tabCells t) 2 _ (Below.refl 0 w2)).os,(rowSt_below (Nat.zero_le _) (tabCells t) 2 _ (Below.refl 0 w2)).tape,(rowSt_below (Nat.zero_le _) (tabCells t) 2 _ (Below.refl 0 w2)).output,(rowSt_below (Nat.zero_le _) (tabCells t) 2 _ (Below.refl 0 w2)).size,fun k _ hk=>rowSt_other (fun e=>hk (by simp [e])) _ _ _⟩⟩
set_option maxHeartbeats 4000000 in
theorem kvof_any (P:Option Addr) (w:World):Calls Tryz.prog 116 #[.pointer P] w fun e w'=>e=.returned (.agg #[.pointer P])∧Below w.heap.size w w':=by
 have hb:=(Below.refl w.heap.size w).alloc (Nat.le_refl _) (.cells #[.pointer P] 34);have h0:=heap_alloc_new w (.cells #[.pointer P] 34);go_enter Tryz.func116,Tryz.ntmps116
 go_wp2_with fail;generalize w.alloc (.cells #[.pointer P] 34)=w1 at *;have c0:w1.cell? ⟨w.heap.size,0,none⟩=some (.pointer P):=cell_of_row _ _ _ _ _ _ h0;refine bodyPost_ret (v:=.agg #[.pointer P]) (by simp [results,Tryz.results116,go_sem,c0] <;> rfl) rfl ?_;exact ⟨rfl,hb⟩
theorem PtI.keys {gR g4 g5:Nat} {R:RdV} {M:MacV} {T:Tr} {w:World} (h:PtI gR g4 g5 R M T w) (X:Tr) (S:Sh) (hX:TreeAt w X) (hs:X.sh=S):PtI gR g4 g5 R { M with sh:=S } X (w.setCell ⟨g5,14,none⟩ (.pointer X.ptr)):=by
 obtain ⟨n1,n2,n3⟩:=h.ne;have ho:∀ q,q≠g5→(w.setCell ⟨g5,14,none⟩ (.pointer X.ptr)).heap[q]?=w.heap[q]?:=fun q hq=>Below.heap_setCell _ _ _ _ (by exact hq)
 refine ⟨⟨(ho _ n2).trans h.rd.row,h.rd.len⟩,(ho _ n3).trans h.box,?_,TreeAt.setC h.p (by simp [macCells,tabCells,lastCells]) hX,hs,h.ne⟩;have h1:=h.p;unfold PartAt at *
 rw [heap_setCell_same _ _ _ _ _ _ h1];rfl
set_option maxHeartbeats 8000000 in
theorem step4_any (gR g4 g5:Nat) (R:RdV) (M:MacV) (T:Tr) (w:World) (h:PtI gR g4 g5 R M T w) :
  Calls Tryz.prog 115 #[.pointer (some ⟨g4,0,none⟩),.pointer (some ⟨g5,0,none⟩)] w fun e w'=>∃ X,e=.returned (.tuple #[])∧PtI gR g4 g5 R.keys.2 { M with sh:=R.keys.1 } X w'∧Off [gR,g5] w.heap.size w w':=by
 have Hb:=Lib.hid (takeKeys_any R gR w h.rd);have Hk:=Lib.hid (fun (P:Option Addr) (y:World)=>kvof_any P y);have f0:=h.get;have H:=Lib.hid h;clear h
 go_enter Tryz.func115,Tryz.ntmps115
 go_wp2_with (first
  | ((with_reducible refine Hb.out.mono ?_);rintro e w2 ⟨X,rfl,hX,hs,hr,ho⟩;have H2:=Lib.hid (H.out.only hr ho);have HO:=Lib.hid ho;have HX:=Lib.hid (And.intro hX hs);clear hX hs hr ho Hb f0)
  | ((with_reducible refine (Hk.out _ _).mono ?_);rintro e w3 ⟨rfl,hb3⟩;have H3:=Lib.hid (H2.out.only (H2.out.rd.below hb3) (but_of hb3 gR));have HX3:=Lib.hid (And.intro (HX.out.1.below hb3) HX.out.2);have HO3:=Lib.hid ((HO.out.off (L:=[gR,g5]) (by simp)).trans ((off_of hb3 [gR,g5]).mono HO.out.size));clear hb3;have p14:=H3.out.p.cells.2.2;have q14:=H3.out.p.thawed 14))
 refine bodyPost_end (results_none rfl _ _ _) rfl ?_;exact ⟨X,rfl,H3.out.keys X _ HX3.out.1 HX3.out.2,HO3.out.trans ((Only.set g5 14 w3 _).off _ (by simp))⟩
end Go.Proofs.YtbckjgageofldaaGreat
namespace Go.Proofs.YtbckjgageofldaaGreat.RegJ
open Go RegK
inductive Plan where
 | nil:Plan
 | step (k e:Nat) (r:Plan):Plan
 | fork (k:Nat) (r:Plan) (j:Nat) (s:Plan):Plan
inductive PlanO where
 | nil:PlanO
 | bad:PlanO
 | step (o:Oper) (e:Nat) (r:PlanO):PlanO
 | fork (o:Oper) (r:PlanO) (u:Oper) (s:PlanO):PlanO
def Plan.len:Plan→Nat
 | .nil=>0
 | .step _ _ r=>r.len+1
 | .fork _ r _ _=>r.len+1
def pickJ (l:List Oper):Plan→PlanO
 | .nil=>.nil
 | .step k e r=>match l[k]? with | some o=>.step o e (pickJ l r) | none=>.bad
 | .fork k r j s=>match l[k]?,l[j]? with | some o,some u=>.fork o (pickJ l r) u (pickJ l s) | _,_=>.bad
section
variable {F : Fence} {n : Nat} {P : Program} {ops : Array Oper} {Q : Exit → Act → World → Prop} {md : Region.Mode}
def canJ (F:Fence) (n:Nat) (P:Program) (ops:Array Oper) (Q:Exit→Act→World→Prop):PlanO→(World→Prop)→Act→World→Prop
 | .nil,_,a,w=>Q .normal a w
 | .bad,_,_,_=>False
 | .step o 0 r,R,a,w =>
  if Region.wanted o (yielded ops a.tmps) then ∃ v,(∀ x,R x→(execOp a.eval o).run P x=.ok (.value v) x)∧canJ F n P ops Q r R (a.put o.dst v) w
  else canJ F n P ops Q r R (a.put o.dst undef) w
 | .step o (_+1) r,R,a,w =>
  if Region.wanted o (yielded ops a.tmps) then o.wpIn F n P a w (fun a' w'=>∃ R':World→Prop,(∀ x,R' x→R x)∧R' w'∧canJ F n P ops Q r R' a' w') Q
  else (∀ f,o.about P w a.eval=some f→F.fn f)∧canJ F n P ops Q r R (a.put o.dst undef) w
 | .fork o r u s,R,a,w =>
  (if Region.wanted o (yielded ops a.tmps) then o.wpIn F n P a w (fun a' w'=>∃ R':World→Prop,(∀ x,R' x→R x)∧R' w'∧canJ F n P ops Q r R' a' w') Q
   else (∀ f,o.about P w a.eval=some f→F.fn f)∧canJ F n P ops Q r R (a.put o.dst undef) w) ∧
  (if Region.wanted u (yielded ops a.tmps) then u.wpIn F n P a w (fun a' w'=>∃ R':World→Prop,(∀ x,R' x→R x)∧R' w'∧canJ F n P ops Q s R' a' w') Q
   else (∀ f,u.about P w a.eval=some f→F.fn f)∧canJ F n P ops Q s R (a.put u.dst undef) w)
def canJB (md:Region.Mode) (ops:Array Oper):Plan→Array Bool→Bool
 | .nil,listed=>(Region.ready md ops listed).isEmpty
 | .step k 0 r,listed=>decide (k<ops.size) && (Region.ready md ops listed).contains k && Region.free md ops listed k && (match ops[k]? with | some o=>noCall o | none=>false) && canJB md ops r (listed.setIfInBounds k true)
 | .step k (_+1) r,listed=>decide (k<ops.size) && Region.ready md ops listed == [k] && canJB md ops r (listed.setIfInBounds k true)
 | .fork k r j s,listed=>decide (k<ops.size) && decide (j<ops.size) && Region.ready md ops listed == [k,j] && r.len == s.len && canJB md ops r (listed.setIfInBounds k true) && canJB md ops s (listed.setIfInBounds j true)
theorem any_canJ (hro:∀ o ∈ ops,noDefer o=true) (hs:Region.noSelect ops=true) (hQ:∀ c a d v w,Q (.panic c) (Act.put a d v) w→Q (.panic c) a w):∀ (r:Plan) (listed:Array Bool) (R:World→Prop) (a:Act) (w:World),
  listed.size=ops.size→Closed md ops listed→canJB md ops r listed=true→R w→canJ F n P ops Q (pickJ ops.toList r) R a w→anyR (fun _=>false) F n P md ops Q r.len listed R a w
 | .nil,_,_,_,_,_,_,hB,_,h=>⟨by simpa [canJB] using hB,h⟩
 | .step k 0 r,listed,R,a,w,hsz,hcl,hB,hR,h=>by
  simp only [canJB,Bool.and_eq_true,decide_eq_true_eq] at hB;obtain ⟨⟨⟨⟨hk,hr⟩,hf⟩,hc⟩,hB'⟩:=hB;have h0:ops[k]?=some ops[k]:=Array.getElem?_eq_getElem hk;have h0':ops.toList[k]?=some ops[k]:=by simp [hk]
  simp only [h0] at hc;have hsz':(listed.setIfInBounds k true).size=ops.size:=by simpa using hsz
  have hcl':=hcl.set (i:=k) (by simpa using hr);simp only [pickJ,h0',canJ] at h;have hbs:∀ j,listed.getD j true=false→j≠k→(fun _=>false) j=true→k ∈ back md ops ops.size (onsOf md ops j):=fun j _ _ h3=>by cases h3
  by_cases hw:Region.wanted ops[k] (yielded ops a.tmps)=true
  ·
   simp only [hw,if_true] at h;obtain ⟨v,hv,hK⟩:=h;exact first hro h0 hc (Region.noSelect_spec hs) (fun c a w=>hQ c a _ _ w) r.len listed R a w (Region.free_spec h0 hf) hbs hcl (by simpa using hr) hR (.inl ⟨hw,hv⟩) (any_canJ hro hs hQ r _ R _ w hsz' hcl' hB' hR hK)
  ·
   simp only [hw] at h;exact first hro h0 hc (Region.noSelect_spec hs) (fun c a w=>hQ c a _ _ w) r.len listed R a w (Region.free_spec h0 hf) hbs hcl (by simpa using hr) hR (.inr ⟨by simpa using hw,rfl⟩) (any_canJ hro hs hQ r _ R _ w hsz' hcl' hB' hR h)
 | .step k (m+1) r,listed,R,a,w,hsz,hcl,hB,hR,h=>by
  simp only [canJB,Bool.and_eq_true,beq_iff_eq,decide_eq_true_eq] at hB;obtain ⟨⟨hk,hr⟩,hB'⟩:=hB;have h0:ops[k]?=some ops[k]:=Array.getElem?_eq_getElem hk;have h0':ops.toList[k]?=some ops[k]:=by simp [hk]
  have hsz':(listed.setIfInBounds k true).size=ops.size:=by simpa using hsz
  have hcl':=hcl.set (i:=k) (by rw [hr];simp);simp only [pickJ,h0',canJ] at h;refine ⟨fun h=>(by rw [hr] at h;cases h),fun j hj=>?_⟩;rw [hr] at hj;obtain rfl:j=k:=by simpa using hj
  unfold wpOpIn;simp only [h0];by_cases hw:Region.wanted ops[j] (yielded ops a.tmps)=true
  ·
   simp only [hw,if_true] at h ⊢;exact Oper.wpIn_mono (fun a' w' ⟨R',g0,g1,g2⟩=>⟨R',g1,.inr g0,any_canJ hro hs hQ r _ R' a' w' hsz' hcl' hB' g1 g2⟩) h
  ·
   simp only [hw] at h ⊢;exact ⟨h.1,R,hR,.inr fun _ h=>h,any_canJ hro hs hQ r _ R _ w hsz' hcl' hB' hR h.2⟩
 | .fork k r j s,listed,R,a,w,hsz,hcl,hB,hR,h=>by
  simp only [canJB,Bool.and_eq_true,beq_iff_eq,decide_eq_true_eq] at hB;obtain ⟨⟨⟨⟨⟨hk,hj⟩,hr⟩,hlen⟩,hB1⟩,hB2⟩:=hB;have h0:ops[k]?=some ops[k]:=Array.getElem?_eq_getElem hk;have h0':ops.toList[k]?=some ops[k]:=by simp [hk]
  have g0:ops[j]?=some ops[j]:=Array.getElem?_eq_getElem hj;have g0':ops.toList[j]?=some ops[j]:=by simp [hj]
  have hcl1:=hcl.set (i:=k) (by rw [hr];simp);have hcl2:=hcl.set (i:=j) (by rw [hr];simp);simp only [pickJ,h0',g0',canJ] at h;obtain ⟨h1,h2⟩:=h;refine ⟨fun h=>(by rw [hr] at h;cases h),fun i hi=>?_⟩;rw [hr] at hi;have hi':i=k∨i=j:=by simpa using hi
  rcases hi' with rfl | rfl
  ·
   unfold wpOpIn;simp only [h0];by_cases hw:Region.wanted ops[i] (yielded ops a.tmps)=true
   ·
    simp only [hw,if_true] at h1 ⊢;exact Oper.wpIn_mono (fun a' w' ⟨R',g0,g1,g2⟩=>⟨R',g1,.inr g0,any_canJ hro hs hQ r _ R' a' w' (by simpa using hsz) hcl1 hB1 g1 g2⟩) h1
   ·
    simp only [hw] at h1 ⊢;exact ⟨h1.1,R,hR,.inr fun _ h=>h,any_canJ hro hs hQ r _ R _ w (by simpa using hsz) hcl1 hB1 hR h1.2⟩
  ·
   unfold wpOpIn;simp only [g0];by_cases hw:Region.wanted ops[i] (yielded ops a.tmps)=true
   ·
    simp only [hw,if_true] at h2 ⊢;exact Oper.wpIn_mono (fun a' w' ⟨R',g0,g1,g2⟩=>⟨R',g1,.inr g0,by
     have:=any_canJ hro hs hQ s _ R' a' w' (by simpa using hsz) hcl2 hB2 g1 g2;show anyR (fun _=>false) F n P md ops Q r.len _ _ _ _;rw [hlen];exact this⟩) h2
   ·
    simp only [hw] at h2 ⊢;exact ⟨h2.1,R,hR,.inr fun _ h=>h,by
     have:=any_canJ hro hs hQ s _ R _ w (by simpa using hsz) hcl2 hB2 hR h2.2;show anyR (fun _=>false) F n P md ops Q r.len _ _ _ _;rw [hlen];exact this⟩
structure Can (F:Fence) (n:Nat) (P:Program) (ops:Array Oper) (Q:Exit→Act→World→Prop) (l:PlanO) (R:World→Prop) (a:Act) (w:World):Prop where
 out:canJ F n P ops Q l R a w
theorem wpIn_region_plan (R:World→Prop) (π:Plan) {id:Nat} {a:Act} {w:World} {l:List Oper} (hro:l.all noDefer=true) (hm:P.follows .mixedOrders=true)
  (hB:(Region.noSelect l.toArray && canJB .any l.toArray π (Array.replicate l.length false) && (π.len == l.length))=true)
  (hQ:∀ c a d v w,Q (.panic c) (Act.put a d v) w→Q (.panic c) a w) (hR:R { w with drawn:=w.drawn+1 })
  (h:Can F n P l.toArray Q (pickJ l π) R a { w with drawn:=w.drawn+1 }):(Code.region id l.toArray true).wpIn F n P Q a w:=by
 simp only [Bool.and_eq_true,beq_iff_eq] at hB;obtain ⟨⟨h1,h2⟩,h4⟩:=hB;refine wpIn_region_any hm (any_of (bar:=fun _=>false) _ _ R _ _ ?_);have:=any_canJ (F:=F) (n:=n) (P:=P) (ops:=l.toArray) (md:=.any) (Q:=Q) (fun o ho=>List.all_eq_true.1 hro o (by simpa using ho)) h1 hQ π (Array.replicate l.length false) R a _ (by simp) (Closed.none _) h2 hR (by simpa using h.out);simpa [h4] using this
theorem reads {R:World→Prop} {a:Act} {w:World} {o:Oper} {r:PlanO}
  (h:∀ K:Act→Prop,(∀ a,Can F n P ops Q r R a w→K a)→if Region.wanted o (yielded ops a.tmps) then ∃ v,(∀ x,R x→(execOp a.eval o).run P x=.ok (.value v) x)∧K (a.put o.dst v) else K (a.put o.dst undef)) :
  Can F n P ops Q (.step o 0 r) R a w:=⟨h _ (fun _ h=>h.out)⟩
theorem turns (hfn:∀ f,F.fn f) {R:World→Prop} {a:Act} {w:World} {o:Oper} {r:PlanO}
  (h:∀ (K:Act→World→Prop) (K0:Act→Prop),(∀ (R':World→Prop) a w,(∀ x,R' x→R x)→R' w→Can F n P ops Q r R' a w→K a w)→(∀ a,Can F n P ops Q r R a w→K0 a) →
   if Region.wanted o (yielded ops a.tmps) then o.wpIn F n P a w K Q else K0 (a.put o.dst undef)) :
  Can F n P ops Q (.step o 1 r) R a w:=by
 have h':=h (fun a' w'=>∃ R':World→Prop,(∀ x,R' x→R x)∧R' w'∧canJ F n P ops Q r R' a' w') (fun a=>canJ F n P ops Q r R a w) (fun R' _ _ h0 h1 h2=>⟨R',h0,h1,h2.out⟩) (fun _ h=>h.out);refine ⟨?_⟩;simp only [canJ];split
 ·
  rename_i hw;rw [if_pos hw] at h';exact h'
 ·
  rename_i hw;rw [if_neg hw] at h';exact ⟨fun f _=>hfn f,h'⟩
theorem forks {R:World→Prop} {a:Act} {w:World} {o u:Oper} {r s:PlanO} (h1:Can F n P ops Q (.step o 1 r) R a w) (h2:Can F n P ops Q (.step u 1 s) R a w):Can F n P ops Q (.fork o r u s) R a w:=⟨⟨h1.out,h2.out⟩⟩
theorem nil {R:World→Prop} {a:Act} {w:World} (h:Q .normal a w):Can F n P ops Q .nil R a w:=⟨h⟩
end
end Go.Proofs.YtbckjgageofldaaGreat.RegJ
namespace Go.Proofs.YtbckjgageofldaaGreat
open Go.RowKit
def setsOk (M:MacV):Bool:=mayS M.mem M.all && decide (M.all=bothS M.all M.all) && decide (M.mem=bothS M.mem M.mem)
theorem both_bel (x y:Nat) (hx:x<256) (hy:y<256) (w:World):Calls Tryz.prog 74 #[.int .u8 (x:Int),.int .u8 (y:Int)] w fun e w'=>e=.returned (.int .u8 (bothS x y:Int))∧Below w.heap.size w w' :=
 (both_any x y hx hy w).mono fun e w' h=>⟨h.1,by rw [← h.2];exact Below.refl _ _⟩
theorem mayS_bel (x y:Nat) (hx:x<256) (hy:y<256) (w:World):Calls Tryz.prog 73 #[.int .u8 (x:Int),.int .u8 (y:Int)] w fun e w'=>e=.returned (.bool (mayS x y))∧Below w.heap.size w w' :=
 (mayS_any x y hx hy w).mono fun e w' h=>⟨h.1,by rw [← h.2];exact Below.refl _ _⟩
set_option maxHeartbeats 8000000 in
theorem sets_any (M:MacV) (P:Option Addr) (w:World) (ha:M.all<256) (hm:M.mem<256) :
  Calls Tryz.prog 118 #[.agg (macCells M P).toArray] w fun e w'=>e=.returned (.bool (setsOk M))∧Below w.heap.size w w':=by
 have hb1:=(Below.refl w.heap.size w).alloc (Nat.le_refl _) (.cells (macCells M P).toArray 36);have hp1:PartAt (w.alloc (.cells (macCells M P).toArray 36)) w.heap.size M P:=heap_alloc_new _ _;obtain ⟨ok,hok⟩:∃ b,setsOk M=b:=⟨_,rfl⟩;have hok0:=hok;rw [hok];unfold setsOk at hok0;have Hm:=Lib.hid (fun y:World=>mayS_bel M.mem M.all hm ha y);have H1:=Lib.hid (fun y:World=>both_bel M.all M.all ha ha y);have H2:=Lib.hid (fun y:World=>both_bel M.mem M.mem hm hm y);generalize mayS M.mem M.all=b1 at *;generalize bothS M.all M.all=q1 at *;generalize bothS M.mem M.mem=q2 at *;have e1:((M.all:Int) == (q1:Int))=decide (M.all=q1):=by
  by_cases h:M.all=q1
  ·
   simp [h]
  ·
   simp [h];omega
 have e2:((M.mem:Int) == (q2:Int))=decide (M.mem=q2):=by
  by_cases h:M.mem=q2
  ·
   simp [h]
  ·
   simp [h];omega
 generalize decide (M.all=q1)=b2 at *;generalize decide (M.mem=q2)=b3 at *;have Hok:=Lib.hid hok0;clear hok0 hok
 rw [mac_eta];go_enter Tryz.func118,Tryz.ntmps118
 go_upto_region 1 with fail;change Code.wp _ _ _ _ (w.alloc (.cells (macCells M P).toArray 36));generalize w.alloc (.cells (macCells M P).toArray 36)=w1 at *;have Hp1:=Lib.hid hp1;clear hp1
 have Hb1:=Lib.hid hb1;clear hb1
 cases b1 with
 | false =>
  refine (wpIn_wide (n:=1)).1 ?_;refine RegJ.wpIn_region_plan (F:=Fence.wide) (KeptW w1) (.step 0 0 (.step 1 0 (.step 2 0 (.step 3 0 (.step 4 1 (.step 5 0 (.step 6 0 (.step 7 0 (.step 8 0 (.step 9 0 (.step 10 0 (.step 11 0 (.step 12 1 (.step 13 0 (.step 14 0 (.step 15 0 (.step 16 0 (.step 17 0 (.step 18 0 (.step 19 0 (.step 20 0 (.step 21 0 (.step 22 1 (.step 23 0 (.step 24 0 (.step 25 0 .nil)))))))))))))))))))))))))) (by kernel_rfl) (by kernel_rfl) (by kernel_rfl) (fun _ _ d _ _ h=>by cases d <;> exact h) ⟨rfl,rfl,rfl,Nat.le_refl _,fun _ _=>rfl⟩ ?_;dsimp only [RegJ.pickJ,List.getElem?_cons_zero,List.getElem?_cons_succ];change RegJ.Can _ _ _ _ _ _ _ _ w1.drew;have hkd:KeptW w1 w1.drew:=⟨rfl,rfl,rfl,Nat.le_refl _,fun _ _=>rfl⟩;generalize w1.drew=v1 at *;refine RegJ.reads ?_;intro K hK;go_simp;(first | refine ⟨_,fun _ _=>rfl,hK _ ?_⟩ | refine hK _ ?_);clear hK K
  refine RegJ.reads ?_;intro K hK;go_simp;refine ⟨.int .u8 (M.mem:Int),fun y hy=>?_,hK _ ?_⟩
  ·
   obtain ⟨f0,f1,f14⟩:=(show PartAt y w.heap.size M P from ((KeptW.bel hy).block _ (Array.getElem?_eq_some_iff.1 Hp1.out).1).trans Hp1.out).cells;go_simp
  clear hK K;refine RegJ.reads ?_;intro K hK;go_simp;(first | refine ⟨_,fun _ _=>rfl,hK _ ?_⟩ | refine hK _ ?_);clear hK K
  refine RegJ.reads ?_;intro K hK;go_simp;refine ⟨.int .u8 (M.all:Int),fun y hy=>?_,hK _ ?_⟩
  ·
   obtain ⟨f0,f1,f14⟩:=(show PartAt y w.heap.size M P from ((KeptW.bel hy).block _ (Array.getElem?_eq_some_iff.1 Hp1.out).1).trans Hp1.out).cells;go_simp
  clear hK K;refine RegJ.turns (fun _=>trivial) ?_;intro K K0 hK hK0;go_simp;refine ⟨trivial,?_⟩;refine (callsIn_wide.2 (Hm.out v1)).mono ?_;rintro e v2 ⟨rfl,hb7⟩;have v2k:KeptW w1 v2:=KeptW.mono hkd hb7;refine hK _ _ _ (fun _ h=>h) v2k ?_;clear hK K hK0 K0;iterate 2 (refine RegJ.reads ?_;intro K hK;go_simp;(first | refine ⟨_,fun _ _=>rfl,hK _ ?_⟩ | refine hK _ ?_);clear hK K)
  (refine RegJ.reads ?_;intro K hK;go_simp;refine hK _ ?_;clear hK K)
  refine RegJ.reads ?_;intro K hK;go_simp;(first | refine ⟨_,fun _ _=>rfl,hK _ ?_⟩ | refine hK _ ?_);clear hK K
  (refine RegJ.reads ?_;intro K hK;go_simp;refine hK _ ?_;clear hK K)
  refine RegJ.reads ?_;intro K hK;go_simp;(first | refine ⟨_,fun _ _=>rfl,hK _ ?_⟩ | refine hK _ ?_);clear hK K
  (refine RegJ.reads ?_;intro K hK;go_simp;refine hK _ ?_;clear hK K)
  (refine RegJ.turns (fun _=>trivial) ?_;intro K K0 hK hK0;go_simp;refine hK0 _ ?_;clear hK K hK0 K0)
  iterate 4 (refine RegJ.reads ?_;intro K hK;go_simp;(first | refine ⟨_,fun _ _=>rfl,hK _ ?_⟩ | refine hK _ ?_);clear hK K)
  (refine RegJ.reads ?_;intro K hK;go_simp;refine hK _ ?_;clear hK K)
  refine RegJ.reads ?_;intro K hK;go_simp;(first | refine ⟨_,fun _ _=>rfl,hK _ ?_⟩ | refine hK _ ?_);clear hK K
  (refine RegJ.reads ?_;intro K hK;go_simp;refine hK _ ?_;clear hK K)
  refine RegJ.reads ?_;intro K hK;go_simp;(first | refine ⟨_,fun _ _=>rfl,hK _ ?_⟩ | refine hK _ ?_);clear hK K
  (refine RegJ.reads ?_;intro K hK;go_simp;refine hK _ ?_;clear hK K)
  (refine RegJ.turns (fun _=>trivial) ?_;intro K K0 hK hK0;go_simp;refine hK0 _ ?_;clear hK K hK0 K0)
  iterate 3 (refine RegJ.reads ?_;intro K hK;go_simp;(first | refine ⟨_,fun _ _=>rfl,hK _ ?_⟩ | refine hK _ ?_);clear hK K)
  refine RegJ.nil ?_;have HJ:=Lib.hid (Hb1.out.trans ((KeptW.bel v2k).mono Hb1.out.size));go_wp2_with fail;go_ret;exact ⟨by rw [← Hok.out];rfl,HJ.out⟩
 | true =>
 cases b2 with
 | false =>
  refine (wpIn_wide (n:=1)).1 ?_;refine RegJ.wpIn_region_plan (F:=Fence.wide) (KeptW w1) (.step 0 0 (.step 1 0 (.step 2 0 (.step 3 0 (.step 4 1 (.step 5 0 (.step 6 0 (.step 7 0 (.step 8 0 (.step 9 0 (.step 10 0 (.step 11 0 (.step 12 1 (.step 13 0 (.step 14 0 (.step 15 0 (.step 16 0 (.step 17 0 (.step 18 0 (.step 19 0 (.step 20 0 (.step 21 0 (.step 22 1 (.step 23 0 (.step 24 0 (.step 25 0 .nil)))))))))))))))))))))))))) (by kernel_rfl) (by kernel_rfl) (by kernel_rfl) (fun _ _ d _ _ h=>by cases d <;> exact h) ⟨rfl,rfl,rfl,Nat.le_refl _,fun _ _=>rfl⟩ ?_;dsimp only [RegJ.pickJ,List.getElem?_cons_zero,List.getElem?_cons_succ];change RegJ.Can _ _ _ _ _ _ _ _ w1.drew;have hkd:KeptW w1 w1.drew:=⟨rfl,rfl,rfl,Nat.le_refl _,fun _ _=>rfl⟩;generalize w1.drew=v1 at *;refine RegJ.reads ?_;intro K hK;go_simp;(first | refine ⟨_,fun _ _=>rfl,hK _ ?_⟩ | refine hK _ ?_);clear hK K
  refine RegJ.reads ?_;intro K hK;go_simp;refine ⟨.int .u8 (M.mem:Int),fun y hy=>?_,hK _ ?_⟩
  ·
   obtain ⟨f0,f1,f14⟩:=(show PartAt y w.heap.size M P from ((KeptW.bel hy).block _ (Array.getElem?_eq_some_iff.1 Hp1.out).1).trans Hp1.out).cells;go_simp
  clear hK K;refine RegJ.reads ?_;intro K hK;go_simp;(first | refine ⟨_,fun _ _=>rfl,hK _ ?_⟩ | refine hK _ ?_);clear hK K
  refine RegJ.reads ?_;intro K hK;go_simp;refine ⟨.int .u8 (M.all:Int),fun y hy=>?_,hK _ ?_⟩
  ·
   obtain ⟨f0,f1,f14⟩:=(show PartAt y w.heap.size M P from ((KeptW.bel hy).block _ (Array.getElem?_eq_some_iff.1 Hp1.out).1).trans Hp1.out).cells;go_simp
  clear hK K;refine RegJ.turns (fun _=>trivial) ?_;intro K K0 hK hK0;go_simp;refine ⟨trivial,?_⟩;refine (callsIn_wide.2 (Hm.out v1)).mono ?_;rintro e v2 ⟨rfl,hb7⟩;have v2k:KeptW w1 v2:=KeptW.mono hkd hb7;refine hK _ _ _ (fun _ h=>h) v2k ?_;clear hK K hK0 K0;iterate 2 (refine RegJ.reads ?_;intro K hK;go_simp;(first | refine ⟨_,fun _ _=>rfl,hK _ ?_⟩ | refine hK _ ?_);clear hK K)
  refine RegJ.reads ?_;intro K hK;go_simp;refine ⟨.int .u8 (M.all:Int),fun y hy=>?_,hK _ ?_⟩
  ·
   obtain ⟨f0,f1,f14⟩:=(show PartAt y w.heap.size M P from ((KeptW.bel hy).block _ (Array.getElem?_eq_some_iff.1 Hp1.out).1).trans Hp1.out).cells;go_simp
  clear hK K;refine RegJ.reads ?_;intro K hK;go_simp;(first | refine ⟨_,fun _ _=>rfl,hK _ ?_⟩ | refine hK _ ?_);clear hK K
  refine RegJ.reads ?_;intro K hK;go_simp;refine ⟨.int .u8 (M.all:Int),fun y hy=>?_,hK _ ?_⟩
  ·
   obtain ⟨f0,f1,f14⟩:=(show PartAt y w.heap.size M P from ((KeptW.bel hy).block _ (Array.getElem?_eq_some_iff.1 Hp1.out).1).trans Hp1.out).cells;go_simp
  clear hK K;refine RegJ.reads ?_;intro K hK;go_simp;(first | refine ⟨_,fun _ _=>rfl,hK _ ?_⟩ | refine hK _ ?_);clear hK K
  refine RegJ.reads ?_;intro K hK;go_simp;refine ⟨.int .u8 (M.all:Int),fun y hy=>?_,hK _ ?_⟩
  ·
   obtain ⟨f0,f1,f14⟩:=(show PartAt y w.heap.size M P from ((KeptW.bel hy).block _ (Array.getElem?_eq_some_iff.1 Hp1.out).1).trans Hp1.out).cells;go_simp
  clear hK K;refine RegJ.turns (fun _=>trivial) ?_;intro K K0 hK hK0;go_simp;refine ⟨trivial,?_⟩;refine (callsIn_wide.2 (H1.out v2)).mono ?_;rintro e v3 ⟨rfl,hb7⟩;have v3k:KeptW w1 v3:=KeptW.mono v2k hb7;refine hK _ _ _ (fun _ h=>h) v3k ?_;clear hK K hK0 K0;iterate 4 (refine RegJ.reads ?_;intro K hK;go_simp;(first | refine ⟨_,fun _ _=>rfl,hK _ ?_⟩ | refine hK _ ?_);clear hK K)
  (refine RegJ.reads ?_;intro K hK;go_simp;refine hK _ ?_;clear hK K)
  refine RegJ.reads ?_;intro K hK;go_simp;(first | refine ⟨_,fun _ _=>rfl,hK _ ?_⟩ | refine hK _ ?_);clear hK K
  (refine RegJ.reads ?_;intro K hK;go_simp;refine hK _ ?_;clear hK K)
  refine RegJ.reads ?_;intro K hK;go_simp;(first | refine ⟨_,fun _ _=>rfl,hK _ ?_⟩ | refine hK _ ?_);clear hK K
  (refine RegJ.reads ?_;intro K hK;go_simp;refine hK _ ?_;clear hK K)
  (refine RegJ.turns (fun _=>trivial) ?_;intro K K0 hK hK0;go_simp;refine hK0 _ ?_;clear hK K hK0 K0)
  iterate 3 (refine RegJ.reads ?_;intro K hK;go_simp;(first | refine ⟨_,fun _ _=>rfl,hK _ ?_⟩ | refine hK _ ?_);clear hK K)
  refine RegJ.nil ?_;have HJ:=Lib.hid (Hb1.out.trans ((KeptW.bel v3k).mono Hb1.out.size));go_wp2_with fail;go_ret;exact ⟨by rw [← Hok.out];rfl,HJ.out⟩
 | true =>
  refine (wpIn_wide (n:=1)).1 ?_;refine RegJ.wpIn_region_plan (F:=Fence.wide) (KeptW w1) (.step 0 0 (.step 1 0 (.step 2 0 (.step 3 0 (.step 4 1 (.step 5 0 (.step 6 0 (.step 7 0 (.step 8 0 (.step 9 0 (.step 10 0 (.step 11 0 (.step 12 1 (.step 13 0 (.step 14 0 (.step 15 0 (.step 16 0 (.step 17 0 (.step 18 0 (.step 19 0 (.step 20 0 (.step 21 0 (.step 22 1 (.step 23 0 (.step 24 0 (.step 25 0 .nil)))))))))))))))))))))))))) (by kernel_rfl) (by kernel_rfl) (by kernel_rfl) (fun _ _ d _ _ h=>by cases d <;> exact h) ⟨rfl,rfl,rfl,Nat.le_refl _,fun _ _=>rfl⟩ ?_;dsimp only [RegJ.pickJ,List.getElem?_cons_zero,List.getElem?_cons_succ];change RegJ.Can _ _ _ _ _ _ _ _ w1.drew;have hkd:KeptW w1 w1.drew:=⟨rfl,rfl,rfl,Nat.le_refl _,fun _ _=>rfl⟩;generalize w1.drew=v1 at *;refine RegJ.reads ?_;intro K hK;go_simp;(first | refine ⟨_,fun _ _=>rfl,hK _ ?_⟩ | refine hK _ ?_);clear hK K
  refine RegJ.reads ?_;intro K hK;go_simp;refine ⟨.int .u8 (M.mem:Int),fun y hy=>?_,hK _ ?_⟩
  ·
   obtain ⟨f0,f1,f14⟩:=(show PartAt y w.heap.size M P from ((KeptW.bel hy).block _ (Array.getElem?_eq_some_iff.1 Hp1.out).1).trans Hp1.out).cells;go_simp
  clear hK K;refine RegJ.reads ?_;intro K hK;go_simp;(first | refine ⟨_,fun _ _=>rfl,hK _ ?_⟩ | refine hK _ ?_);clear hK K
  refine RegJ.reads ?_;intro K hK;go_simp;refine ⟨.int .u8 (M.all:Int),fun y hy=>?_,hK _ ?_⟩
  ·
   obtain ⟨f0,f1,f14⟩:=(show PartAt y w.heap.size M P from ((KeptW.bel hy).block _ (Array.getElem?_eq_some_iff.1 Hp1.out).1).trans Hp1.out).cells;go_simp
  clear hK K;refine RegJ.turns (fun _=>trivial) ?_;intro K K0 hK hK0;go_simp;refine ⟨trivial,?_⟩;refine (callsIn_wide.2 (Hm.out v1)).mono ?_;rintro e v2 ⟨rfl,hb7⟩;have v2k:KeptW w1 v2:=KeptW.mono hkd hb7;refine hK _ _ _ (fun _ h=>h) v2k ?_;clear hK K hK0 K0;iterate 2 (refine RegJ.reads ?_;intro K hK;go_simp;(first | refine ⟨_,fun _ _=>rfl,hK _ ?_⟩ | refine hK _ ?_);clear hK K)
  refine RegJ.reads ?_;intro K hK;go_simp;refine ⟨.int .u8 (M.all:Int),fun y hy=>?_,hK _ ?_⟩
  ·
   obtain ⟨f0,f1,f14⟩:=(show PartAt y w.heap.size M P from ((KeptW.bel hy).block _ (Array.getElem?_eq_some_iff.1 Hp1.out).1).trans Hp1.out).cells;go_simp
  clear hK K;refine RegJ.reads ?_;intro K hK;go_simp;(first | refine ⟨_,fun _ _=>rfl,hK _ ?_⟩ | refine hK _ ?_);clear hK K
  refine RegJ.reads ?_;intro K hK;go_simp;refine ⟨.int .u8 (M.all:Int),fun y hy=>?_,hK _ ?_⟩
  ·
   obtain ⟨f0,f1,f14⟩:=(show PartAt y w.heap.size M P from ((KeptW.bel hy).block _ (Array.getElem?_eq_some_iff.1 Hp1.out).1).trans Hp1.out).cells;go_simp
  clear hK K;refine RegJ.reads ?_;intro K hK;go_simp;(first | refine ⟨_,fun _ _=>rfl,hK _ ?_⟩ | refine hK _ ?_);clear hK K
  refine RegJ.reads ?_;intro K hK;go_simp;refine ⟨.int .u8 (M.all:Int),fun y hy=>?_,hK _ ?_⟩
  ·
   obtain ⟨f0,f1,f14⟩:=(show PartAt y w.heap.size M P from ((KeptW.bel hy).block _ (Array.getElem?_eq_some_iff.1 Hp1.out).1).trans Hp1.out).cells;go_simp
  clear hK K;refine RegJ.turns (fun _=>trivial) ?_;intro K K0 hK hK0;go_simp;refine ⟨trivial,?_⟩;refine (callsIn_wide.2 (H1.out v2)).mono ?_;rintro e v3 ⟨rfl,hb7⟩;have v3k:KeptW w1 v3:=KeptW.mono v2k hb7;refine hK _ _ _ (fun _ h=>h) v3k ?_;clear hK K hK0 K0;iterate 4 (refine RegJ.reads ?_;intro K hK;go_simp;(first | refine ⟨_,fun _ _=>rfl,hK _ ?_⟩ | refine hK _ ?_);clear hK K)
  refine RegJ.reads ?_;intro K hK;go_simp;refine ⟨.int .u8 (M.mem:Int),fun y hy=>?_,hK _ ?_⟩
  ·
   obtain ⟨f0,f1,f14⟩:=(show PartAt y w.heap.size M P from ((KeptW.bel hy).block _ (Array.getElem?_eq_some_iff.1 Hp1.out).1).trans Hp1.out).cells;go_simp
  clear hK K;refine RegJ.reads ?_;intro K hK;go_simp;(first | refine ⟨_,fun _ _=>rfl,hK _ ?_⟩ | refine hK _ ?_);clear hK K
  refine RegJ.reads ?_;intro K hK;go_simp;refine ⟨.int .u8 (M.mem:Int),fun y hy=>?_,hK _ ?_⟩
  ·
   obtain ⟨f0,f1,f14⟩:=(show PartAt y w.heap.size M P from ((KeptW.bel hy).block _ (Array.getElem?_eq_some_iff.1 Hp1.out).1).trans Hp1.out).cells;go_simp
  clear hK K;refine RegJ.reads ?_;intro K hK;go_simp;(first | refine ⟨_,fun _ _=>rfl,hK _ ?_⟩ | refine hK _ ?_);clear hK K
  refine RegJ.reads ?_;intro K hK;go_simp;refine ⟨.int .u8 (M.mem:Int),fun y hy=>?_,hK _ ?_⟩
  ·
   obtain ⟨f0,f1,f14⟩:=(show PartAt y w.heap.size M P from ((KeptW.bel hy).block _ (Array.getElem?_eq_some_iff.1 Hp1.out).1).trans Hp1.out).cells;go_simp
  clear hK K;refine RegJ.turns (fun _=>trivial) ?_;intro K K0 hK hK0;go_simp;refine ⟨trivial,?_⟩;refine (callsIn_wide.2 (H2.out v3)).mono ?_;rintro e v4 ⟨rfl,hb7⟩;have v4k:KeptW w1 v4:=KeptW.mono v3k hb7;refine hK _ _ _ (fun _ h=>h) v4k ?_;clear hK K hK0 K0;iterate 3 (refine RegJ.reads ?_;intro K hK;go_simp;(first | refine ⟨_,fun _ _=>rfl,hK _ ?_⟩ | refine hK _ ?_);clear hK K)
  refine RegJ.nil ?_;have HJ:=Lib.hid (Hb1.out.trans ((KeptW.bel v4k).mono Hb1.out.size));go_wp2_with fail;go_ret;exact ⟨by rw [← Hok.out];rfl,HJ.out⟩
def ofStep (i:Nat) (X:RdV × MacV):RdV × MacV :=
 if i=0 then (X.1.byte.2,{ X.2 with all:=X.1.byte.1.toNat }) else if i=1 then (X.1.byte.2,{ X.2 with mem:=X.1.byte.1.toNat }) else if i=2 then (X.1.tab.2,{ X.2 with tab:=X.1.tab.1 }) else (X.1.keys.2,{ X.2 with sh:=X.1.keys.1 })
theorem ofStep_0 (X:RdV × MacV):ofStep 0 X=(X.1.byte.2,{ X.2 with all:=X.1.byte.1.toNat }):=by unfold ofStep;rw [if_pos rfl]
theorem ofStep_1 (X:RdV × MacV):ofStep 1 X=(X.1.byte.2,{ X.2 with mem:=X.1.byte.1.toNat }):=by unfold ofStep;rw [if_neg (by decide),if_pos rfl]
theorem ofStep_2 (X:RdV × MacV):ofStep 2 X=(X.1.tab.2,{ X.2 with tab:=X.1.tab.1 }):=by unfold ofStep;rw [if_neg (by decide),if_neg (by decide),if_pos rfl]
theorem ofStep_3 (X:RdV × MacV):ofStep 3 X=(X.1.keys.2,{ X.2 with sh:=X.1.keys.1 }):=by unfold ofStep;rw [if_neg (by decide),if_neg (by decide),if_neg (by decide)]
def ofL:Nat→Nat→RdV × MacV→RdV × MacV
 | 0,_,X=>X
 | n+1,i,X=>if (ofStep i X).1.e=0 then ofL n (i+1) (ofStep i X) else ofStep i X
def ofRes (X:RdV × MacV):MacV × Nat :=
 if X.1.e=0 then (if X.1.end_.e=0 then (if setsOk X.2=true then (X.2,0) else (macNone,4)) else (macNone,X.1.end_.e)) else (macNone,X.1.e)
def ofM (s:List UInt8):MacV × Nat:=ofRes (ofL 4 0 (⟨0,s⟩,macNone))
def funcsV (g4 g5:Nat):List Value:=[.func (.func 111) #[] #[.pointer (some ⟨g4,0,none⟩),.pointer (some ⟨g5,0,none⟩)],.func (.func 112) #[] #[.pointer (some ⟨g4,0,none⟩),.pointer (some ⟨g5,0,none⟩)],.func (.func 113) #[] #[.pointer (some ⟨g4,0,none⟩),.pointer (some ⟨g5,0,none⟩)],.func (.func 115) #[] #[.pointer (some ⟨g4,0,none⟩),.pointer (some ⟨g5,0,none⟩)]]
def ofW (w:World) (s:List UInt8):World :=
 ((((w.alloc (.cells (macCells macNone none).toArray 38)).alloc (.cells (rdCells ⟨0,s⟩).toArray 246)).alloc (.cells #[.pointer (some ⟨w.heap.size+1,0,none⟩)] 180)).alloc (.cells (macCells macNone none).toArray 36)).alloc (.cells (funcsV (w.heap.size+1+1) (w.heap.size+1+1+1)).toArray 1)
structure OfI (w0:World) (X:RdV × MacV) (T:Tr) (w:World):Prop where
 res:MacAt w w0.heap.size macNone none
 pt:PtI (w0.heap.size+1) (w0.heap.size+1+1) (w0.heap.size+1+1+1) X.1 X.2 T w
 fn:w.heap[w0.heap.size+1+1+1+1]?=some (.cells (funcsV (w0.heap.size+1+1) (w0.heap.size+1+1+1)).toArray 1 (0,0))
 bel:Below w0.heap.size w0 w
 sml:X.2.all<256∧X.2.mem<256
theorem of_start (w:World) (s:List UInt8) (hs:s.length≤maxLen):OfI w (⟨0,s⟩,macNone) .nil (ofW w s):=by
 unfold ofW;obtain ⟨w1,e1⟩:∃ x,w.alloc (.cells (macCells macNone none).toArray 38)=x:=⟨_,rfl⟩;have s1:w1.heap.size=w.heap.size+1:=by rw [← e1];simp
 have a1:w1.heap[w.heap.size]?=some (.cells (macCells macNone none).toArray 38 (0,0)):=by rw [← e1];exact heap_alloc_new _ _
 have b1:Below w.heap.size w w1:=by rw [← e1];exact (Below.refl _ _).alloc (Nat.le_refl _) _
 rw [e1];obtain ⟨w2,e2⟩:∃ x,w1.alloc (.cells (rdCells ⟨0,s⟩).toArray 246)=x:=⟨_,rfl⟩;have s2:w2.heap.size=w.heap.size+2:=by rw [← e2];simp [s1]
 have a2:w2.heap[w.heap.size+1]?=some (.cells (rdCells ⟨0,s⟩).toArray 246 (0,0)):=by rw [← e2, ← s1];exact heap_alloc_new _ _
 have b2:Below w1.heap.size w1 w2:=by rw [← e2];exact (Below.refl _ _).alloc (Nat.le_refl _) _
 rw [e2];obtain ⟨w3,e3⟩:∃ x,w2.alloc (.cells #[.pointer (some ⟨w.heap.size+1,0,none⟩)] 180)=x:=⟨_,rfl⟩;have s3:w3.heap.size=w.heap.size+3:=by rw [← e3];simp [s2]
 have a3:w3.heap[w.heap.size+2]?=some (.cells #[.pointer (some ⟨w.heap.size+1,0,none⟩)] 180 (0,0)):=by rw [← e3, ← s2];exact heap_alloc_new _ _
 have b3:Below w2.heap.size w2 w3:=by rw [← e3];exact (Below.refl _ _).alloc (Nat.le_refl _) _
 rw [e3];obtain ⟨w4,e4⟩:∃ x,w3.alloc (.cells (macCells macNone none).toArray 36)=x:=⟨_,rfl⟩;have s4:w4.heap.size=w.heap.size+4:=by rw [← e4];simp [s3]
 have a4:w4.heap[w.heap.size+3]?=some (.cells (macCells macNone none).toArray 36 (0,0)):=by rw [← e4, ← s3];exact heap_alloc_new _ _
 have b4:Below w3.heap.size w3 w4:=by rw [← e4];exact (Below.refl _ _).alloc (Nat.le_refl _) _
 rw [e4];obtain ⟨w5,e5⟩:∃ x,w4.alloc (.cells (funcsV (w.heap.size+1+1) (w.heap.size+1+1+1)).toArray 1)=x:=⟨_,rfl⟩;have a5:w5.heap[w.heap.size+4]?=some (.cells (funcsV (w.heap.size+1+1) (w.heap.size+1+1+1)).toArray 1 (0,0)):=by rw [← e5, ← s4];exact heap_alloc_new _ _
 have b5:Below w4.heap.size w4 w5:=by rw [← e5];exact (Below.refl _ _).alloc (Nat.le_refl _) _
 rw [e5];have c4:=b5;have c3:=b4.trans (b5.mono b4.size);have c2:=b3.trans (c3.mono b3.size);have c1:=b2.trans (c2.mono b2.size);refine ⟨(c1.block _ (by omega)).trans a1,⟨⟨(c2.block _ (by omega)).trans a2,hs⟩,(c3.block _ (by omega)).trans a3,(c4.block _ (by omega)).trans a4,trivial,rfl,⟨by omega,by omega,by omega⟩⟩,a5,b1.trans (c1.mono b1.size),⟨(show (0:Nat)<256 by omega),(show (0:Nat)<256 by omega)⟩⟩
theorem OfI.off {w0 w w':World} {X Y:RdV × MacV} {T U:Tr} (h:OfI w0 X T w) (hp:PtI (w0.heap.size+1) (w0.heap.size+1+1) (w0.heap.size+1+1+1) Y.1 Y.2 U w') (ho:Off [w0.heap.size+1,w0.heap.size+1+1+1] w.heap.size w w') (hs:Y.2.all<256∧Y.2.mem<256):OfI w0 Y U w' :=
 ⟨(ho.block _ h.res.lt (by simp;omega)).trans h.res,hp,(ho.block _ (Array.getElem?_eq_some_iff.1 h.fn).1 (by simp;omega)).trans h.fn,h.bel.trans ((ho.mono h.bel.size).below (by simp;omega)),hs⟩
theorem OfI.below {w0 w w':World} {X:RdV × MacV} {T:Tr} (h:OfI w0 X T w) (hb:Below w.heap.size w w'):OfI w0 X T w' :=
 ⟨h.res.below hb,⟨h.pt.rd.below hb,(hb.block _ h.pt.lt.1).trans h.pt.box,(hb.block _ h.pt.lt.2).trans h.pt.p,h.pt.tr.below hb,h.pt.sh,h.pt.ne⟩,(hb.block _ (Array.getElem?_eq_some_iff.1 h.fn).1).trans h.fn,h.bel.trans (hb.mono h.bel.size),h.sml⟩
theorem OfI.only {w0 w w':World} {X:RdV × MacV} {T:Tr} {R:RdV} (h:OfI w0 X T w) (hr:RdAt w' (w0.heap.size+1) R) (ho:Only (w0.heap.size+1) w w'):OfI w0 (R,X.2) T w' :=
 h.off (h.pt.only hr (ho.but _)) (ho.off _ (by simp)) h.sml
theorem ofStep_any (i:Nat) (hi:i<4) (w0:World) (X:RdV × MacV) (T:Tr) (w:World) (h:OfI w0 X T w):∃ f,(funcsV (w0.heap.size+1+1) (w0.heap.size+1+1+1))[i]?=some (.func (.func f) #[] #[.pointer (some ⟨w0.heap.size+1+1,0,none⟩),.pointer (some ⟨w0.heap.size+1+1+1,0,none⟩)]) ∧
  (f=111∨f=112∨f=113∨f=115) ∧
  Calls Tryz.prog f #[.pointer (some ⟨w0.heap.size+1+1,0,none⟩),.pointer (some ⟨w0.heap.size+1+1+1,0,none⟩)] w fun e w'=>e=.returned (.tuple #[])∧∃ U,OfI w0 (ofStep i X) U w':=by
 have h1:i=0∨i=1∨i=2∨i=3:=by omega
 rcases h1 with rfl | rfl | rfl | rfl
 ·
  rw [ofStep_0];exact ⟨_,rfl,.inl rfl,(step1_any _ _ _ X.1 X.2 T w h.pt).mono fun e w' hh=>⟨hh.1,T,h.off hh.2.1 hh.2.2 ⟨X.1.byte.1.toNat_lt,h.sml.2⟩⟩⟩
 ·
  rw [ofStep_1];exact ⟨_,rfl,.inr (.inl rfl),(step2_any _ _ _ X.1 X.2 T w h.pt).mono fun e w' hh=>⟨hh.1,T,h.off hh.2.1 hh.2.2 ⟨h.sml.1,X.1.byte.1.toNat_lt⟩⟩⟩
 ·
  rw [ofStep_2];have hs:=step3_any _ _ _ X.1 X.2 T w h.pt;generalize X.1.tab=Q at *;exact ⟨_,rfl,.inr (.inr (.inl rfl)),hs.mono fun e w' hh=>⟨hh.1,T,h.off (Y:=(Q.2,{ X.2 with tab:=Q.1 })) hh.2.1 hh.2.2 h.sml⟩⟩
 ·
  rw [ofStep_3];have hs:=step4_any _ _ _ X.1 X.2 T w h.pt;generalize X.1.keys=Q at *;refine ⟨_,rfl,.inr (.inr (.inr rfl)),hs.mono fun e w' hh=>?_⟩;obtain ⟨U,h1,h2,h3⟩:=hh;exact ⟨h1,U,h.off (Y:=(Q.2,{ X.2 with sh:=Q.1 })) h2 h3 h.sml⟩
theorem OfI.store {w0 w:World} {X:RdV × MacV} {T:Tr} (h:OfI w0 X T w) (M:MacV) (P:Option Addr):MacAt (rowSt w w0.heap.size 0 (macCells M P)) w0.heap.size M P∧(∀ U,TreeAt w U→TreeAt (rowSt w w0.heap.size 0 (macCells M P)) U)∧Below w0.heap.size w0 (rowSt w w0.heap.size 0 (macCells M P)):=by
 obtain ⟨h1,h2,h3,h4⟩:=ma_st h.res M P;exact ⟨h1,h4,h3 _ _ h.bel (Nat.le_refl _)⟩
theorem toList_iff (b:ByteArray):b.toList=[] ↔ b.size=0:=by
 rw [ByteArray.toList_eq,show b.size=b.data.size from rfl, ← Array.length_toList];exact List.length_eq_zero_iff.symm
def may09 (c:CmdV):Bool :=
  !(decide (3<(c.client.toNat:Int)) || decide ((c.seq.toNat:Int)<1) || decide (16<(c.key.size:Int)) || decide (64<(c.old.size:Int)) || decide (64<(c.fresh.size:Int))) &&
    (if ((c.kind.toNat:Int) == 1)=true∨((c.kind.toNat:Int) == 3)=true then decide (¬ c.key.toList=[]) && decide (c.old.toList=[]) && decide (c.fresh.toList=[]) && ((c.set.toNat:Int) == 0)
     else if ((c.kind.toNat:Int) == 2)=true then decide (¬ c.key.toList=[]) && decide (c.old.toList=[]) && ((c.set.toNat:Int) == 0)
     else if ((c.kind.toNat:Int) == 4)=true then decide (¬ c.key.toList=[]) && ((c.set.toNat:Int) == 0)
     else if ((c.kind.toNat:Int) == 5)=true then decide (c.key.toList=[]) && decide (c.old.toList=[]) && decide (c.fresh.toList=[]) else false)
theorem may09_is (c:CmdV):may09 c=mayC c:=by
 unfold may09 mayC;rw [Bool.eq_iff_iff];simp only [toList_iff];generalize c.key.size=nk;generalize c.old.size=no;generalize c.fresh.size=nf;generalize c.client.toNat=ncl;generalize c.seq.toNat=nsq;generalize c.set.toNat=nst;by_cases h1:c.kind=1
 ·
  simp [h1,hasOf,mostOf];omega
 by_cases h2:c.kind=2
 ·
  simp [h2,hasOf,mostOf];omega
 by_cases h3:c.kind=3
 ·
  simp [h3,hasOf,mostOf];omega
 by_cases h4:c.kind=4
 ·
  simp [h4,hasOf,mostOf];omega
 by_cases h5:c.kind=5
 ·
  simp [h5,hasOf,mostOf];omega
 have g:∀ k:UInt8,c.kind≠k → ¬ (c.kind.toNat:Int)=(k.toNat:Int):=fun k h e=>h (UInt8.toNat_inj.1 (by omega))
 have g1:=g 1 h1;have g2:=g 2 h2;have g3:=g 3 h3;have g4:=g 4 h4;have g5:=g 5 h5;simp at g1 g2 g3 g4 g5;simp [h1,h2,h3,h4,h5,hasOf,g1,g2,g3,g4,g5]
set_option maxHeartbeats 8000000 in
theorem may09_any (c:CmdV) (w:World):Calls Tryz.prog 82 #[.agg (cmdCells c).toArray] w fun e w'=>e=.returned (.bool (mayC c))∧Below w.heap.size w w':=by
 obtain ⟨B,hB⟩:∃ B,mayC c=B:=⟨_,rfl⟩;rw [hB];rw [← may09_is] at hB;have HB:=Lib.hid hB;clear hB
 have hc1:=CmdAt.new w c;have hb1:=(Below.refl w.heap.size w).alloc (Nat.le_refl _) (.cells (cmdCells c).toArray 56);have HC:=Lib.hid hc1;clear hc1
 have Hb:=Lib.hid hb1;clear hb1
 rw [cmd_eta];go_enter Tryz.func82,Tryz.ntmps82
 go_upto_region 1 with fail;change Code.wp _ _ _ _ (w.alloc (.cells (cmdCells c).toArray 56));generalize w.alloc (.cells (cmdCells c).toArray 56)=w1 at *;obtain ⟨d0,d1,d2,d3,d4,d5,d6⟩:=HC.out.cells;go_wp2_with fail
 all_goals (go_ret;exact ⟨by rw [← HB.out];first | (simp [may09, *];done) | (simp [may09, *];intro _;omega) | (simp [may09, *];rw [Bool.eq_iff_iff];simp [*];done) | (simp [may09, *];rw [Bool.eq_iff_iff];simp [*];omega),Hb.out⟩)
theorem find_look {S:Sh} (h:Asc S.kv) (k:ByteArray):isAt S.kv k=(S.look k).isSome∧∀ v,S.look k=some v→S.kv.getD (idxOf S.kv k) pdflt=(k,v):=by
 have key:∀ v,S.look k=some v→isAt S.kv k=true∧S.kv.getD (idxOf S.kv k) pdflt=(k,v):=by
  intro v hv;have hm:=(look_kv k h v).1 hv;obtain ⟨L,R,e⟩:=List.append_of_mem hm;rw [e] at h ⊢;obtain ⟨f1,_⟩:=filt_eq h;obtain ⟨g1,_⟩:=idx_split k h;have hle:=idx_le (L++(k,v)::R) k;have hidx:idxOf (L++(k,v)::R) k=L.length:=by
   have:=congrArg List.length (g1.trans f1);rw [List.length_take] at this;omega
  refine ⟨?_,?_⟩
  ·
   unfold isAt;rw [hidx];simp
  ·
   rw [hidx,getD_right (Nat.le_refl _),Nat.sub_self];rfl
 refine ⟨?_,fun v hv=>(key v hv).2⟩;cases hl:S.look k with
 | some v=>exact (key v hl).1
 | none =>
  show isAt S.kv k=false;rw [Bool.eq_false_iff];intro hc;have hlt:=isAt_lt hc;unfold isAt at hc;rw [drop_pair hlt] at hc;simp only [decide_eq_true_eq] at hc;have hm:=getD_in hlt;generalize S.kv.getD (idxOf S.kv k) pdflt=p at *;have:=(look_kv k h p.2).2 (by rw [← hc];exact hm);rw [hl] at this;cases this
end Go.Proofs.YtbckjgageofldaaGreat
