/- Deltas: Patch: its five steps. Condition: the variables lie there. -/
import Derived.Test.YtbckjgageofldaaGreatZLearnRefuses18
import Derived.Test.YtbckjgageofldaaGreatZLearnRefuses13
import Derived.Test.YtbckjgageofldaaGreatZLearnRefuses11
import Derived.Test.YtbckjgageofldaaGreatZLearnRefuses16
import Derived.Test.YtbckjgageofldaaGreatZLearnRefuses8
set_option maxRecDepth 100000
set_option maxHeartbeats 16000000
namespace Go.Proofs.YtbckjgageofldaaGreat
open Go.RowKit
structure PaV where
 fr:Nat
 to_:Nat
 mem:Nat
 tab:TabV
 sh:Sh
def paStep (i:Nat) (X:RdV × PaV):RdV × PaV :=
 if i=0 then ((X.1.sumP 8).2,{ X.2 with fr:=(X.1.sumP 8).1 }) else if i=1 then ((X.1.sumP 8).2,{ X.2 with to_:=(X.1.sumP 8).1 }) else if i=2 then (X.1.byte.2,{ X.2 with mem:=X.1.byte.1.toNat })
 else if i=3 then ((X.1.clients X.2.tab).2,{ X.2 with tab:=(X.1.clients X.2.tab).1 }) else ((X.1.keysD X.2.sh).2,{ X.2 with sh:=(X.1.keysD X.2.sh).1 })
theorem paStep_0 (X:RdV × PaV):paStep 0 X=((X.1.sumP 8).2,{ X.2 with fr:=(X.1.sumP 8).1 }):=by unfold paStep;rw [if_pos rfl]
theorem paStep_1 (X:RdV × PaV):paStep 1 X=((X.1.sumP 8).2,{ X.2 with to_:=(X.1.sumP 8).1 }):=by unfold paStep;rw [if_neg (by decide),if_pos rfl]
theorem paStep_2 (X:RdV × PaV):paStep 2 X=(X.1.byte.2,{ X.2 with mem:=X.1.byte.1.toNat }):=by unfold paStep;rw [if_neg (by decide),if_neg (by decide),if_pos rfl]
theorem paStep_3 (X:RdV × PaV):paStep 3 X=((X.1.clients X.2.tab).2,{ X.2 with tab:=(X.1.clients X.2.tab).1 }):=by unfold paStep;rw [if_neg (by decide),if_neg (by decide),if_neg (by decide),if_pos rfl]
theorem paStep_4 (X:RdV × PaV):paStep 4 X=((X.1.keysD X.2.sh).2,{ X.2 with sh:=(X.1.keysD X.2.sh).1 }):=by unfold paStep;rw [if_neg (by decide),if_neg (by decide),if_neg (by decide),if_neg (by decide)]
def paL:Nat→Nat→RdV × PaV→RdV × PaV
 | 0,_,X=>X
 | n+1,i,X=>if (paStep i X).1.e=0 then paL n (i+1) (paStep i X) else paStep i X
def pfuncs (b gt gk:Nat):List Value:=[.func (.func 93) #[] #[.pointer (some ⟨b+3,0,none⟩),.pointer (some ⟨b+4,0,none⟩)],.func (.func 95) #[] #[.pointer (some ⟨b+3,0,none⟩),.pointer (some ⟨b+5,0,none⟩)],.func (.func 96) #[] #[.pointer (some ⟨b+3,0,none⟩),.pointer (some ⟨b+6,0,none⟩)],.func (.func 98) #[] #[.pointer (some ⟨b+3,0,none⟩),.pointer (some ⟨gt,0,none⟩)],.func (.func 100) #[] #[.pointer (some ⟨b+3,0,none⟩),.pointer (some ⟨gk,0,none⟩)]]
structure PaI (w0:World) (gt gk gf:Nat) (A:MacV) (T:Tr) (X:RdV × PaV) (U:Tr) (w:World):Prop where
 ma:MacAt w w0.heap.size A T.ptr
 res:MacAt w (w0.heap.size+1) macNone none
 rd:RdAt w (w0.heap.size+2) X.1
 box:w.heap[w0.heap.size+3]?=some (.cells #[.pointer (some ⟨w0.heap.size+2,0,none⟩)] 180 (0,0))
 fr:BoxAt w (w0.heap.size+4) (.int .u64 (X.2.fr:Int)) 22
 to_:BoxAt w (w0.heap.size+5) (.int .u64 (X.2.to_:Int)) 22
 mem:BoxAt w (w0.heap.size+6) (.int .u8 (X.2.mem:Int)) 24
 tab:TabAt w gt X.2.tab
 key:BoxAt w gk (.pointer U.ptr) 32
 fn:w.heap[gf]?=some (.cells (pfuncs w0.heap.size gt gk).toArray 1 (0,0))
 trA:TreeAt w T
 tr:TreeAt w U
 sh:U.sh=X.2.sh
 few:U.cnt≤T.cnt+513
 sml:X.2.mem<256
 bel:Below w0.heap.size w0 w
 ne:w0.heap.size+6<gt∧w0.heap.size+6<gk∧w0.heap.size+6<gf∧gt≠gk∧gt≠gf∧gk≠gf
theorem below_but {g:Nat} {w0 a b:World} (h:Below w0.heap.size w0 a) (hb:But g a.heap.size a b) (hg:w0.heap.size≤g):Below w0.heap.size w0 b:=h.trans ((hb.mono h.size).below hg)
section
variable {w0 w w' : World} {gt gk gf : Nat} {A : MacV} {T U : Tr} {X : RdV × PaV}
theorem PaI.only {R':RdV} (h:PaI w0 gt gk gf A T X U w) (hr:RdAt w' (w0.heap.size+2) R') (ho:But (w0.heap.size+2) w.heap.size w w'):PaI w0 gt gk gf A T (R',X.2) U w':=by
 obtain ⟨n1,n2,n3,n4,n5,n6⟩:=h.ne;have hk:∀ {q:Nat} {o:Obj},w.heap[q]?=some o→q≠w0.heap.size+2→w'.heap[q]?=some o:=fun e hq=>(ho.block _ (Array.getElem?_eq_some_iff.1 e).1 hq).trans e
 exact ⟨hk h.ma (by omega),hk h.res (by omega),hr,hk h.box (by omega),hk h.fr (by omega),hk h.to_ (by omega),hk h.mem (by omega),hk h.tab (by omega),hk h.key (by omega),hk h.fn (by omega),treeAt_but h.rd ho h.trA,treeAt_but h.rd ho h.tr,h.sh,h.few,h.sml,below_but h.bel ho (by omega),h.ne⟩
theorem PaI.below (h:PaI w0 gt gk gf A T X U w) (hb:Below w.heap.size w w'):PaI w0 gt gk gf A T X U w':=by
 have hk:∀ {q:Nat} {o:Obj},w.heap[q]?=some o→w'.heap[q]?=some o:=fun e=>(hb.block _ (Array.getElem?_eq_some_iff.1 e).1).trans e
 exact ⟨hk h.ma,hk h.res,⟨hk h.rd.row,h.rd.len⟩,hk h.box,hk h.fr,hk h.to_,hk h.mem,hk h.tab,hk h.key,hk h.fn,h.trA.below hb,h.tr.below hb,h.sh,h.few,h.sml,h.bel.trans (hb.mono h.bel.size),h.ne⟩
theorem PaI.get (h:PaI w0 gt gk gf A T X U w):w.cell? ⟨w0.heap.size+3,0,none⟩=some (.pointer (some ⟨w0.heap.size+2,0,none⟩)):=cell_of_row _ _ _ _ _ _ h.box
theorem PaI.setFr (h:PaI w0 gt gk gf A T X U w) (n:Nat):PaI w0 gt gk gf A T (X.1,{ X.2 with fr:=n }) U (w.setCell ⟨w0.heap.size+4,0,none⟩ (.int .u64 (n:Int))):=by
 obtain ⟨n1,n2,n3,n4,n5,n6⟩:=h.ne;have hk:∀ {q:Nat} {o:Obj},w.heap[q]?=some o→q≠w0.heap.size+4→(w.setCell ⟨w0.heap.size+4,0,none⟩ (.int .u64 (n:Int))).heap[q]?=some o:=fun e hq=>(Below.heap_setCell _ _ _ _ (by exact hq)).trans e
 exact ⟨hk h.ma (by omega),hk h.res (by omega),⟨hk h.rd.row (by omega),h.rd.len⟩,hk h.box (by omega),h.fr.set,hk h.to_ (by omega),hk h.mem (by omega),hk h.tab (by omega),hk h.key (by omega),hk h.fn (by omega),h.trA.set h.fr,h.tr.set h.fr,h.sh,h.few,h.sml,below_setV h.bel (by omega),h.ne⟩
theorem PaI.setTo (h:PaI w0 gt gk gf A T X U w) (n:Nat):PaI w0 gt gk gf A T (X.1,{ X.2 with to_:=n }) U (w.setCell ⟨w0.heap.size+5,0,none⟩ (.int .u64 (n:Int))):=by
 obtain ⟨n1,n2,n3,n4,n5,n6⟩:=h.ne;have hk:∀ {q:Nat} {o:Obj},w.heap[q]?=some o→q≠w0.heap.size+5→(w.setCell ⟨w0.heap.size+5,0,none⟩ (.int .u64 (n:Int))).heap[q]?=some o:=fun e hq=>(Below.heap_setCell _ _ _ _ (by exact hq)).trans e
 exact ⟨hk h.ma (by omega),hk h.res (by omega),⟨hk h.rd.row (by omega),h.rd.len⟩,hk h.box (by omega),hk h.fr (by omega),h.to_.set,hk h.mem (by omega),hk h.tab (by omega),hk h.key (by omega),hk h.fn (by omega),h.trA.set h.to_,h.tr.set h.to_,h.sh,h.few,h.sml,below_setV h.bel (by omega),h.ne⟩
theorem PaI.setMem (h:PaI w0 gt gk gf A T X U w) (n:Nat) (hn:n<256):PaI w0 gt gk gf A T (X.1,{ X.2 with mem:=n }) U (w.setCell ⟨w0.heap.size+6,0,none⟩ (.int .u8 (n:Int))):=by
 obtain ⟨n1,n2,n3,n4,n5,n6⟩:=h.ne;have hk:∀ {q:Nat} {o:Obj},w.heap[q]?=some o→q≠w0.heap.size+6→(w.setCell ⟨w0.heap.size+6,0,none⟩ (.int .u8 (n:Int))).heap[q]?=some o:=fun e hq=>(Below.heap_setCell _ _ _ _ (by exact hq)).trans e
 exact ⟨hk h.ma (by omega),hk h.res (by omega),⟨hk h.rd.row (by omega),h.rd.len⟩,hk h.box (by omega),hk h.fr (by omega),hk h.to_ (by omega),h.mem.set,hk h.tab (by omega),hk h.key (by omega),hk h.fn (by omega),h.trA.set h.mem,h.tr.set h.mem,h.sh,h.few,hn,below_setV h.bel (by omega),h.ne⟩
theorem PaI.setTab (h:PaI w0 gt gk gf A T X U w) (t:TabV):PaI w0 gt gk gf A T (X.1,{ X.2 with tab:=t }) U (rowSt w gt 0 (tabCells t)):=by
 obtain ⟨n1,n2,n3,n4,n5,n6⟩:=h.ne;have hk:∀ {q:Nat} {o:Obj},w.heap[q]?=some o→q≠gt→(rowSt w gt 0 (tabCells t)).heap[q]?=some o:=fun e hq=>(rowSt_other hq _ _ _).trans e
 exact ⟨hk h.ma (by omega),hk h.res (by omega),⟨hk h.rd.row (by omega),h.rd.len⟩,hk h.box (by omega),hk h.fr (by omega),hk h.to_ (by omega),hk h.mem (by omega),rowSt_row (tabCells t) [] (tabCells X.2.tab) w h.tab rfl,hk h.key (by omega),hk h.fn (by omega),TreeAt.row h.tab (by decide) _ _ h.trA,TreeAt.row h.tab (by decide) _ _ h.tr,h.sh,h.few,h.sml,rowSt_below (by omega) _ _ _ h.bel,h.ne⟩
theorem PaI.setKey (h:PaI w0 gt gk gf A T X U w) (V:Tr) (hV:TreeAt w V) (S:Sh) (hs:V.sh=S) (hc:V.cnt≤T.cnt+513):PaI w0 gt gk gf A T (X.1,{ X.2 with sh:=S }) V (w.setCell ⟨gk,0,none⟩ (.pointer V.ptr)):=by
 obtain ⟨n1,n2,n3,n4,n5,n6⟩:=h.ne;have hk:∀ {q:Nat} {o:Obj},w.heap[q]?=some o→q≠gk→(w.setCell ⟨gk,0,none⟩ (.pointer V.ptr)).heap[q]?=some o:=fun e hq=>(Below.heap_setCell _ _ _ _ (by exact hq)).trans e
 exact ⟨hk h.ma (by omega),hk h.res (by omega),⟨hk h.rd.row (by omega),h.rd.len⟩,hk h.box (by omega),hk h.fr (by omega),hk h.to_ (by omega),hk h.mem (by omega),hk h.tab (by omega),h.key.set,hk h.fn (by omega),h.trA.set h.key,hV.set h.key,hs,hc,h.sml,below_setV h.bel (by omega),h.ne⟩
end
section
variable {w0 : World} {gt gk gf : Nat} {A : MacV} {T U : Tr} {X : RdV × PaV}
set_option maxHeartbeats 8000000 in
theorem pstep1_any (w:World) (h:PaI w0 gt gk gf A T X U w) :
  Calls Tryz.prog 93 #[.pointer (some ⟨w0.heap.size+3,0,none⟩),.pointer (some ⟨w0.heap.size+4,0,none⟩)] w fun e w'=>e=.returned (.tuple #[])∧PaI w0 gt gk gf A T (paStep 0 X) U w':=by
 have Hb:=Lib.hid (takeSum_any X.1 (w0.heap.size+2) w h.rd);rw [paStep_0];generalize X.1.sumP 8=Q at *;have f0:=h.get;have H:=Lib.hid h;clear h
 go_enter Tryz.func93,Tryz.ntmps93
 go_wp2_with ((with_reducible refine Hb.out.mono ?_);rintro e w2 ⟨rfl,h2⟩;have H2:=Lib.hid (H.out.only h2.1 (h2.2.but _));clear h2 Hb f0;have p0:=H2.out.fr.cell;have q0:=H2.out.fr.frozen);refine bodyPost_end (results_none rfl _ _ _) rfl ?_;exact ⟨rfl,H2.out.setFr _⟩
set_option maxHeartbeats 8000000 in
theorem pstep2_any (w:World) (h:PaI w0 gt gk gf A T X U w) :
  Calls Tryz.prog 95 #[.pointer (some ⟨w0.heap.size+3,0,none⟩),.pointer (some ⟨w0.heap.size+5,0,none⟩)] w fun e w'=>e=.returned (.tuple #[])∧PaI w0 gt gk gf A T (paStep 1 X) U w':=by
 have Hb:=Lib.hid (takeSum_any X.1 (w0.heap.size+2) w h.rd);rw [paStep_1];generalize X.1.sumP 8=Q at *;have f0:=h.get;have H:=Lib.hid h;clear h
 go_enter Tryz.func95,Tryz.ntmps95
 go_wp2_with ((with_reducible refine Hb.out.mono ?_);rintro e w2 ⟨rfl,h2⟩;have H2:=Lib.hid (H.out.only h2.1 (h2.2.but _));clear h2 Hb f0;have p0:=H2.out.to_.cell;have q0:=H2.out.to_.frozen);refine bodyPost_end (results_none rfl _ _ _) rfl ?_;exact ⟨rfl,H2.out.setTo _⟩
set_option maxHeartbeats 8000000 in
theorem pstep3_any (w:World) (h:PaI w0 gt gk gf A T X U w) :
  Calls Tryz.prog 96 #[.pointer (some ⟨w0.heap.size+3,0,none⟩),.pointer (some ⟨w0.heap.size+6,0,none⟩)] w fun e w'=>e=.returned (.tuple #[])∧PaI w0 gt gk gf A T (paStep 2 X) U w':=by
 have Hb:=Lib.hid (byte_any X.1 (w0.heap.size+2) w h.rd);rw [paStep_2];generalize X.1.byte=Q at *;have f0:=h.get;have H:=Lib.hid h;clear h
 go_enter Tryz.func96,Tryz.ntmps96
 go_wp2_with ((with_reducible refine Hb.out.mono ?_);rintro e w2 ⟨rfl,h2⟩;have H2:=Lib.hid (H.out.only h2.1 (h2.2.but _));clear h2 Hb f0;have p0:=H2.out.mem.cell;have q0:=H2.out.mem.frozen);refine bodyPost_end (results_none rfl _ _ _) rfl ?_;exact ⟨rfl,H2.out.setMem _ Q.1.toNat_lt⟩
set_option maxHeartbeats 8000000 in
theorem pstep4_any (w:World) (h:PaI w0 gt gk gf A T X U w) :
  Calls Tryz.prog 98 #[.pointer (some ⟨w0.heap.size+3,0,none⟩),.pointer (some ⟨gt,0,none⟩)] w fun e w'=>e=.returned (.tuple #[])∧PaI w0 gt gk gf A T (paStep 3 X) U w':=by
 have hb:=takeClients_any X.1 X.2.tab (w0.heap.size+2) w h.rd;rw [paStep_3];generalize X.1.clients X.2.tab=Q at *;obtain ⟨t,R2⟩:=Q;simp only at hb ⊢;rw [tab_eta X.2.tab,tab_eta t] at hb;have Hb:=Lib.hid hb;clear hb
 have f0:=h.get;obtain ⟨⟨a0,a1,a2⟩,⟨b0,b1,b2⟩,⟨c0,c1,c2⟩,⟨d0,d1,d2⟩⟩:=h.tab.cells;have H:=Lib.hid h;clear h
 go_enter Tryz.func98,Tryz.ntmps98
 go_wp2_with ((with_reducible refine Hb.out.mono ?_);rintro e w2 ⟨rfl,h2⟩;have H2:=Lib.hid (H.out.only h2.1 h2.2);clear h2 Hb f0 a0 a1 a2 b0 b1 b2 c0 c1 c2 d0 d1 d2;obtain ⟨⟨a0,a1,a2⟩,⟨b0,b1,b2⟩,⟨c0,c1,c2⟩,⟨d0,d1,d2⟩⟩:=H2.out.tab.cells;have q0:=H2.out.tab.thawed 0;have q1:=H2.out.tab.thawed 1;have q2:=H2.out.tab.thawed 2;have q3:=H2.out.tab.thawed 3;have q4:=H2.out.tab.thawed 4;have q5:=H2.out.tab.thawed 5;have q6:=H2.out.tab.thawed 6;have q7:=H2.out.tab.thawed 7;have q8:=H2.out.tab.thawed 8;have q9:=H2.out.tab.thawed 9;have q10:=H2.out.tab.thawed 10;have q11:=H2.out.tab.thawed 11);refine bodyPost_end (results_none rfl _ _ _) rfl ?_;change _∧PaI _ _ _ _ _ _ _ _ (rowSt w2 gt 0 (tabCells t));exact ⟨rfl,H2.out.setTab t⟩
set_option maxHeartbeats 8000000 in
theorem pstep5_any (w:World) (hc:T.cnt≤500000) (hU:U.sh.cnt≤T.cnt) (h:PaI w0 gt gk gf A T X U w) :
  Calls Tryz.prog 100 #[.pointer (some ⟨w0.heap.size+3,0,none⟩),.pointer (some ⟨gk,0,none⟩)] w fun e w'=>e=.returned (.tuple #[])∧∃ V,PaI w0 gt gk gf A T (paStep 4 X) V w':=by
 have hb:=takeKeysD_any X.1 U (by have:=h.few;omega) (w0.heap.size+2) w h.rd h.tr;rw [paStep_4];rw [h.sh] at hb;generalize X.1.keysD X.2.sh=Q at *;obtain ⟨S,R2⟩:=Q;simp only at hb ⊢;obtain ⟨P,hP⟩:∃ P,U.ptr=P:=⟨_,rfl⟩;have f0:=h.get;have f1:=h.key.cell;rw [hP] at hb f1;have Hb:=Lib.hid hb;clear hb hP
 have H:=Lib.hid h;clear h
 go_enter Tryz.func100,Tryz.ntmps100
 go_wp2_with ((with_reducible refine Hb.out.mono ?_);rintro e w2 ⟨V,rfl,hV,hs,hn,h2⟩;have H2:=Lib.hid (And.intro (H.out.only h2.1 h2.2) (And.intro hV (And.intro hs hn)));clear h2 hV hs hn Hb f0 f1;have p0:=H2.out.1.key.cell;have q0:=H2.out.1.key.frozen);refine bodyPost_end (results_none rfl _ _ _) rfl ?_;exact ⟨rfl,V,H2.out.1.setKey V H2.out.2.1 S H2.out.2.2.1 (by have h1:=H2.out.2.2.2;rw [← sh_cnt] at hU;omega)⟩
end
theorem layTab (ρ:Operand→Value) (x:World) (o:Oper) (h:o.op=.alloc 31):(execOp ρ o).run Tryz.prog x=.ok (.value (RegL.ptr x.heap.size)) (x.alloc (.cells (tabCells tabNone).toArray 31 (0,0))):=by
 simp only [execOp,h];go_simp;exact ⟨rfl,rfl⟩
theorem layPtr (ρ:Operand→Value) (x:World) (o:Oper) (h:o.op=.alloc 32):(execOp ρ o).run Tryz.prog x=.ok (.value (RegL.ptr x.heap.size)) (x.alloc (.cells #[.pointer none] 32 (0,0))):=by
 simp only [execOp,h];go_simp;rfl
theorem tab_store {y:World} {g:Nat} {t0:TabV} (hs:TabAt y g t0) {t:TabV} {V:Value} (hV:Value.agg (tabCells t).toArray=V) :
  V.cells.size=12∧(storeCells ⟨g,0,none⟩ V.cells.toList).run Tryz.prog y=.ok () (rowSt y g 0 (tabCells t)):=by
 subst hV;exact ⟨rfl,store_row (tabCells t) 0 _ y hs (Nat.le_refl _) (by simp [tabCells,lastCells,Value.oneCell'])⟩
theorem tab_loads (ρ:Operand→Value) (o:Oper) (a:Operand) (h:o.op=.load 31 a) {g:Nat} {t:TabV} (ha:ρ a=.pointer (some ⟨g,0,none⟩)) {y:World} (hm:TabAt y g t) :
  (execOp ρ o).run Tryz.prog y=.ok (.value (.agg (tabCells t).toArray)) y:=by
 simp only [execOp,h,ha];rw [tab_eta];obtain ⟨⟨a0,a1,a2⟩,⟨b0,b1,b2⟩,⟨c0,c1,c2⟩,⟨d0,d1,d2⟩⟩:=hm.cells;go_simp
structure PaEnd (w w':World) (gt gk:Nat) (t:TabV) (P:Option Addr):Prop where
 tab:TabAt w' gt t
 key:BoxAt w' gk (.pointer P) 32
 bel:Below w.heap.size w w'
 lt:w.heap.size≤gt∧w.heap.size≤gk∧gt≠gk
theorem pa_reg4 (w0:World) (g:Nat) (A:MacV) (P:Option Addr) {Q:Exit→Act→World→Prop}
  (hQ:∀ c a d v w,Q (.panic c) (Act.put a d v) w→Q (.panic c) a w) (hQ2:∀ c a d v w,Q (.panic c) a w→Q (.panic c) (Act.put a d v) w) (HM:Hid (MacAt w0 g A P))
  (u0 u1 u3 u4 u5 u6 u7 u8 u9 u10 u11 u12 u13 u14 u15 u16 u17 u18 u19 u20 u21 u22 u23 u24 u25 u26 u27 u28 u29 u30 u31 u32 u33 u34 u35 u36 u37 u38 u39 u40 u41 u42 u43 u44 u45 u46 u47 u48 u49 u50 u51 u52 u53 u54 u55 u56 u57 u58 u59 u60 u61 u62 u63 u64 u65 u66 u67 u68 u69 u70 u71 u72 u73 u74 u75:Value)
  (Hk:Hid (∀ (s20 s21 s22 s23:Value) (gt gk:Nat) (w2:World),PaEnd w0 w2 gt gk A.tab P→Q .normal ⟨List.toArray (u0::u1::Value.pointer (some ⟨g,0,none⟩)::u3::u4::u5::u6::u7::u8::u9::Value.pointer (some ⟨gt,0,none⟩)::Value.pointer (some ⟨gk,0,none⟩)::u12::u13::u14::u15::u16::u17::u18::u19::s20::s21::s22::s23::u24::u25::u26::u27::u28::u29::u30::u31::u32::u33::u34::u35::u36::u37::u38::u39::u40::u41::u42::u43::u44::u45::u46::u47::u48::u49::u50::u51::u52::u53::u54::u55::u56::u57::u58::u59::u60::u61::u62::u63::u64::u65::u66::u67::u68::u69::u70::u71::u72::u73::u74::u75::[]),[]⟩ w2)) :
  Code.wp Tryz.prog (findR 4 (Tryz.f50.body.getD .skip)) Q ⟨List.toArray (u0::u1::Value.pointer (some ⟨g,0,none⟩)::u3::u4::u5::u6::u7::u8::u9::u10::u11::u12::u13::u14::u15::u16::u17::u18::u19::u20::u21::u22::u23::u24::u25::u26::u27::u28::u29::u30::u31::u32::u33::u34::u35::u36::u37::u38::u39::u40::u41::u42::u43::u44::u45::u46::u47::u48::u49::u50::u51::u52::u53::u54::u55::u56::u57::u58::u59::u60::u61::u62::u63::u64::u65::u66::u67::u68::u69::u70::u71::u72::u73::u74::u75::[]),[]⟩ w0:=by
 conv=>arg 2;whnf
 refine (wpIn_wide (n:=1)).1 ?_;refine RegL.wpIn_region_lays (F:=Fence.wide) (KeptW w0) [⟨4,10,.cells (tabCells tabNone).toArray 31 (0,0)⟩,⟨5,11,.cells #[.pointer none] 32 (0,0)⟩] [(0,0),(2,0),(1,1),(3,1),(6,3),(7,3)] (by kernel_rfl) (by kernel_rfl) (by kernel_rfl) (fun p hp=>by simp only [List.mem_cons,List.not_mem_nil,or_false] at hp;rcases hp with rfl | rfl;exact lays_any layTab rfl;exact lays_any layPtr rfl)
  hQ hQ2 ⟨rfl,rfl,rfl,Nat.le_refl _,fun _ _=>rfl⟩ (keptW_mono w0) ?_
 clear hQ hQ2;dsimp only [RegK.pick,List.getElem?_cons_zero,List.getElem?_cons_succ];obtain ⟨VA,hVA⟩:∃ V,macV A P=V:=⟨_,rfl⟩;have HVA:=Lib.hid hVA;clear hVA
 obtain ⟨VT,hVT⟩:∃ V,Value.agg (tabCells A.tab).toArray=V:=⟨_,rfl⟩;have HVT:=Lib.hid hVT;clear hVT
 refine RegL.reads ?_;intro K hK;rw [if_pos (by simp [Region.wanted])];refine ⟨VA,fun y hy=>?_,hK _ ?_⟩
 ·
  rw [← HVA.out];exact mac_loads _ _ _ rfl rfl (HM.out.below (KeptW.bel hy))
 clear hK K;go_simp;refine RegL.reads ?_;intro K hK;rw [if_pos (by simp [Region.wanted])];refine ⟨VA,fun y hy=>?_,hK _ ?_⟩
 ·
  rw [← HVA.out];exact mac_loads _ _ _ rfl rfl (HM.out.below (KeptW.bel hy))
 clear hK K;go_simp;refine RegL.adds (fun _=>trivial) ?_;go_simp;intro x1 hx1 K hK;refine ⟨trivial,?_⟩;have hkx1:KeptW w0 x1:=hx1;have hd:=mtable_any A P x1;rw [HVA.out,HVT.out] at hd;refine (callsIn_wide.2 hd).mono ?_;clear hd;rintro e xc1 ⟨rfl,hb1⟩;have hxc1:KeptW w0 xc1:=KeptW.mono hkx1 hb1;refine hK (KeptW xc1) _ _ hb1 (fun y h=>KeptW.mono hxc1 (KeptW.bel h)) (keptW_mono xc1) (Below.refl _ _) ?_;clear hK K;refine RegL.adds (fun _=>trivial) ?_;go_simp;intro x2 hx2 K hK;refine ⟨trivial,?_⟩;have hkx2:KeptW w0 x2:=KeptW.mono hxc1 (KeptW.bel hx2);have hd:=mtree_any A P x2;rw [HVA.out] at hd;refine (callsIn_wide.2 hd).mono ?_;clear hd;rintro e xc2 ⟨rfl,hb2⟩;have hxc2:KeptW w0 xc2:=KeptW.mono hkx2 hb2;refine hK (KeptW xc2) _ _ hb2 (fun y h=>KeptW.mono (KeptW.bel hx2) (Below.trans hb2 ((KeptW.bel h).mono hb2.size))) (keptW_mono xc2) (Below.refl _ _) ?_;clear hK K;refine RegL.last ?_;intro g' y hF hy;have hyk:KeptW w0 y:=KeptW.mono hxc2 (KeptW.bel hy);obtain ⟨hg1,hg2⟩:=hF.1 ⟨4,10,.cells (tabCells tabNone).toArray 31 (0,0)⟩ (by simp) rfl;obtain ⟨hg3,hg4⟩:=hF.1 ⟨5,11,.cells #[.pointer none] 32 (0,0)⟩ (by simp) rfl;have hne:g' 5≠g' 4:=hF.2 ⟨5,11,.cells #[.pointer none] 32 (0,0)⟩ (by simp) ⟨4,10,.cells (tabCells tabNone).toArray 31 (0,0)⟩ (by simp) rfl rfl (by simp);have hs:TabAt y (g' 4) tabNone:=hg1;have hr:BoxAt y (g' 5) (.pointer none) 32:=hg3;have hsl:w0.heap.size≤g' 4:=hg2;have hrl:w0.heap.size≤g' 5:=hg4;simp only [RegL.putS,RegL.ptr,if_true];clear hF hg1 hg2 hg3 hg4;generalize g' 4=gt at *;generalize g' 5=gk at *;have hr2:BoxAt (rowSt y gt 0 (tabCells A.tab)) gk (.pointer none) 32:=(rowSt_other hne _ _ _).trans hr;have ht2:TabAt (rowSt y gt 0 (tabCells A.tab)) gt A.tab:=rowSt_row (tabCells A.tab) [] (tabCells tabNone) y hs rfl;have hE:=Lib.hid (show PaEnd w0 ((rowSt y gt 0 (tabCells A.tab)).setCell ⟨gk,0,none⟩ (.pointer P)) gt gk A.tab P from
  ⟨(Below.heap_setCell _ _ _ _ (by exact (Ne.symm hne))).trans ht2,hr2.set,below_setV (rowSt_below hsl _ _ _ (KeptW.bel hyk)) hrl,hsl,hrl,Ne.symm hne⟩)
 obtain ⟨q0,q1⟩:=tab_store hs HVT.out;simp only [Value.cells] at q0 q1;have k0:=hr2.cell;have k1:=hr2.frozen;clear hs hr hr2 ht2;generalize rowSt y gt 0 (tabCells A.tab)=wr at *;refine RegK.can_frees (fun _=>trivial) ?_;intro K K0 hK hK0;go_simp;refine hK (fun _=>True) _ _ trivial ?_;clear hK K hK0 K0 q0 q1;refine RegK.can_frees (fun _=>trivial) ?_;intro K K0 hK hK0;go_simp;refine hK (fun _=>True) _ _ trivial ?_;clear hK K hK0 K0;refine RegK.can_nil ?_;exact Hk.out _ _ _ _ gt gk _ hE.out
def mkM (B:MacV):MacV:=if makeOk B=true then B else macNone
def mkP (B:MacV) (P:Option Addr):Option Addr:=if makeOk B=true then P else none
def mkC (B:MacV):Int:=if makeOk B=true then 0 else 4
theorem mk_val (B:MacV) (P:Option Addr):(if makeOk B=true then macV B P else macV macNone none)=macV (mkM B) (mkP B P):=by
 unfold mkM mkP;split <;> rfl
theorem pa_reg18 (w0:World) (g g9 gt gk:Nat) (A:MacV) (P:Option Addr) (m:Nat) (t:TabV) (S:Sh) (U:Tr) {Q:Exit→Act→World→Prop}
  (hQ:∀ c a d v w,Q (.panic c) (Act.put a d v) w→Q (.panic c) a w) (hQ2:∀ c a d v w,Q (.panic c) a w→Q (.panic c) (Act.put a d v) w) (HM:Hid (MacAt w0 g A P)) (HB:Hid (BoxAt w0 g9 (.int .u8 (m:Int)) 24)) (HT:Hid (TabAt w0 gt t)) (HK:Hid (BoxAt w0 gk (.pointer U.ptr) 32)) (HU:Hid (TreeAt w0 U∧U.sh=S∧U.cnt≤1000000)) (Hs:Hid (A.all<256∧m<256))
  (u0 u1 u3 u4 u5 u6 u7 u8 u12 u13 u14 u15 u16 u17 u18 u19 u20 u21 u22 u23 u24 u25 u26 u27 u28 u29 u30 u31 u32 u33 u34 u35 u36 u37 u38 u39 u40 u41 u42 u43 u44 u45 u46 u47 u48 u49 u50 u51 u52 u53 u54 u55 u56 u57 u58 u59 u60 u61 u62 u63 u64 u65 u66 u67 u68 u69 u70 u71 u72 u73 u74 u75:Value)
  (Hk:Hid (∀ (s56 s57 s58 s59 s60 s61 s62 s63 s64:Value) (gb:Nat) (w2:World),MacAt w2 gb (mkM ⟨A.all,m,t,S⟩) (mkP ⟨A.all,m,t,S⟩ U.ptr)∧Below w0.heap.size w0 w2∧w0.heap.size≤gb→Q .normal ⟨List.toArray (u0::u1::Value.pointer (some ⟨g,0,none⟩)::u3::u4::u5::u6::u7::u8::Value.pointer (some ⟨g9,0,none⟩)::Value.pointer (some ⟨gt,0,none⟩)::Value.pointer (some ⟨gk,0,none⟩)::u12::u13::u14::u15::Value.pointer (some ⟨gb,0,none⟩)::Value.int .i64 (mkC ⟨A.all,m,t,S⟩)::u18::u19::u20::u21::u22::u23::u24::u25::u26::u27::u28::u29::u30::u31::u32::u33::u34::u35::u36::u37::u38::u39::u40::u41::u42::u43::u44::u45::u46::u47::u48::u49::u50::u51::u52::u53::u54::u55::s56::s57::s58::s59::s60::s61::s62::s63::s64::u65::u66::u67::u68::u69::u70::u71::u72::u73::u74::u75::[]),[]⟩ w2)) :
  Code.wp Tryz.prog (findR 18 (Tryz.f50.body.getD .skip)) Q ⟨List.toArray (u0::u1::Value.pointer (some ⟨g,0,none⟩)::u3::u4::u5::u6::u7::u8::Value.pointer (some ⟨g9,0,none⟩)::Value.pointer (some ⟨gt,0,none⟩)::Value.pointer (some ⟨gk,0,none⟩)::u12::u13::u14::u15::u16::u17::u18::u19::u20::u21::u22::u23::u24::u25::u26::u27::u28::u29::u30::u31::u32::u33::u34::u35::u36::u37::u38::u39::u40::u41::u42::u43::u44::u45::u46::u47::u48::u49::u50::u51::u52::u53::u54::u55::u56::u57::u58::u59::u60::u61::u62::u63::u64::u65::u66::u67::u68::u69::u70::u71::u72::u73::u74::u75::[]),[]⟩ w0:=by
 conv=>arg 2;whnf
 refine (wpIn_wide (n:=1)).1 ?_;refine RegL.wpIn_region_lays (F:=Fence.wide) (KeptW w0) [⟨9,16,.cells (macCells macNone none).toArray 38 (0,0)⟩] [(0,0),(2,0),(3,0),(4,0),(1,1),(5,1),(6,2),(7,2),(8,2),(10,3),(11,3)] (by kernel_rfl) (by kernel_rfl) (by kernel_rfl) (fun p hp=>by simp only [List.mem_cons,List.not_mem_nil,or_false] at hp;rcases hp with rfl;exact lays_any layMac rfl)
  hQ hQ2 ⟨rfl,rfl,rfl,Nat.le_refl _,fun _ _=>rfl⟩ (keptW_mono w0) ?_
 clear hQ hQ2;dsimp only [RegK.pick,List.getElem?_cons_zero,List.getElem?_cons_succ];obtain ⟨VA,hVA⟩:∃ V,macV A P=V:=⟨_,rfl⟩;have HVA:=Lib.hid hVA;clear hVA
 obtain ⟨VT,hVT⟩:∃ V,Value.agg (tabCells t).toArray=V:=⟨_,rfl⟩;have HVT:=Lib.hid hVT;clear hVT
 have hmk:=fun (y:World) (hy:TreeAt y U)=>make_any ⟨A.all,m,t,S⟩ U y hy HU.out.2.1 HU.out.2.2 Hs.out.1 Hs.out.2
 obtain ⟨B,hB⟩:∃ B:MacV,(⟨A.all,m,t,S⟩:MacV)=B:=⟨_,rfl⟩;have hmk2:=fun (y:World) (hy:TreeAt y U)=>(show Calls Tryz.prog 104 #[.int .u8 (A.all:Int),.int .u8 (m:Int),VT,.pointer U.ptr] y fun e w'=>e=.returned (.tuple #[macV (mkM ⟨A.all,m,t,S⟩) (mkP ⟨A.all,m,t,S⟩ U.ptr),.int .i64 (mkC ⟨A.all,m,t,S⟩)])∧TreeAt w' U∧Below y.heap.size y w' by
  rw [← HVT.out, ← mk_val];exact hmk y hy)
 clear hmk;rw [hB] at hmk2 Hk;clear hB;obtain ⟨V1,hV1⟩:∃ V,macV (mkM B) (mkP B U.ptr)=V:=⟨_,rfl⟩;rw [hV1] at hmk2;have HV1:=Lib.hid hV1;clear hV1
 have Hmk:=Lib.hid hmk2;clear hmk2
 obtain ⟨PU,hPU⟩:∃ P,U.ptr=P:=⟨_,rfl⟩;rw [hPU] at HK Hmk HV1 Hk;clear hPU;refine RegL.reads ?_;intro K hK;rw [if_pos (by simp [Region.wanted])];refine ⟨VA,fun y hy=>?_,hK _ ?_⟩
 ·
  rw [← HVA.out];exact mac_loads _ _ _ rfl rfl (HM.out.below (KeptW.bel hy))
 clear hK K;go_simp;refine RegL.reads ?_;intro K hK;go_simp;refine ⟨.int .u8 (m:Int),fun y hy=>?_,hK _ ?_⟩
 ·
  have k0:=(HB.out.below (KeptW.bel hy)).cell;go_simp
 clear hK K;refine RegL.reads ?_;intro K hK;rw [if_pos (by simp [Region.wanted])];refine ⟨VT,fun y hy=>?_,hK _ ?_⟩
 ·
  rw [← HVT.out];exact tab_loads _ _ _ rfl rfl (HT.out.below' (KeptW.bel hy))
 clear hK K;go_simp;refine RegL.reads ?_;intro K hK;go_simp;refine ⟨.pointer PU,fun y hy=>?_,hK _ ?_⟩
 ·
  have k0:=(HK.out.below (KeptW.bel hy)).cell;go_simp
 clear hK K;refine RegL.adds (fun _=>trivial) ?_;go_simp;intro x1 hx1 K hK;refine ⟨trivial,?_⟩;have hkx1:KeptW w0 x1:=hx1;have hd:=mall_any A P x1;rw [HVA.out] at hd;refine (callsIn_wide.2 hd).mono ?_;clear hd;rintro e xc1 ⟨rfl,hb1⟩;have hxc1:KeptW w0 xc1:=KeptW.mono hkx1 hb1;refine hK (KeptW xc1) _ _ hb1 (fun y h=>KeptW.mono hxc1 (KeptW.bel h)) (keptW_mono xc1) (Below.refl _ _) ?_;clear hK K;refine RegL.adds (fun _=>trivial) ?_;go_simp;intro x2 hx2 K hK;refine ⟨trivial,?_⟩;have hkx2:KeptW w0 x2:=KeptW.mono hxc1 (KeptW.bel hx2);have hd:=Hmk.out x2 (HU.out.1.below (KeptW.bel hkx2));refine (callsIn_wide.2 hd).mono ?_;clear hd;rintro e xc2 ⟨rfl, -, hb2⟩;have hxc2:KeptW w0 xc2:=KeptW.mono hkx2 hb2;refine hK (KeptW xc2) _ _ hb2 (fun y h=>KeptW.mono (KeptW.bel hx2) (Below.trans hb2 ((KeptW.bel h).mono hb2.size))) (keptW_mono xc2) (Below.refl _ _) ?_;clear hK K;iterate 3 (refine RegL.pures ?_;intro K hK;go_simp;(first | (refine ⟨_,fun _=>rfl,hK _ ?_⟩) | (refine hK _ ?_));clear hK K)
 refine RegL.last ?_;intro g' y hF hy;have hyk:KeptW w0 y:=KeptW.mono hxc2 (KeptW.bel hy);obtain ⟨hg1,hg2⟩:=hF.1 ⟨9,16,.cells (macCells macNone none).toArray 38 (0,0)⟩ (by simp) rfl;have hs:MacAt y (g' 9) macNone none:=hg1;have hsl:w0.heap.size≤g' 9:=hg2;simp only [RegL.putS,RegL.ptr,if_true];clear hF hg1 hg2;generalize g' 9=gb at *;obtain ⟨s1,s2,s3,s4⟩:=ma_st hs (mkM B) (mkP B PU);have hE:=Lib.hid (And.intro s1 (And.intro (s3 _ _ (KeptW.bel hyk) hsl) hsl));obtain ⟨q0,q1⟩:=mac_store hs HV1.out;simp only [Value.cells] at q0 q1;clear hs s1 s2 s3 s4;generalize rowSt y gb 0 (macCells (mkM B) (mkP B PU))=wr at *;refine RegK.can_frees (fun _=>trivial) ?_;intro K K0 hK hK0;go_simp;refine hK (fun _=>True) _ _ trivial ?_;clear hK K hK0 K0 q0 q1;refine RegK.can_frees (fun _=>trivial) ?_;intro K K0 hK hK0;go_simp;refine hK (fun _=>True) _ _ trivial ?_;clear hK K hK0 K0;refine RegK.can_nil ?_;exact Hk.out _ _ _ _ _ _ _ _ _ gb _ hE.out
theorem pa_reg16 (w0:World) (g q:Nat) (A:MacV) (P:Option Addr) (X:Tr) (n:Nat) {Q:Exit→Act→World→Prop}
  (hQ:∀ c a d v w,Q (.panic c) (Act.put a d v) w→Q (.panic c) a w) (HM:Hid (MacAt w0 g A P)) (HB:Hid (BoxAt w0 q (.int .u64 (n:Int)) 22)) (HX:Hid (TreeAt w0 X∧X.ptr=P∧X.sh=A.sh)) (HA:Hid (MacBy A∧(macB A).length≤maxLen))
  (u0 u1 u3 u4 u5 u6 u8 u9 u10 u11 u12 u13 u14 u15 u16 u17 u18 u19 u20 u21 u22 u23 u24 u25 u26 u27 u28 u29 u30 u31 u32 u33 u34 u35 u36 u37 u38 u39 u40 u41 u42 u43 u44 u45 u46 u47 u48 u49 u50 u51 u52 u53 u54 u55 u56 u57 u58 u59 u60 u61 u62 u63 u64 u65 u66 u67 u68 u69 u70 u71 u72 u73 u74 u75:Value)
  (Hk:Hid (∀ (s50 s51 s52 s53:Value) (w2:World),Below w0.heap.size w0 w2→Q .normal ⟨List.toArray (u0::u1::Value.pointer (some ⟨g,0,none⟩)::u3::u4::u5::u6::Value.pointer (some ⟨q,0,none⟩)::u8::u9::u10::u11::u12::u13::u14::u15::u16::u17::u18::u19::u20::u21::u22::u23::u24::u25::u26::u27::u28::u29::u30::u31::u32::u33::u34::u35::u36::u37::u38::u39::u40::u41::u42::u43::u44::u45::u46::u47::u48::u49::s50::s51::s52::s53::Value.bool ((sumM A:Int) != (n:Int))::u55::u56::u57::u58::u59::u60::u61::u62::u63::u64::u65::u66::u67::u68::u69::u70::u71::u72::u73::u74::u75::[]),[]⟩ w2)) :
  Code.wp Tryz.prog (findR 16 (Tryz.f50.body.getD .skip)) Q ⟨List.toArray (u0::u1::Value.pointer (some ⟨g,0,none⟩)::u3::u4::u5::u6::Value.pointer (some ⟨q,0,none⟩)::u8::u9::u10::u11::u12::u13::u14::u15::u16::u17::u18::u19::u20::u21::u22::u23::u24::u25::u26::u27::u28::u29::u30::u31::u32::u33::u34::u35::u36::u37::u38::u39::u40::u41::u42::u43::u44::u45::u46::u47::u48::u49::u50::u51::u52::u53::u54::u55::u56::u57::u58::u59::u60::u61::u62::u63::u64::u65::u66::u67::u68::u69::u70::u71::u72::u73::u74::u75::[]),[]⟩ w0:=by
 conv=>arg 2;whnf
 have hby:=fun (y:World) (hy:TreeAt y X)=>mbytes_any A X HA.out.1 y hy HX.out.2.2
 rw [HX.out.2.1] at hby;obtain ⟨VA,hVA⟩:∃ V,macV A P=V:=⟨_,rfl⟩;rw [hVA] at hby;have HVA:=Lib.hid hVA;clear hVA
 have hsum:=fun y:World=>sum_any ⟨(macB A).toArray⟩ (by simpa [ByteArray.size] using HA.out.2) y
 obtain ⟨SA,hSA⟩:∃ S:ByteArray,(⟨(macB A).toArray⟩:ByteArray)=S:=⟨_,rfl⟩;have hx:(Crc.sum 0#64 SA.data.toList).toNat=sumM A:=by rw [← hSA];rfl
 rw [hSA] at hby hsum;clear hSA;rw [hx] at hsum;clear hx;have Hby:=Lib.hid hby;clear hby
 have Hsum:=Lib.hid (fun y:World=>(hsum y).mono fun e w' h=>(show e=.returned (.int .u64 (sumM A:Int))∧Below y.heap.size y w' from ⟨h.1,by rw [← h.2];exact Below.refl _ _⟩));clear hsum
 generalize sumM A=sa at *;refine (wpIn_wide (n:=1)).1 ?_;refine RegK.wpIn_region_can (F:=Fence.wide) (KeptW w0) [(0,0),(3,0),(1,1),(2,1),(4,0)] (by kernel_rfl) (by kernel_rfl) (by kernel_rfl) hQ ⟨rfl,rfl,rfl,Nat.le_refl _,fun _ _=>rfl⟩ ?_;dsimp only [RegK.pick,List.getElem?_cons_zero,List.getElem?_cons_succ];change RegK.Can _ _ _ _ _ _ _ _ w0.drew;have hkd:KeptW w0 w0.drew:=⟨rfl,rfl,rfl,Nat.le_refl _,fun _ _=>rfl⟩;generalize w0.drew=z1 at *;refine RegK.can_reads ?_;intro K hK;rw [if_pos (by simp [Region.wanted])];refine ⟨VA,fun y hy=>?_,hK _ ?_⟩
 ·
  rw [← HVA.out];exact mac_loads _ _ _ rfl rfl (HM.out.below (KeptW.bel hy))
 clear hK K;go_simp;refine RegK.can_reads ?_;intro K hK;go_simp;refine ⟨.int .u64 (n:Int),fun y hy=>?_,hK _ ?_⟩
 ·
  have k0:=(HB.out.below (KeptW.bel hy)).cell;go_simp
 clear hK K;refine RegK.can_turns (fun _=>trivial) ?_;intro K K0 hK hK0;go_simp;refine ⟨trivial,?_⟩;refine (callsIn_wide.2 (Hby.out z1 (HX.out.1.below (KeptW.bel hkd)))).mono ?_;rintro e z2 ⟨rfl,hb7⟩;have z2k:KeptW w0 z2:=KeptW.mono hkd hb7;refine hK _ _ z2k ?_;clear hK K hK0 K0;refine RegK.can_turns (fun _=>trivial) ?_;intro K K0 hK hK0;go_simp;refine ⟨trivial,?_⟩;refine (callsIn_wide.2 (Hsum.out z2)).mono ?_;rintro e z3 ⟨rfl,hb7⟩;have z3k:KeptW w0 z3:=KeptW.mono z2k hb7;refine hK _ _ z3k ?_;clear hK K hK0 K0;refine RegK.can_reads ?_;intro K hK;go_simp;(first | refine ⟨_,fun _ _=>rfl,hK _ ?_⟩ | refine hK _ ?_);clear hK K
 refine RegK.can_nil ?_;exact Hk.out _ _ _ _ _ (KeptW.bel z3k)
theorem pa_reg21 (w0:World) (g q:Nat) (A:MacV) (P:Option Addr) (X:Tr) (n:Nat) {Q:Exit→Act→World→Prop}
  (hQ:∀ c a d v w,Q (.panic c) (Act.put a d v) w→Q (.panic c) a w) (HM:Hid (MacAt w0 g A P)) (HB:Hid (BoxAt w0 q (.int .u64 (n:Int)) 22)) (HX:Hid (TreeAt w0 X∧X.ptr=P∧X.sh=A.sh)) (HA:Hid (MacBy A∧(macB A).length≤maxLen))
  (u0 u1 u2 u3 u4 u5 u6 u7 u9 u10 u11 u12 u13 u14 u15 u17 u18 u19 u20 u21 u22 u23 u24 u25 u26 u27 u28 u29 u30 u31 u32 u33 u34 u35 u36 u37 u38 u39 u40 u41 u42 u43 u44 u45 u46 u47 u48 u49 u50 u51 u52 u53 u54 u55 u56 u57 u58 u59 u60 u61 u62 u63 u64 u65 u66 u67 u68 u69 u70 u71 u72 u73 u74 u75:Value)
  (Hk:Hid (∀ (s69 s70 s71 s72:Value) (w2:World),Below w0.heap.size w0 w2→Q .normal ⟨List.toArray (u0::u1::u2::u3::u4::u5::u6::u7::Value.pointer (some ⟨q,0,none⟩)::u9::u10::u11::u12::u13::u14::u15::Value.pointer (some ⟨g,0,none⟩)::u17::u18::u19::u20::u21::u22::u23::u24::u25::u26::u27::u28::u29::u30::u31::u32::u33::u34::u35::u36::u37::u38::u39::u40::u41::u42::u43::u44::u45::u46::u47::u48::u49::u50::u51::u52::u53::u54::u55::u56::u57::u58::u59::u60::u61::u62::u63::u64::u65::u66::u67::u68::s69::s70::s71::s72::Value.bool ((sumM A:Int) != (n:Int))::u74::u75::[]),[]⟩ w2)) :
  Code.wp Tryz.prog (findR 21 (Tryz.f50.body.getD .skip)) Q ⟨List.toArray (u0::u1::u2::u3::u4::u5::u6::u7::Value.pointer (some ⟨q,0,none⟩)::u9::u10::u11::u12::u13::u14::u15::Value.pointer (some ⟨g,0,none⟩)::u17::u18::u19::u20::u21::u22::u23::u24::u25::u26::u27::u28::u29::u30::u31::u32::u33::u34::u35::u36::u37::u38::u39::u40::u41::u42::u43::u44::u45::u46::u47::u48::u49::u50::u51::u52::u53::u54::u55::u56::u57::u58::u59::u60::u61::u62::u63::u64::u65::u66::u67::u68::u69::u70::u71::u72::u73::u74::u75::[]),[]⟩ w0:=by
 conv=>arg 2;whnf
 have hby:=fun (y:World) (hy:TreeAt y X)=>mbytes_any A X HA.out.1 y hy HX.out.2.2
 rw [HX.out.2.1] at hby;obtain ⟨VA,hVA⟩:∃ V,macV A P=V:=⟨_,rfl⟩;rw [hVA] at hby;have HVA:=Lib.hid hVA;clear hVA
 have hsum:=fun y:World=>sum_any ⟨(macB A).toArray⟩ (by simpa [ByteArray.size] using HA.out.2) y
 obtain ⟨SA,hSA⟩:∃ S:ByteArray,(⟨(macB A).toArray⟩:ByteArray)=S:=⟨_,rfl⟩;have hx:(Crc.sum 0#64 SA.data.toList).toNat=sumM A:=by rw [← hSA];rfl
 rw [hSA] at hby hsum;clear hSA;rw [hx] at hsum;clear hx;have Hby:=Lib.hid hby;clear hby
 have Hsum:=Lib.hid (fun y:World=>(hsum y).mono fun e w' h=>(show e=.returned (.int .u64 (sumM A:Int))∧Below y.heap.size y w' from ⟨h.1,by rw [← h.2];exact Below.refl _ _⟩));clear hsum
 generalize sumM A=sa at *;refine (wpIn_wide (n:=1)).1 ?_;refine RegK.wpIn_region_can (F:=Fence.wide) (KeptW w0) [(0,0),(3,0),(1,1),(2,1),(4,0)] (by kernel_rfl) (by kernel_rfl) (by kernel_rfl) hQ ⟨rfl,rfl,rfl,Nat.le_refl _,fun _ _=>rfl⟩ ?_;dsimp only [RegK.pick,List.getElem?_cons_zero,List.getElem?_cons_succ];change RegK.Can _ _ _ _ _ _ _ _ w0.drew;have hkd:KeptW w0 w0.drew:=⟨rfl,rfl,rfl,Nat.le_refl _,fun _ _=>rfl⟩;generalize w0.drew=z1 at *;refine RegK.can_reads ?_;intro K hK;rw [if_pos (by simp [Region.wanted])];refine ⟨VA,fun y hy=>?_,hK _ ?_⟩
 ·
  rw [← HVA.out];exact mac_loads _ _ _ rfl rfl (HM.out.below (KeptW.bel hy))
 clear hK K;go_simp;refine RegK.can_reads ?_;intro K hK;go_simp;refine ⟨.int .u64 (n:Int),fun y hy=>?_,hK _ ?_⟩
 ·
  have k0:=(HB.out.below (KeptW.bel hy)).cell;go_simp
 clear hK K;refine RegK.can_turns (fun _=>trivial) ?_;intro K K0 hK hK0;go_simp;refine ⟨trivial,?_⟩;refine (callsIn_wide.2 (Hby.out z1 (HX.out.1.below (KeptW.bel hkd)))).mono ?_;rintro e z2 ⟨rfl,hb7⟩;have z2k:KeptW w0 z2:=KeptW.mono hkd hb7;refine hK _ _ z2k ?_;clear hK K hK0 K0;refine RegK.can_turns (fun _=>trivial) ?_;intro K K0 hK hK0;go_simp;refine ⟨trivial,?_⟩;refine (callsIn_wide.2 (Hsum.out z2)).mono ?_;rintro e z3 ⟨rfl,hb7⟩;have z3k:KeptW w0 z3:=KeptW.mono z2k hb7;refine hK _ _ z3k ?_;clear hK K hK0 K0;refine RegK.can_reads ?_;intro K hK;go_simp;(first | refine ⟨_,fun _ _=>rfl,hK _ ?_⟩ | refine hK _ ?_);clear hK K
 refine RegK.can_nil ?_;exact Hk.out _ _ _ _ _ (KeptW.bel z3k)
theorem pa_reg11 (w0:World) (g:Nat) (e:Int) {Q:Exit→Act→World→Prop}
  (HR:Hid (MacAt w0 g macNone none))
  (u0 u1 u2 u3 u5 u6 u7 u8 u9 u10 u11 u12 u13 u15 u16 u17 u18 u19 u20 u21 u22 u23 u24 u25 u26 u27 u28 u29 u30 u31 u32 u33 u34 u35 u36 u37 u38 u39 u40 u41 u42 u43 u44 u45 u46 u47 u48 u49 u50 u51 u52 u53 u54 u55 u56 u57 u58 u59 u60 u61 u62 u63 u64 u65 u66 u67 u68 u69 u70 u71 u72 u73 u74 u75:Value)
  (Hk:Hid (∀ (s41 s42:Value) (w2:World),w2=rowSt w0 g 0 (macCells macNone none)→Q .normal ⟨List.toArray (u0::u1::u2::u3::Value.pointer (some ⟨g,0,none⟩)::Value.int .i64 e::u6::u7::u8::u9::u10::u11::u12::u13::Value.int .i64 e::u15::u16::u17::u18::u19::u20::u21::u22::u23::u24::u25::u26::u27::u28::u29::u30::u31::u32::u33::u34::u35::u36::u37::u38::u39::u40::s41::s42::u43::u44::u45::u46::u47::u48::u49::u50::u51::u52::u53::u54::u55::u56::u57::u58::u59::u60::u61::u62::u63::u64::u65::u66::u67::u68::u69::u70::u71::u72::u73::u74::u75::[]),[]⟩ w2)) :
  Code.wp Tryz.prog (findR 11 (Tryz.f50.body.getD .skip)) Q ⟨List.toArray (u0::u1::u2::u3::Value.pointer (some ⟨g,0,none⟩)::u5::u6::u7::u8::u9::u10::u11::u12::u13::Value.int .i64 e::u15::u16::u17::u18::u19::u20::u21::u22::u23::u24::u25::u26::u27::u28::u29::u30::u31::u32::u33::u34::u35::u36::u37::u38::u39::u40::u41::u42::u43::u44::u45::u46::u47::u48::u49::u50::u51::u52::u53::u54::u55::u56::u57::u58::u59::u60::u61::u62::u63::u64::u65::u66::u67::u68::u69::u70::u71::u72::u73::u74::u75::[]),[]⟩ w0:=by
 conv=>arg 2;whnf
 obtain ⟨⟨m0,m1,m14⟩,⟨m2,m3,m4⟩,⟨m5,m6,m7⟩,⟨m8,m9,m10⟩,⟨m11,m12,m13⟩⟩:=HR.out.cells;have q0:=HR.out.thawed 0;have q1:=HR.out.thawed 1;have q2:=HR.out.thawed 2;have q3:=HR.out.thawed 3;have q4:=HR.out.thawed 4;have q5:=HR.out.thawed 5;have q6:=HR.out.thawed 6;have q7:=HR.out.thawed 7;have q8:=HR.out.thawed 8;have q9:=HR.out.thawed 9;have q10:=HR.out.thawed 10;have q11:=HR.out.thawed 11;have q12:=HR.out.thawed 12;have q13:=HR.out.thawed 13;have q14:=HR.out.thawed 14;go_wp2_with fail;exact Hk.out _ _ _ rfl
theorem pa_reg15 (w0:World) (g:Nat) (e:Int) {Q:Exit→Act→World→Prop}
  (HR:Hid (MacAt w0 g macNone none))
  (u0 u1 u2 u3 u5 u6 u7 u8 u9 u10 u11 u12 u13 u14 u16 u17 u18 u19 u20 u21 u22 u23 u24 u25 u26 u27 u28 u29 u30 u31 u32 u33 u34 u35 u36 u37 u38 u39 u40 u41 u42 u43 u44 u45 u46 u47 u48 u49 u50 u51 u52 u53 u54 u55 u56 u57 u58 u59 u60 u61 u62 u63 u64 u65 u66 u67 u68 u69 u70 u71 u72 u73 u74 u75:Value)
  (Hk:Hid (∀ (s48 s49:Value) (w2:World),w2=rowSt w0 g 0 (macCells macNone none)→Q .normal ⟨List.toArray (u0::u1::u2::u3::Value.pointer (some ⟨g,0,none⟩)::Value.int .i64 e::u6::u7::u8::u9::u10::u11::u12::u13::u14::Value.int .i64 e::u16::u17::u18::u19::u20::u21::u22::u23::u24::u25::u26::u27::u28::u29::u30::u31::u32::u33::u34::u35::u36::u37::u38::u39::u40::u41::u42::u43::u44::u45::u46::u47::s48::s49::u50::u51::u52::u53::u54::u55::u56::u57::u58::u59::u60::u61::u62::u63::u64::u65::u66::u67::u68::u69::u70::u71::u72::u73::u74::u75::[]),[]⟩ w2)) :
  Code.wp Tryz.prog (findR 15 (Tryz.f50.body.getD .skip)) Q ⟨List.toArray (u0::u1::u2::u3::Value.pointer (some ⟨g,0,none⟩)::u5::u6::u7::u8::u9::u10::u11::u12::u13::u14::Value.int .i64 e::u16::u17::u18::u19::u20::u21::u22::u23::u24::u25::u26::u27::u28::u29::u30::u31::u32::u33::u34::u35::u36::u37::u38::u39::u40::u41::u42::u43::u44::u45::u46::u47::u48::u49::u50::u51::u52::u53::u54::u55::u56::u57::u58::u59::u60::u61::u62::u63::u64::u65::u66::u67::u68::u69::u70::u71::u72::u73::u74::u75::[]),[]⟩ w0:=by
 conv=>arg 2;whnf
 obtain ⟨⟨m0,m1,m14⟩,⟨m2,m3,m4⟩,⟨m5,m6,m7⟩,⟨m8,m9,m10⟩,⟨m11,m12,m13⟩⟩:=HR.out.cells;have q0:=HR.out.thawed 0;have q1:=HR.out.thawed 1;have q2:=HR.out.thawed 2;have q3:=HR.out.thawed 3;have q4:=HR.out.thawed 4;have q5:=HR.out.thawed 5;have q6:=HR.out.thawed 6;have q7:=HR.out.thawed 7;have q8:=HR.out.thawed 8;have q9:=HR.out.thawed 9;have q10:=HR.out.thawed 10;have q11:=HR.out.thawed 11;have q12:=HR.out.thawed 12;have q13:=HR.out.thawed 13;have q14:=HR.out.thawed 14;go_wp2_with fail;exact Hk.out _ _ _ rfl
theorem pa_reg20 (w0:World) (g:Nat) (e:Int) {Q:Exit→Act→World→Prop}
  (HR:Hid (MacAt w0 g macNone none))
  (u0 u1 u2 u3 u5 u6 u7 u8 u9 u10 u11 u12 u13 u14 u15 u16 u18 u19 u20 u21 u22 u23 u24 u25 u26 u27 u28 u29 u30 u31 u32 u33 u34 u35 u36 u37 u38 u39 u40 u41 u42 u43 u44 u45 u46 u47 u48 u49 u50 u51 u52 u53 u54 u55 u56 u57 u58 u59 u60 u61 u62 u63 u64 u65 u66 u67 u68 u69 u70 u71 u72 u73 u74 u75:Value)
  (Hk:Hid (∀ (s67 s68:Value) (w2:World),w2=rowSt w0 g 0 (macCells macNone none)→Q .normal ⟨List.toArray (u0::u1::u2::u3::Value.pointer (some ⟨g,0,none⟩)::Value.int .i64 e::u6::u7::u8::u9::u10::u11::u12::u13::u14::u15::u16::Value.int .i64 e::u18::u19::u20::u21::u22::u23::u24::u25::u26::u27::u28::u29::u30::u31::u32::u33::u34::u35::u36::u37::u38::u39::u40::u41::u42::u43::u44::u45::u46::u47::u48::u49::u50::u51::u52::u53::u54::u55::u56::u57::u58::u59::u60::u61::u62::u63::u64::u65::u66::s67::s68::u69::u70::u71::u72::u73::u74::u75::[]),[]⟩ w2)) :
  Code.wp Tryz.prog (findR 20 (Tryz.f50.body.getD .skip)) Q ⟨List.toArray (u0::u1::u2::u3::Value.pointer (some ⟨g,0,none⟩)::u5::u6::u7::u8::u9::u10::u11::u12::u13::u14::u15::u16::Value.int .i64 e::u18::u19::u20::u21::u22::u23::u24::u25::u26::u27::u28::u29::u30::u31::u32::u33::u34::u35::u36::u37::u38::u39::u40::u41::u42::u43::u44::u45::u46::u47::u48::u49::u50::u51::u52::u53::u54::u55::u56::u57::u58::u59::u60::u61::u62::u63::u64::u65::u66::u67::u68::u69::u70::u71::u72::u73::u74::u75::[]),[]⟩ w0:=by
 conv=>arg 2;whnf
 obtain ⟨⟨m0,m1,m14⟩,⟨m2,m3,m4⟩,⟨m5,m6,m7⟩,⟨m8,m9,m10⟩,⟨m11,m12,m13⟩⟩:=HR.out.cells;have q0:=HR.out.thawed 0;have q1:=HR.out.thawed 1;have q2:=HR.out.thawed 2;have q3:=HR.out.thawed 3;have q4:=HR.out.thawed 4;have q5:=HR.out.thawed 5;have q6:=HR.out.thawed 6;have q7:=HR.out.thawed 7;have q8:=HR.out.thawed 8;have q9:=HR.out.thawed 9;have q10:=HR.out.thawed 10;have q11:=HR.out.thawed 11;have q12:=HR.out.thawed 12;have q13:=HR.out.thawed 13;have q14:=HR.out.thawed 14;go_wp2_with fail;exact Hk.out _ _ _ rfl
theorem pa_reg17 (w0:World) (g:Nat) {Q:Exit→Act→World→Prop}
  (HR:Hid (MacAt w0 g macNone none))
  (u0 u1 u2 u3 u5 u6 u7 u8 u9 u10 u11 u12 u13 u14 u15 u16 u17 u18 u19 u20 u21 u22 u23 u24 u25 u26 u27 u28 u29 u30 u31 u32 u33 u34 u35 u36 u37 u38 u39 u40 u41 u42 u43 u44 u45 u46 u47 u48 u49 u50 u51 u52 u53 u54 u55 u56 u57 u58 u59 u60 u61 u62 u63 u64 u65 u66 u67 u68 u69 u70 u71 u72 u73 u74 u75:Value)
  (Hk:Hid (∀ (s55:Value) (w2:World),w2=rowSt w0 g 0 (macCells macNone none)→Q .normal ⟨List.toArray (u0::u1::u2::u3::Value.pointer (some ⟨g,0,none⟩)::Value.int .i64 14::u6::u7::u8::u9::u10::u11::u12::u13::u14::u15::u16::u17::u18::u19::u20::u21::u22::u23::u24::u25::u26::u27::u28::u29::u30::u31::u32::u33::u34::u35::u36::u37::u38::u39::u40::u41::u42::u43::u44::u45::u46::u47::u48::u49::u50::u51::u52::u53::u54::s55::u56::u57::u58::u59::u60::u61::u62::u63::u64::u65::u66::u67::u68::u69::u70::u71::u72::u73::u74::u75::[]),[]⟩ w2)) :
  Code.wp Tryz.prog (findR 17 (Tryz.f50.body.getD .skip)) Q ⟨List.toArray (u0::u1::u2::u3::Value.pointer (some ⟨g,0,none⟩)::u5::u6::u7::u8::u9::u10::u11::u12::u13::u14::u15::u16::u17::u18::u19::u20::u21::u22::u23::u24::u25::u26::u27::u28::u29::u30::u31::u32::u33::u34::u35::u36::u37::u38::u39::u40::u41::u42::u43::u44::u45::u46::u47::u48::u49::u50::u51::u52::u53::u54::u55::u56::u57::u58::u59::u60::u61::u62::u63::u64::u65::u66::u67::u68::u69::u70::u71::u72::u73::u74::u75::[]),[]⟩ w0:=by
 conv=>arg 2;whnf
 obtain ⟨⟨m0,m1,m14⟩,⟨m2,m3,m4⟩,⟨m5,m6,m7⟩,⟨m8,m9,m10⟩,⟨m11,m12,m13⟩⟩:=HR.out.cells;have q0:=HR.out.thawed 0;have q1:=HR.out.thawed 1;have q2:=HR.out.thawed 2;have q3:=HR.out.thawed 3;have q4:=HR.out.thawed 4;have q5:=HR.out.thawed 5;have q6:=HR.out.thawed 6;have q7:=HR.out.thawed 7;have q8:=HR.out.thawed 8;have q9:=HR.out.thawed 9;have q10:=HR.out.thawed 10;have q11:=HR.out.thawed 11;have q12:=HR.out.thawed 12;have q13:=HR.out.thawed 13;have q14:=HR.out.thawed 14;go_wp2_with fail;exact Hk.out _ _ rfl
theorem pa_reg22 (w0:World) (g:Nat) {Q:Exit→Act→World→Prop}
  (HR:Hid (MacAt w0 g macNone none))
  (u0 u1 u2 u3 u5 u6 u7 u8 u9 u10 u11 u12 u13 u14 u15 u16 u17 u18 u19 u20 u21 u22 u23 u24 u25 u26 u27 u28 u29 u30 u31 u32 u33 u34 u35 u36 u37 u38 u39 u40 u41 u42 u43 u44 u45 u46 u47 u48 u49 u50 u51 u52 u53 u54 u55 u56 u57 u58 u59 u60 u61 u62 u63 u64 u65 u66 u67 u68 u69 u70 u71 u72 u73 u74 u75:Value)
  (Hk:Hid (∀ (s74:Value) (w2:World),w2=rowSt w0 g 0 (macCells macNone none)→Q .normal ⟨List.toArray (u0::u1::u2::u3::Value.pointer (some ⟨g,0,none⟩)::Value.int .i64 5::u6::u7::u8::u9::u10::u11::u12::u13::u14::u15::u16::u17::u18::u19::u20::u21::u22::u23::u24::u25::u26::u27::u28::u29::u30::u31::u32::u33::u34::u35::u36::u37::u38::u39::u40::u41::u42::u43::u44::u45::u46::u47::u48::u49::u50::u51::u52::u53::u54::u55::u56::u57::u58::u59::u60::u61::u62::u63::u64::u65::u66::u67::u68::u69::u70::u71::u72::u73::s74::u75::[]),[]⟩ w2)) :
  Code.wp Tryz.prog (findR 22 (Tryz.f50.body.getD .skip)) Q ⟨List.toArray (u0::u1::u2::u3::Value.pointer (some ⟨g,0,none⟩)::u5::u6::u7::u8::u9::u10::u11::u12::u13::u14::u15::u16::u17::u18::u19::u20::u21::u22::u23::u24::u25::u26::u27::u28::u29::u30::u31::u32::u33::u34::u35::u36::u37::u38::u39::u40::u41::u42::u43::u44::u45::u46::u47::u48::u49::u50::u51::u52::u53::u54::u55::u56::u57::u58::u59::u60::u61::u62::u63::u64::u65::u66::u67::u68::u69::u70::u71::u72::u73::u74::u75::[]),[]⟩ w0:=by
 conv=>arg 2;whnf
 obtain ⟨⟨m0,m1,m14⟩,⟨m2,m3,m4⟩,⟨m5,m6,m7⟩,⟨m8,m9,m10⟩,⟨m11,m12,m13⟩⟩:=HR.out.cells;have q0:=HR.out.thawed 0;have q1:=HR.out.thawed 1;have q2:=HR.out.thawed 2;have q3:=HR.out.thawed 3;have q4:=HR.out.thawed 4;have q5:=HR.out.thawed 5;have q6:=HR.out.thawed 6;have q7:=HR.out.thawed 7;have q8:=HR.out.thawed 8;have q9:=HR.out.thawed 9;have q10:=HR.out.thawed 10;have q11:=HR.out.thawed 11;have q12:=HR.out.thawed 12;have q13:=HR.out.thawed 13;have q14:=HR.out.thawed 14;go_wp2_with fail;exact Hk.out _ _ rfl
theorem pa_reg23 (w0:World) (g gb:Nat) (B:MacV) (P:Option Addr) {Q:Exit→Act→World→Prop}
  (HR:Hid (MacAt w0 g macNone none)) (HP:Hid (MacAt w0 gb B P))
  (u0 u1 u2 u3 u5 u6 u7 u8 u9 u10 u11 u12 u13 u14 u15 u17 u18 u19 u20 u21 u22 u23 u24 u25 u26 u27 u28 u29 u30 u31 u32 u33 u34 u35 u36 u37 u38 u39 u40 u41 u42 u43 u44 u45 u46 u47 u48 u49 u50 u51 u52 u53 u54 u55 u56 u57 u58 u59 u60 u61 u62 u63 u64 u65 u66 u67 u68 u69 u70 u71 u72 u73 u74 u75:Value)
  (Hk:Hid (∀ (s75:Value) (w2:World),w2=rowSt w0 g 0 (macCells B P)→Q .normal ⟨List.toArray (u0::u1::u2::u3::Value.pointer (some ⟨g,0,none⟩)::Value.int .i64 0::u6::u7::u8::u9::u10::u11::u12::u13::u14::u15::Value.pointer (some ⟨gb,0,none⟩)::u17::u18::u19::u20::u21::u22::u23::u24::u25::u26::u27::u28::u29::u30::u31::u32::u33::u34::u35::u36::u37::u38::u39::u40::u41::u42::u43::u44::u45::u46::u47::u48::u49::u50::u51::u52::u53::u54::u55::u56::u57::u58::u59::u60::u61::u62::u63::u64::u65::u66::u67::u68::u69::u70::u71::u72::u73::u74::s75::[]),[]⟩ w2)) :
  Code.wp Tryz.prog (findR 23 (Tryz.f50.body.getD .skip)) Q ⟨List.toArray (u0::u1::u2::u3::Value.pointer (some ⟨g,0,none⟩)::u5::u6::u7::u8::u9::u10::u11::u12::u13::u14::u15::Value.pointer (some ⟨gb,0,none⟩)::u17::u18::u19::u20::u21::u22::u23::u24::u25::u26::u27::u28::u29::u30::u31::u32::u33::u34::u35::u36::u37::u38::u39::u40::u41::u42::u43::u44::u45::u46::u47::u48::u49::u50::u51::u52::u53::u54::u55::u56::u57::u58::u59::u60::u61::u62::u63::u64::u65::u66::u67::u68::u69::u70::u71::u72::u73::u74::u75::[]),[]⟩ w0:=by
 conv=>arg 2;whnf
 obtain ⟨⟨m0,m1,m14⟩,⟨m2,m3,m4⟩,⟨m5,m6,m7⟩,⟨m8,m9,m10⟩,⟨m11,m12,m13⟩⟩:=HR.out.cells;have q0:=HR.out.thawed 0;have q1:=HR.out.thawed 1;have q2:=HR.out.thawed 2;have q3:=HR.out.thawed 3;have q4:=HR.out.thawed 4;have q5:=HR.out.thawed 5;have q6:=HR.out.thawed 6;have q7:=HR.out.thawed 7;have q8:=HR.out.thawed 8;have q9:=HR.out.thawed 9;have q10:=HR.out.thawed 10;have q11:=HR.out.thawed 11;have q12:=HR.out.thawed 12;have q13:=HR.out.thawed 13;have q14:=HR.out.thawed 14;obtain ⟨⟨p0,p1,p14⟩,⟨p2,p3,p4⟩,⟨p5,p6,p7⟩,⟨p8,p9,p10⟩,⟨p11,p12,p13⟩⟩:=HP.out.cells;go_wp2_with fail;exact Hk.out _ _ rfl
end Go.Proofs.YtbckjgageofldaaGreat
