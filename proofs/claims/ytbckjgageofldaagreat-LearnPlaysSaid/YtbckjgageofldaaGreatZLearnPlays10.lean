/- Trees: change; trees that lie below one block or from another one on. No condition. -/
import Derived.Test.YtbckjgageofldaaGreatZLearnPlays9
import Derived.RangeFuncFrom
import Derived.Laws.EntriesVeiled
set_option maxRecDepth 100000
namespace Go.Proofs.YtbckjgageofldaaGreat
open Go.RowKit Go.Shelf
def chgCells (o n:ByteArray) (a b:Bool):Array Value:=#[.string o,.string n,.bool a,.bool b]
def ChgAt (w:World) (g:Nat) (o n:ByteArray) (a b:Bool):Prop:=w.heap[g]?=some (.cells (chgCells o n a b) 271 (0,0))
section
variable {w w' : World} {g i : Nat} {o n o' n' : ByteArray} {a b a' b' : Bool} {x : Value}
theorem ChgAt.cells (h:ChgAt w g o n a b):w.cell? ⟨g,0,none⟩=some (.string o)∧w.cell? ⟨g,1,none⟩=some (.string n)∧w.cell? ⟨g,2,none⟩=some (.bool a)∧w.cell? ⟨g,3,none⟩=some (.bool b) :=
 ⟨cell_of_row _ _ _ _ _ _ h,cell_of_row _ _ _ _ _ _ h,cell_of_row _ _ _ _ _ _ h,cell_of_row _ _ _ _ _ _ h⟩
theorem ChgAt.thawed (h:ChgAt w g o n a b) (j:Nat):w.frozen? ⟨g,j,none⟩=false:=by
 unfold ChgAt at h;simp [World.frozen?,h]
theorem ChgAt.lt (h:ChgAt w g o n a b):g<w.heap.size:=(Array.getElem?_eq_some_iff.1 h).1
theorem ChgAt.below (h:ChgAt w g o n a b) (hb:Below w.heap.size w w'):ChgAt w' g o n a b:=(hb.block g h.lt).trans h
theorem ChgAt.set (h:ChgAt w g o n a b) (hx:(chgCells o n a b).setIfInBounds i x=chgCells o' n' a' b'):ChgAt (w.setCell ⟨g,i,none⟩ x) g o' n' a' b':=by
 unfold ChgAt;rw [heap_setCell_same _ _ _ _ _ _ h,hx]
theorem ChgAt.other {g':Nat} (h:ChgAt w g o n a b) (hne:g≠g'):ChgAt (w.setCell ⟨g',i,none⟩ x) g o n a b:=(Below.heap_setCell _ _ _ _ (by exact hne)).trans h
end
set_option maxHeartbeats 2000000 in
theorem change_any (A B:Tr) (w:World) (hA:TreeAt w A) (hB:TreeAt w B) :
  Calls Tryz.prog 191 #[.pointer A.ptr,.pointer B.ptr] w fun e w'=>e=.returned (.agg (chgCells (A.val.getD ByteArray.empty) (B.val.getD ByteArray.empty) A.val.isSome B.val.isSome))∧Below w.heap.size w w':=by
 obtain ⟨R,hR⟩:∃ R,chgCells (A.val.getD ByteArray.empty) (B.val.getD ByteArray.empty) A.val.isSome B.val.isSome=R:=⟨_,rfl⟩;rw [hR];have HR:=Lib.hid hR;clear hR
 have hloA:=hA.lo;have hloB:=hB.lo;obtain ⟨g,hg⟩:∃ g,w.heap.size=g:=⟨_,rfl⟩;rw [hg] at hloA hloB ⊢;have HA:=Lib.hid hA;clear hA
 have HB:=Lib.hid hB;clear hB
 obtain ⟨PA,hPA⟩:∃ P,A.ptr=P:=⟨_,rfl⟩;obtain ⟨PB,hPB⟩:∃ P,B.ptr=P:=⟨_,rfl⟩;rw [hPA,hPB];go_enter Tryz.func191,Tryz.ntmps191
 go_upto_region 2 with fail;have hb1:Below g w ((w.alloc (.cells (chgCells ByteArray.empty ByteArray.empty false false) 271)).alloc (.cells (chgCells ByteArray.empty ByteArray.empty false false) 271)):=by
  rw [← hg];exact ((Below.refl _ _).alloc (Nat.le_refl _) _).alloc (by simp) _
 have hs1:(w.alloc (.cells (chgCells ByteArray.empty ByteArray.empty false false) 271)).heap.size=g+1:=by simp [hg]
 have hn1:ChgAt ((w.alloc (.cells (chgCells ByteArray.empty ByteArray.empty false false) 271)).alloc (.cells (chgCells ByteArray.empty ByteArray.empty false false) 271)) (g+1) ByteArray.empty ByteArray.empty false false:=by
  have:=heap_alloc_new (w.alloc (.cells (chgCells ByteArray.empty ByteArray.empty false false) 271)) (.cells (chgCells ByteArray.empty ByteArray.empty false false) 271);rwa [hs1] at this
 have hn0:ChgAt ((w.alloc (.cells (chgCells ByteArray.empty ByteArray.empty false false) 271)).alloc (.cells (chgCells ByteArray.empty ByteArray.empty false false) 271)) g ByteArray.empty ByteArray.empty false false:=by
  have:=heap_alloc_new w (.cells (chgCells ByteArray.empty ByteArray.empty false false) 271);rw [hg] at this;exact (Below.heap_alloc _ _ _ (by omega)).trans this
 change Code.wp _ _ _ _ ((w.alloc (.cells (chgCells ByteArray.empty ByteArray.empty false false) 271)).alloc (.cells (chgCells ByteArray.empty ByteArray.empty false false) 271));generalize (w.alloc (.cells (chgCells ByteArray.empty ByteArray.empty false false) 271)).alloc (.cells (chgCells ByteArray.empty ByteArray.empty false false) 271)=w1 at *;clear hs1;have Hn0:=Lib.hid hn0;clear hn0
 have Hb1:=Lib.hid hb1;clear hb1
 have HloA:=Lib.hid hloA;clear hloA
 have HloB:=Lib.hid hloB;clear hloB
 have Hg:=Lib.hid hg;clear hg
 have HPA:=Lib.hid hPA;clear hPA
 have HPB:=Lib.hid hPB;clear hPB
 match A,HA,HPA,HloA,HR with
 | .nil,HA,HPA,HloA,HR =>
  obtain rfl:PA=none:=HPA.out.symm;go_upto_region 4 with fail;match B,HB,HPB,HloB,HR with
  | .nil,HB,HPB,HloB,HR =>
   obtain rfl:PB=none:=HPB.out.symm;obtain ⟨e0,e1,e2,e3⟩:=hn1.cells;obtain ⟨d0,d1,d2,d3⟩:=Hn0.out.cells;have z0:=Hn0.out.thawed 0;have z1:=Hn0.out.thawed 1;have z2:=Hn0.out.thawed 2;have z3:=Hn0.out.thawed 3;have hf:ChgAt ((((w1.setCell ⟨g,0,none⟩ (.string ByteArray.empty)).setCell ⟨g,1,none⟩ (.string ByteArray.empty)).setCell ⟨g,2,none⟩ (.bool false)).setCell ⟨g,3,none⟩ (.bool false)) g (ByteArray.empty) (ByteArray.empty) false false:=(((Hn0.out.set (i:=0) (x:=.string ByteArray.empty) (o':=ByteArray.empty) rfl).set (i:=1) (x:=.string ByteArray.empty) (n':=ByteArray.empty) rfl).set (i:=2) (x:=.bool false) (a':=false) rfl).set (i:=3) (x:=.bool false) (b':=false) rfl;have hb:Below g w ((((w1.setCell ⟨g,0,none⟩ (.string ByteArray.empty)).setCell ⟨g,1,none⟩ (.string ByteArray.empty)).setCell ⟨g,2,none⟩ (.bool false)).setCell ⟨g,3,none⟩ (.bool false)):=below_set (below_set (below_set (below_set Hb1.out (Nat.le_refl _)) (Nat.le_refl _)) (Nat.le_refl _)) (Nat.le_refl _);have Hf:=Lib.hid hf;clear hf
   have Hb:=Lib.hid hb;clear hb
   go_wp2_with fail;change bodyPost _ _ _ _ _ ((((w1.setCell ⟨g,0,none⟩ (.string ByteArray.empty)).setCell ⟨g,1,none⟩ (.string ByteArray.empty)).setCell ⟨g,2,none⟩ (.bool false)).setCell ⟨g,3,none⟩ (.bool false));generalize ((((w1.setCell ⟨g,0,none⟩ (.string ByteArray.empty)).setCell ⟨g,1,none⟩ (.string ByteArray.empty)).setCell ⟨g,2,none⟩ (.bool false)).setCell ⟨g,3,none⟩ (.bool false))=W4 at *;clear d0 d1 d2 d3 e0 e1 e2 e3 z0 z1 z2 z3;obtain ⟨e0,e1,e2,e3⟩:=Hf.out.cells;refine bodyPost_ret (v:=.agg (chgCells ByteArray.empty ByteArray.empty false false)) (by simp [results,Tryz.results191,go_sem,e0,e1,e2,e3,chgCells] <;> rfl) rfl ?_;exact ⟨by rw [← HR.out];rfl,Hb.out⟩
  | .node b' k' v' wt' l' r',HB,HPB,HloB,HR =>
   obtain rfl:PB=some ⟨b',0,none⟩:=HPB.out.symm;obtain ⟨c0,c1,c2,c3,c4,c5,c6⟩:=(show NodeAt w1 b' k' v' wt' l'.ptr r'.ptr _ _ from (HB.out.keep HloB.out Hb1.out.block).1).cells;obtain ⟨d0,d1,d2,d3⟩:=hn1.cells;have z0:=hn1.thawed 1;have z2:=hn1.thawed 3;clear c0 c2 c3 c4 c5 c6;have hn5:ChgAt ((w1.setCell ⟨g+1,1,none⟩ (.string v')).setCell ⟨g+1,3,none⟩ (.bool true)) (g+1) (ByteArray.empty) v' false true:=(hn1.set (i:=1) (x:=.string v') (n':=v') rfl).set (i:=3) (x:=.bool true) (b':=true) rfl;have hn6:ChgAt ((w1.setCell ⟨g+1,1,none⟩ (.string v')).setCell ⟨g+1,3,none⟩ (.bool true)) g ByteArray.empty ByteArray.empty false false:=(Hn0.out.other (by omega)).other (by omega);have hb5:Below g w ((w1.setCell ⟨g+1,1,none⟩ (.string v')).setCell ⟨g+1,3,none⟩ (.bool true)):=below_set (below_set Hb1.out (by omega)) (by omega);have Hn5:=Lib.hid hn5;clear hn5
   have Hn6:=Lib.hid hn6;clear hn6
   have Hb5:=Lib.hid hb5;clear hb5
   go_upto_region 6 with fail;change Code.wp _ _ _ _ ((w1.setCell ⟨g+1,1,none⟩ (.string v')).setCell ⟨g+1,3,none⟩ (.bool true));generalize ((w1.setCell ⟨g+1,1,none⟩ (.string v')).setCell ⟨g+1,3,none⟩ (.bool true))=w5 at *;clear c1 z0 z2 d0 d1 d2 d3;obtain ⟨e0,e1,e2,e3⟩:=Hn5.out.cells;obtain ⟨d0,d1,d2,d3⟩:=Hn6.out.cells;have z0:=Hn6.out.thawed 0;have z1:=Hn6.out.thawed 1;have z2:=Hn6.out.thawed 2;have z3:=Hn6.out.thawed 3;have hf:ChgAt ((((w5.setCell ⟨g,0,none⟩ (.string ByteArray.empty)).setCell ⟨g,1,none⟩ (.string v')).setCell ⟨g,2,none⟩ (.bool false)).setCell ⟨g,3,none⟩ (.bool true)) g (ByteArray.empty) (v') false true:=(((Hn6.out.set (i:=0) (x:=.string ByteArray.empty) (o':=ByteArray.empty) rfl).set (i:=1) (x:=.string v') (n':=v') rfl).set (i:=2) (x:=.bool false) (a':=false) rfl).set (i:=3) (x:=.bool true) (b':=true) rfl;have hb:Below g w ((((w5.setCell ⟨g,0,none⟩ (.string ByteArray.empty)).setCell ⟨g,1,none⟩ (.string v')).setCell ⟨g,2,none⟩ (.bool false)).setCell ⟨g,3,none⟩ (.bool true)):=below_set (below_set (below_set (below_set Hb5.out (Nat.le_refl _)) (Nat.le_refl _)) (Nat.le_refl _)) (Nat.le_refl _);have Hf:=Lib.hid hf;clear hf
   have Hb:=Lib.hid hb;clear hb
   go_wp2_with fail;change bodyPost _ _ _ _ _ ((((w5.setCell ⟨g,0,none⟩ (.string ByteArray.empty)).setCell ⟨g,1,none⟩ (.string v')).setCell ⟨g,2,none⟩ (.bool false)).setCell ⟨g,3,none⟩ (.bool true));generalize ((((w5.setCell ⟨g,0,none⟩ (.string ByteArray.empty)).setCell ⟨g,1,none⟩ (.string v')).setCell ⟨g,2,none⟩ (.bool false)).setCell ⟨g,3,none⟩ (.bool true))=W4 at *;clear d0 d1 d2 d3 e0 e1 e2 e3 z0 z1 z2 z3;obtain ⟨e0,e1,e2,e3⟩:=Hf.out.cells;refine bodyPost_ret (v:=.agg (chgCells ByteArray.empty v' false true)) (by simp [results,Tryz.results191,go_sem,e0,e1,e2,e3,chgCells] <;> rfl) rfl ?_;exact ⟨by rw [← HR.out];rfl,Hb.out⟩
 | .node b k v wt l r,HA,HPA,HloA,HR =>
  obtain rfl:PA=some ⟨b,0,none⟩:=HPA.out.symm;obtain ⟨c0,c1,c2,c3,c4,c5,c6⟩:=(show NodeAt w1 b k v wt l.ptr r.ptr _ _ from (HA.out.keep HloA.out Hb1.out.block).1).cells;obtain ⟨d0,d1,d2,d3⟩:=hn1.cells;have z0:=hn1.thawed 0;have z2:=hn1.thawed 2;clear c0 c2 c3 c4 c5 c6;have hn2:ChgAt ((w1.setCell ⟨g+1,0,none⟩ (.string v)).setCell ⟨g+1,2,none⟩ (.bool true)) (g+1) v ByteArray.empty true false:=(hn1.set (i:=0) (x:=.string v) (o':=v) rfl).set (i:=2) (x:=.bool true) (a':=true) rfl;have hn3:ChgAt ((w1.setCell ⟨g+1,0,none⟩ (.string v)).setCell ⟨g+1,2,none⟩ (.bool true)) g ByteArray.empty ByteArray.empty false false:=(Hn0.out.other (by omega)).other (by omega);have hb2:Below g w ((w1.setCell ⟨g+1,0,none⟩ (.string v)).setCell ⟨g+1,2,none⟩ (.bool true)):=below_set (below_set Hb1.out (by omega)) (by omega);have Hn2:=Lib.hid hn2;clear hn2
  have Hn3:=Lib.hid hn3;clear hn3
  have Hb2:=Lib.hid hb2;clear hb2
  clear hn1;go_upto_region 4 with fail;change Code.wp _ _ _ _ ((w1.setCell ⟨g+1,0,none⟩ (.string v)).setCell ⟨g+1,2,none⟩ (.bool true));generalize ((w1.setCell ⟨g+1,0,none⟩ (.string v)).setCell ⟨g+1,2,none⟩ (.bool true))=w3 at *;clear c1 z0 z2 d0 d1 d2 d3;match B,HB,HPB,HloB,HR with
  | .nil,HB,HPB,HloB,HR =>
   obtain rfl:PB=none:=HPB.out.symm;obtain ⟨e0,e1,e2,e3⟩:=Hn2.out.cells;obtain ⟨d0,d1,d2,d3⟩:=Hn3.out.cells;have z0:=Hn3.out.thawed 0;have z1:=Hn3.out.thawed 1;have z2:=Hn3.out.thawed 2;have z3:=Hn3.out.thawed 3;have hf:ChgAt ((((w3.setCell ⟨g,0,none⟩ (.string v)).setCell ⟨g,1,none⟩ (.string ByteArray.empty)).setCell ⟨g,2,none⟩ (.bool true)).setCell ⟨g,3,none⟩ (.bool false)) g (v) (ByteArray.empty) true false:=(((Hn3.out.set (i:=0) (x:=.string v) (o':=v) rfl).set (i:=1) (x:=.string ByteArray.empty) (n':=ByteArray.empty) rfl).set (i:=2) (x:=.bool true) (a':=true) rfl).set (i:=3) (x:=.bool false) (b':=false) rfl;have hb:Below g w ((((w3.setCell ⟨g,0,none⟩ (.string v)).setCell ⟨g,1,none⟩ (.string ByteArray.empty)).setCell ⟨g,2,none⟩ (.bool true)).setCell ⟨g,3,none⟩ (.bool false)):=below_set (below_set (below_set (below_set Hb2.out (Nat.le_refl _)) (Nat.le_refl _)) (Nat.le_refl _)) (Nat.le_refl _);have Hf:=Lib.hid hf;clear hf
   have Hb:=Lib.hid hb;clear hb
   go_wp2_with fail;change bodyPost _ _ _ _ _ ((((w3.setCell ⟨g,0,none⟩ (.string v)).setCell ⟨g,1,none⟩ (.string ByteArray.empty)).setCell ⟨g,2,none⟩ (.bool true)).setCell ⟨g,3,none⟩ (.bool false));generalize ((((w3.setCell ⟨g,0,none⟩ (.string v)).setCell ⟨g,1,none⟩ (.string ByteArray.empty)).setCell ⟨g,2,none⟩ (.bool true)).setCell ⟨g,3,none⟩ (.bool false))=W4 at *;clear d0 d1 d2 d3 e0 e1 e2 e3 z0 z1 z2 z3;obtain ⟨e0,e1,e2,e3⟩:=Hf.out.cells;refine bodyPost_ret (v:=.agg (chgCells v ByteArray.empty true false)) (by simp [results,Tryz.results191,go_sem,e0,e1,e2,e3,chgCells] <;> rfl) rfl ?_;exact ⟨by rw [← HR.out];rfl,Hb.out⟩
  | .node b' k' v' wt' l' r',HB,HPB,HloB,HR =>
   obtain rfl:PB=some ⟨b',0,none⟩:=HPB.out.symm;obtain ⟨c0,c1,c2,c3,c4,c5,c6⟩:=(show NodeAt w3 b' k' v' wt' l'.ptr r'.ptr _ _ from (HB.out.keep HloB.out Hb2.out.block).1).cells;obtain ⟨d0,d1,d2,d3⟩:=Hn2.out.cells;have z0:=Hn2.out.thawed 1;have z2:=Hn2.out.thawed 3;clear c0 c2 c3 c4 c5 c6;have hn5:ChgAt ((w3.setCell ⟨g+1,1,none⟩ (.string v')).setCell ⟨g+1,3,none⟩ (.bool true)) (g+1) (v) v' true true:=(Hn2.out.set (i:=1) (x:=.string v') (n':=v') rfl).set (i:=3) (x:=.bool true) (b':=true) rfl;have hn6:ChgAt ((w3.setCell ⟨g+1,1,none⟩ (.string v')).setCell ⟨g+1,3,none⟩ (.bool true)) g ByteArray.empty ByteArray.empty false false:=(Hn3.out.other (by omega)).other (by omega);have hb5:Below g w ((w3.setCell ⟨g+1,1,none⟩ (.string v')).setCell ⟨g+1,3,none⟩ (.bool true)):=below_set (below_set Hb2.out (by omega)) (by omega);have Hn5:=Lib.hid hn5;clear hn5
   have Hn6:=Lib.hid hn6;clear hn6
   have Hb5:=Lib.hid hb5;clear hb5
   go_upto_region 6 with fail;change Code.wp _ _ _ _ ((w3.setCell ⟨g+1,1,none⟩ (.string v')).setCell ⟨g+1,3,none⟩ (.bool true));generalize ((w3.setCell ⟨g+1,1,none⟩ (.string v')).setCell ⟨g+1,3,none⟩ (.bool true))=w5 at *;clear c1 z0 z2 d0 d1 d2 d3;obtain ⟨e0,e1,e2,e3⟩:=Hn5.out.cells;obtain ⟨d0,d1,d2,d3⟩:=Hn6.out.cells;have z0:=Hn6.out.thawed 0;have z1:=Hn6.out.thawed 1;have z2:=Hn6.out.thawed 2;have z3:=Hn6.out.thawed 3;have hf:ChgAt ((((w5.setCell ⟨g,0,none⟩ (.string v)).setCell ⟨g,1,none⟩ (.string v')).setCell ⟨g,2,none⟩ (.bool true)).setCell ⟨g,3,none⟩ (.bool true)) g (v) (v') true true:=(((Hn6.out.set (i:=0) (x:=.string v) (o':=v) rfl).set (i:=1) (x:=.string v') (n':=v') rfl).set (i:=2) (x:=.bool true) (a':=true) rfl).set (i:=3) (x:=.bool true) (b':=true) rfl;have hb:Below g w ((((w5.setCell ⟨g,0,none⟩ (.string v)).setCell ⟨g,1,none⟩ (.string v')).setCell ⟨g,2,none⟩ (.bool true)).setCell ⟨g,3,none⟩ (.bool true)):=below_set (below_set (below_set (below_set Hb5.out (Nat.le_refl _)) (Nat.le_refl _)) (Nat.le_refl _)) (Nat.le_refl _);have Hf:=Lib.hid hf;clear hf
   have Hb:=Lib.hid hb;clear hb
   go_wp2_with fail;change bodyPost _ _ _ _ _ ((((w5.setCell ⟨g,0,none⟩ (.string v)).setCell ⟨g,1,none⟩ (.string v')).setCell ⟨g,2,none⟩ (.bool true)).setCell ⟨g,3,none⟩ (.bool true));generalize ((((w5.setCell ⟨g,0,none⟩ (.string v)).setCell ⟨g,1,none⟩ (.string v')).setCell ⟨g,2,none⟩ (.bool true)).setCell ⟨g,3,none⟩ (.bool true))=W4 at *;clear d0 d1 d2 d3 e0 e1 e2 e3 z0 z1 z2 z3;obtain ⟨e0,e1,e2,e3⟩:=Hf.out.cells;refine bodyPost_ret (v:=.agg (chgCells v v' true true)) (by simp [results,Tryz.results191,go_sem,e0,e1,e2,e3,chgCells] <;> rfl) rfl ?_;exact ⟨by rw [← HR.out];rfl,Hb.out⟩
open Go.RowKit Go.Shelf
attribute [local go_sem] Oper.semAt_some
def Tr.Out (n m:Nat):Tr→Prop
 | .nil=>True
 | .node b _ _ _ l r=>(b<n∨m≤b)∧l.Out n m∧r.Out n m
theorem Tr.Lo.outOf {n m:Nat}:∀ {T:Tr},T.Lo n→T.Out n m
 | .nil,_=>trivial
 | .node _ _ _ _ _ _,⟨h,h1,h2⟩=>⟨.inl h,h1.outOf,h2.outOf⟩
theorem Sub.outOf {n m:Nat} {S T:Tr} (h:Sub S T):T.Out n m→S.Out n m:=by
 induction h with
 | refl=>exact id
 | left _ ih=>exact fun h=>ih h.2.1
 | right _ ih=>exact fun h=>ih h.2.2
theorem Made.outOf {k n m:Nat} (hk:m≤k) {T S:Tr} (h:Made k T S):T.Out n m→S.Out n m:=by
 induction h with
 | nil=>exact fun _=>trivial
 | old h=>exact h.outOf
 | new hb _ _ ih1 ih2=>exact fun h=>⟨.inr (Nat.le_trans hk hb),ih1 h,ih2 h⟩
theorem TreeAt.keepO {n₀ Bl:Nat} {W W':World} (hk:KeepC n₀ Bl W W'):∀ {T:Tr},TreeAt W T→T.Out n₀ Bl→TreeAt W' T
 | .nil,_,_=>trivial
 | .node b _ _ _ _ _,⟨h1,h2,h3⟩,⟨l1,l2,l3⟩=>⟨by
   rcases l1 with l1 | l1
   ·
    exact (hk.1.block _ l1).trans h1
   ·
    exact hk.2 _ _ _ _ l1 h1,TreeAt.keepO hk h2 l2,TreeAt.keepO hk h3 l3⟩
structure DIterAt (W:World) (l Y Wk:Nat):Prop where
 y:W.heap[Y]?=some (.cells #[.func (.yield l) #[] #[]] 282 (0,0))
 k:W.heap[Wk]?=some (.cells #[.func (.func 188) #[] #[.pointer (some ⟨Wk,0,none⟩),.pointer (some ⟨Y,0,none⟩)]] 283 (0,0))
theorem DIterAt.keep {n₀ Bl:Nat} {W W':World} {l Y Wk:Nat} (h:DIterAt W l Y Wk) (hk:KeepC n₀ Bl W W') (hY:Bl≤Y) (hW:Bl≤Wk):DIterAt W' l Y Wk:=⟨hk.2 _ _ _ _ hY h.y,hk.2 _ _ _ _ hW h.k⟩
theorem DIterAt.below {W W':World} {l Y Wk:Nat} (h:DIterAt W l Y Wk) (hb:Below W.heap.size W W'):DIterAt W' l Y Wk :=
 ⟨(hb.block _ (Array.getElem?_eq_some_iff.1 h.y).1).trans h.y,(hb.block _ (Array.getElem?_eq_some_iff.1 h.k).1).trans h.k⟩
theorem DIterAt.cells {W:World} {l Y Wk:Nat} (h:DIterAt W l Y Wk):W.cell? ⟨Y,0,none⟩=some (.func (.yield l) #[] #[])∧W.cell? ⟨Wk,0,none⟩=some (.func (.func 188) #[] #[.pointer (some ⟨Wk,0,none⟩),.pointer (some ⟨Y,0,none⟩)]) :=
 ⟨cell_of_row _ _ _ _ _ _ h.y,cell_of_row _ _ _ _ _ _ h.k⟩
def chgV (c:Chg):Value:=.agg (chgCells c.old c.new c.had c.has)
def DiffPost (n₀ Bl:Nat) (J Jx:List Chg→World→Prop) (pre D:List Chg) (W:World) (e:Ending) (W':World):Prop :=
 (e=.returned (.bool true)∧J (pre++D) W'∧KeepC n₀ Bl W W')∨(e=.returned (.bool false)∧∃ q,q <+: D∧Jx (pre++q) W')
theorem find_sh {T:Tr} (k:ByteArray):(T.find k).val=T.sh.look k:=sh_look k T
theorem has_node {b:Nat} {k v:ByteArray} {wt:BitVec 64} {l r:Tr}:(Tr.node b k v wt l r).has k=1:=has_eq
def TopOk (A B:Tr) (k:ByteArray) (bt:Nat):Prop:=∃ v wt l r,A=.node bt k v wt l r∨B=.node bt k v wt l r
theorem TopOk.has {A B:Tr} {k:ByteArray} {bt:Nat} (h:TopOk A B k bt):1≤A.has k+B.has k:=by
 obtain ⟨v,wt,l,r,rfl | rfl⟩:=h <;> rw [has_node] <;> omega
theorem TopOk.cell {A B:Tr} {k:ByteArray} {bt:Nat} (h:TopOk A B k bt) {W:World} (hA:TreeAt W A) (hB:TreeAt W B):W.cell? ⟨bt,0,none⟩=some (.string k):=by
 obtain ⟨v,wt,l,r,rfl | rfl⟩:=h
 ·
  exact hA.1.cells.1
 ·
  exact hB.1.cells.1
theorem split_kvs {n:Nat} {key:ByteArray} {T lo hi:Tr} {w w':World} (h:SplitPost n key T w w' lo hi) (ha:Asc T.kvs):lo.kvs=T.kvs.filter (ltB key)∧hi.kvs=T.kvs.filter (gtB key):=by
 obtain ⟨e1,e2⟩:=kv_split key (S:=T.sh) ha;rw [h.shp] at e1 e2;exact ⟨e1,e2⟩
theorem asc_filter {L:Prs} (h:Asc L) (q:ByteArray × ByteArray→Bool):Asc (L.filter q):=h.filter _
set_option maxHeartbeats 4000000 in
theorem diffWalkG_any (G:Chg→Prop) (l Y Wk n₀ Bl N:Nat) (hYB:Bl≤Y) (hWB:Bl≤Wk) (J Jx:List Chg→World→Prop) (hJd:∀ pre W W',J pre W→Below W.heap.size W W'→J pre W')
  (hY:∀ m pre x W,J pre W→pre.length<N→G x→YieldAt Fence.wide m Tryz.prog l #[.string x.key,chgV x] W fun e W' =>
   (e=.returned (.bool true)∧J (pre++[x]) W'∧KeepC n₀ Bl W W')∨(e=.returned (.bool false)∧Jx (pre++[x]) W')) :
  ∀ (s:Nat) (A B:Tr) (pre:List Chg) (W:World),A.cnt+B.cnt≤s→s≤4611686018427387904→TreeAt W A→TreeAt W B→A.Out n₀ Bl→B.Out n₀ Bl→Asc A.kvs→Asc B.kvs→DIterAt W l Y Wk→Bl≤W.heap.size→n₀≤W.heap.size →
   (∀ c ∈ diffL A.kvs B.kvs,G c)→J pre W→pre.length+(diffL A.kvs B.kvs).length≤N →
   Calls Tryz.prog 188 #[.pointer A.ptr,.pointer B.ptr,.pointer (some ⟨Wk,0,none⟩),.pointer (some ⟨Y,0,none⟩)] W (DiffPost n₀ Bl J Jx pre (diffL A.kvs B.kvs) W):=by
 intro s;induction s with
 | zero =>
  intro A B pre W hs _ hA hB _ _ _ _ _ _ _ _ hJ _;have e1:A=.nil:=Tr.cnt_nil.1 (by omega);have e2:B=.nil:=Tr.cnt_nil.1 (by omega);subst e1 e2;change Calls _ _ #[.pointer none,.pointer none,.pointer (some ⟨Wk,0,none⟩),.pointer (some ⟨Y,0,none⟩)] W _;go_enter Tryz.func188,Tryz.ntmps188
  go_wp2_with fail;go_ret;exact .inl ⟨rfl,by simpa [Tr.kvs,Tr.sh,Sh.kv,diff_nil_nil] using hJ,KeepC.refl _ _ _⟩
 | succ s ih =>
  intro A B pre W hs hss hA hB hoA hoB haA haB hit hBl hn₀ hG hJ hN;by_cases hp:A.ptr=B.ptr
  ·
   obtain rfl:=TreeAt.uniq hA hB hp;have hcmp:=tr_same (w:=W) hp;have HJ:=Lib.hid hJ;clear hJ
   clear hA hB ih hY hp;go_enter Tryz.func188,Tryz.ntmps188
   go_wp2_with fail;go_ret;exact .inl ⟨rfl,by simpa [diff_self] using HJ.out,KeepC.refl _ _ _⟩
  ·
   have hcmp:=tr_other hA hB hp;have Hih:=Lib.hid ih;clear ih
   have HY:=Lib.hid hY;clear hY
   have HG:=Lib.hid hG;clear hG
   have HJd:=Lib.hid hJd;clear hJd
   have HA:=Lib.hid hA;clear hA
   have HB:=Lib.hid hB;clear hB
   have HJ:=Lib.hid hJ;clear hJ
   have Hit:=Lib.hid hit;clear hit
   have HoA:=Lib.hid hoA;clear hoA
   have HoB:=Lib.hid hoB;clear hoB
   have HaA:=Lib.hid haA;clear haA
   have HaB:=Lib.hid haB;clear haB
   have HN:=Lib.hid hN;clear hN
   have Hs:=Lib.hid (And.intro hs hss);clear hs hss
   have Hp:=Lib.hid hp;clear hp
   obtain ⟨PA,hPA⟩:∃ P,A.ptr=P:=⟨_,rfl⟩;obtain ⟨PB,hPB⟩:∃ P,B.ptr=P:=⟨_,rfl⟩;rw [hPA,hPB] at hcmp ⊢;obtain ⟨D,hD0⟩:∃ D,diffL A.kvs B.kvs=D:=⟨_,rfl⟩;rw [hD0];have HD0:=Lib.hid hD0;clear hD0
   go_enter Tryz.func188,Tryz.ntmps188
   go_upto_region 4 with fail;have HPA:=Lib.hid hPA;clear hPA
   have HPB:=Lib.hid hPB;clear hPB
   go_cut [29] (fun s29 wx=>Below W.heap.size W wx∧((s29=.bool true∧∃ bt k,PB=some ⟨bt,0,none⟩∧TopOk A B k bt)∨(s29=.bool false∧∃ bt k,PA=some ⟨bt,0,none⟩∧TopOk A B k bt)))
   case first =>
    match A,HA,HPA,B,HB,HPB,Hp with
    | .nil,HA,HPA,.nil,HB,HPB,Hp=>exact absurd rfl Hp.out
    | .nil,HA,HPA,.node b' k' v' wt' l' r',HB,HPB,Hp =>
     obtain rfl:PA=none:=HPA.out.symm;obtain rfl:PB=some ⟨b',0,none⟩:=HPB.out.symm;go_wp2_with fail;go_meet
     exact ⟨Below.refl _ _,.inl ⟨rfl,b',k',rfl,v',wt',l',r',.inr rfl⟩⟩
    | .node b k v wt l r,HA,HPA,.nil,HB,HPB,Hp =>
     obtain rfl:PA=some ⟨b,0,none⟩:=HPA.out.symm;obtain rfl:PB=none:=HPB.out.symm;go_wp2_with fail;go_meet
     exact ⟨Below.refl _ _,.inr ⟨rfl,b,k,rfl,v,wt,l,r,.inl rfl⟩⟩
    | .node b k v wt l r,HA,HPA,.node b' k' v' wt' l' r',HB,HPB,Hp =>
     obtain rfl:PA=some ⟨b,0,none⟩:=HPA.out.symm;obtain rfl:PB=some ⟨b',0,none⟩:=HPB.out.symm;have Hab:=Lib.hid (above_any W HB.out.1 HA.out.1);go_wp2_with ((with_reducible refine Hab.out.mono ?_);rintro e w1 ⟨rfl,hb1⟩;generalize aboveB wt' k' wt k=z);go_meet
     refine ⟨hb1,?_⟩;cases z with
     | true=>exact .inl ⟨rfl,b',k',rfl,v',wt',l',r',.inr rfl⟩
     | false=>exact .inr ⟨rfl,b,k,rfl,v,wt,l,r,.inl rfl⟩
   case rest =>
    obtain ⟨hbx,hz⟩:=hcut;have Hbx:=Lib.hid hbx;clear hbx
    go_upto_if 29 with fail
    go_cut [7] (fun s7 wx=>wx=wc∧∃ bt k,s7=.pointer (some ⟨bt,0,none⟩)∧TopOk A B k bt)
    case first =>
     rcases hz with ⟨rfl,bt,k,rfl,ht⟩ | ⟨rfl,bt,k,rfl,ht⟩
     ·
      go_wp2_with fail;go_meet
      exact ⟨rfl,bt,k,rfl,ht⟩
     ·
      go_wp2_with fail;go_meet
      exact ⟨rfl,bt,k,rfl,ht⟩
    case rest =>
     obtain ⟨rfl,bt,k,rfl,ht⟩:=hcut;clear hz;have Ht:=Lib.hid ht;clear ht
     have hA1:=HA.out.below Hbx.out;have hB1:=HB.out.below Hbx.out;have hck:=Ht.out.cell hA1 hB1;have hspA:=split_any k A wc.heap.size wc (Nat.le_refl _) hA1.lo hA1 (by have:=Hs.out;omega);rw [HPA.out] at hspA;have HspA:=Lib.hid hspA;clear hspA
     have HB1:=Lib.hid hB1;clear hB1 hA1 hcmp
     go_upto_region 7 with ((with_reducible refine HspA.out.mono ?_);rintro e w2 ⟨loA,hiA,rfl,spA⟩;have SpA:=Lib.hid spA;clear spA HspA)
     have hck2:w2.cell? ⟨bt,0,none⟩=some (.string k):=(SpA.out.bel.cell (p:=⟨bt,0,none⟩) (by
      rcases Nat.lt_or_ge bt wc.heap.size with h | h
      ·
       exact h
      ·
       simp [World.cell?,Array.getElem?_eq_none h] at hck)).trans hck
     have hB2:=HB1.out.below SpA.out.bel;have hspB:=split_any k B w2.heap.size w2 (Nat.le_refl _) hB2.lo hB2 (by have:=Hs.out;omega);rw [HPB.out] at hspB;have HspB:=Lib.hid hspB;clear hspB hck hB2
     go_upto_region 8 with ((with_reducible refine HspB.out.mono ?_);rintro e w3 ⟨loB,hiB,rfl,spB⟩;have SpB:=Lib.hid spB;clear spB HspB)
     have hb3:Below W.heap.size W w3:=Hbx.out.trans ((SpA.out.bel.trans (SpB.out.bel.mono SpA.out.bel.size)).mono Hbx.out.size);have hk3:KeepC n₀ Bl W w3:=KeepC.of_below hb3 hn₀;have hit3:=Hit.out.below hb3;have hj3:=HJd.out _ _ _ HJ.out hb3;have hs3:=hb3.size;have hal3:=SpA.out.atLo.below SpB.out.bel;have hah3:=SpA.out.atHi.below SpB.out.bel;have hsw:=Hbx.out.size;have hsw2:=SpA.out.bel.size;have hol:=SpA.out.mLo.outOf (n:=n₀) (m:=Bl) (by omega) HoA.out;have hoh:=SpA.out.mHi.outOf (n:=n₀) (m:=Bl) (by omega) HoA.out;have hol':=SpB.out.mLo.outOf (n:=n₀) (m:=Bl) (by omega) HoB.out;have hoh':=SpB.out.mHi.outOf (n:=n₀) (m:=Bl) (by omega) HoB.out;obtain ⟨kA1,kA2⟩:=split_kvs SpA.out HaA.out;obtain ⟨kB1,kB2⟩:=split_kvs SpB.out HaB.out;have hD:diffL A.kvs B.kvs=diffL loA.kvs loB.kvs++((if (chgOf k (A.sh.look k) (B.sh.look k)).real=true then [chgOf k (A.sh.look k) (B.sh.look k)] else [])++diffL hiA.kvs hiB.kvs):=by
      rw [kA1,kA2,kB1,kB2];exact diff_three k HaA.out HaB.out
     have hnA:=SpA.out.num;have hnB:=SpB.out.num;have hhas:=Ht.out.has;have hs':=Hs.out;have hN':=HN.out;rw [hD] at hN';have HD:=Lib.hid (HD0.out.symm.trans hD);simp only [List.length_append] at hN';have hGh:∀ c ∈ diffL hiA.kvs hiB.kvs,G c:=fun c hc=>HG.out c (by rw [hD];exact List.mem_append.2 (.inr (List.mem_append.2 (.inr hc))))
     have Hl:=Lib.hid (Hih.out loA loB pre w3 (by omega) (by omega) hal3 SpB.out.atLo hol hol' (by rw [kA1];exact asc_filter HaA.out _) (by rw [kB1];exact asc_filter HaB.out _) hit3 (by omega) (by omega) (fun c hc=>HG.out c (by rw [hD];exact List.mem_append.2 (.inl hc))) hj3 (by omega));have Hh:=Lib.hid (fun (p2:List Chg) (w5:World) (hk:KeepC n₀ Bl w3 w5) (hit5:DIterAt w5 l Y Wk) (hz5:w3.heap.size≤w5.heap.size) (hj5:J p2 w5) (hl5:p2.length+(diffL hiA.kvs hiB.kvs).length≤N) =>
      Hih.out hiA hiB p2 w5 (by omega) (by omega) (TreeAt.keepO hk hah3 hoh) (TreeAt.keepO hk SpB.out.atHi hoh') hoh hoh' (by rw [kA2];exact asc_filter HaA.out _) (by rw [kB2];exact asc_filter HaB.out _) hit5 (by omega) (by omega) hGh hj5 hl5)
     have hc3:=hit3.cells.2;clear hGh hck2 hs' hD hnA hnB hhas kA1 kA2 kB1 kB2 hol hoh hol' hoh' hal3 hah3 hj3;go_upto_region 10 with ((with_reducible refine Hl.out.mono ?_);rintro e w4 (⟨rfl,hJ4,hk4⟩ | ⟨rfl,q,hq,hx⟩))
     ·
      have hk34:KeepC n₀ Bl W w4:=hk3.trans hk4;have hch:=change_any (A.find k) (B.find k) w4 (find_at (TreeAt.keepO hk34 HA.out HoA.out) k) (find_at (TreeAt.keepO hk34 HB.out HoB.out) k);rw [find_sh,find_sh] at hch;have hit4:=Hit.out.keep hk34 hYB hWB;have htc:∀ y,KeepC n₀ Bl W y→y.cell? ⟨bt,0,none⟩=some (.string k):=fun y hy=>Ht.out.cell (TreeAt.keepO hy HA.out HoA.out) (TreeAt.keepO hy HB.out HoB.out)
      have hsz4:=hk4.1.size;have hcd:chgOf k (A.sh.look k) (B.sh.look k)=chgOf k (A.sh.look k) (B.sh.look k):=rfl;obtain ⟨c,hc⟩:∃ c,chgOf k (A.sh.look k) (B.sh.look k)=c:=⟨_,rfl⟩;have hck:c.key=k:=by rw [← hc];rfl
      have hcell:chgCells ((A.sh.look k).getD ByteArray.empty) ((B.sh.look k).getD ByteArray.empty) (A.sh.look k).isSome (B.sh.look k).isSome=chgCells c.old c.new c.had c.has:=by rw [← hc];rfl
      rw [hcell] at hch;rw [hc] at HD hN';obtain ⟨ck,co,cn,ca,cb⟩:=c;obtain rfl:ck=k:=hck;have hch':Calls Tryz.prog 191 #[.pointer (A.find ck).ptr,.pointer (B.find ck).ptr] w4 fun e w'=>e=.returned (.agg #[.string co,.string cn,.bool ca,.bool cb])∧Below w4.heap.size w4 w':=hch
      have Hch:=Lib.hid hch';clear hch' hch hcell hc hcd
      clear hit3 hc3;have Hk34:=Lib.hid hk34;clear hk34 hk3
      have Hk4:=Lib.hid hk4;clear hk4
      have HJ4:=Lib.hid hJ4;clear hJ4
      have Htc:=Lib.hid htc;clear htc
      have Hit4:=Lib.hid hit4;clear hit4
      go_upto_region 11 with ((with_reducible refine Hch.out.mono ?_);rintro e w5 ⟨rfl,hb5⟩;have Hb5:=Lib.hid hb5;clear hb5)
      have hn6:ChgAt (w5.alloc (.cells (chgCells co cn ca cb) 271)) w5.heap.size co cn ca cb:=heap_alloc_new w5 _;have hb6:Below w4.heap.size w4 (w5.alloc (.cells (chgCells co cn ca cb) 271)):=Hb5.out.alloc Hb5.out.size _;change Code.wp _ _ _ _ (w5.alloc (.cells (chgCells co cn ca cb) 271));generalize w5.alloc (.cells (chgCells co cn ca cb) 271)=w6 at *;generalize w5.heap.size=g5 at *;have hj6:=HJd.out _ _ _ HJ4.out (hb6.trans (show Below w4.heap.size w6 w6.drew from ⟨rfl,rfl,rfl,Nat.le_refl _,fun _ _=>rfl⟩));have hkd:KeptW w6 w6.drew:=⟨rfl,rfl,rfl,Nat.le_refl _,fun _ _=>rfl⟩;have hk6:∀ y,KeptW w6 y→KeepC n₀ Bl w3 y:=fun y hy=>Hk4.out.trans (KeepC.of_below (hb6.trans (KeptW.bel hy |>.mono hb6.size)) (by omega))
      have hkW:KeepC n₀ Bl W w3:=KeepC.of_below hb3 hn₀;have Hn6:=Lib.hid hn6;clear hn6
      have Hb6:=Lib.hid hb6;clear hb6
      have Hkd:=Lib.hid hkd;clear hkd
      have Hj6:=Lib.hid hj6;clear hj6
      have Hk6:=Lib.hid hk6;clear hk6
      have HkW:=Lib.hid hkW;clear hkW
      have HN2:=Lib.hid hN';clear hN'
      clear Hch Hl Hb5;refine (wpIn_wide (n:=1)).1 ?_;refine RegIn.wpIn_region_can (F:=Fence.wide) (KeptW w6) [(0,0),(1,0),(2,0),(3,0),(4,0),(5,0),(6,0),(7,0),(8,0),(9,0),(10,0),(11,0),(12,0),(13,0),(14,0),(15,0),(16,0),(17,0),(18,0),(19,2),(20,0),(21,0)] rfl (by kernel_rfl) (by kernel_rfl) (fun _ _ d _ _ h=>by cases d <;> exact h) Hkd.out ?_;dsimp only [RegIn.pick,List.getElem?_cons_zero,List.getElem?_cons_succ];change RegIn.Can _ _ _ _ _ _ _ _ w6.drew;generalize w6.drew=W0 at *;obtain ⟨z1,hz1⟩:∃ z,(ca != cb)=z:=⟨_,rfl⟩;iterate 1 (refine RegIn.can_reads ?_;intro K hK;go_simp;(first | (refine ⟨_,fun _ _=>rfl,hK _ ?_⟩) | (refine hK _ ?_));clear hK K)
      refine RegIn.can_reads ?_;intro K hK;go_simp;refine ⟨.bool ca,fun y hy=>?_,hK _ ?_⟩
      ·
       obtain ⟨f0,f1,f2,f3⟩:=(Hn6.out.below hy).cells;go_simp
      clear hK K;iterate 1 (refine RegIn.can_reads ?_;intro K hK;go_simp;(first | (refine ⟨_,fun _ _=>rfl,hK _ ?_⟩) | (refine hK _ ?_));clear hK K)
      refine RegIn.can_reads ?_;intro K hK;go_simp;refine ⟨.bool cb,fun y hy=>?_,hK _ ?_⟩
      ·
       obtain ⟨f0,f1,f2,f3⟩:=(Hn6.out.below hy).cells;go_simp
      clear hK K;-- the test
      refine RegIn.can_reads ?_;intro K hK;go_simp;refine ⟨.bool z1,fun _ _=>by rw [← hz1];rfl,hK _ ?_⟩;clear hK K;cases z1 with
      | true =>
       have hreal:Chg.real ⟨ck,co,cn,ca,cb⟩=true:=by
        have:ca≠cb:=by simpa using hz1
        simp [Chg.real,this]
       iterate 8 (refine RegIn.can_reads ?_;intro K hK;go_simp;(first | (refine ⟨_,fun _ _=>rfl,hK _ ?_⟩) | (refine hK _ ?_));clear hK K)
       refine RegIn.can_reads ?_;intro K hK;go_simp;refine ⟨.func (.yield l) #[] #[],fun y hy=>?_,hK _ ?_⟩
       ·
        have f0:=(Hit4.out.below (Hb6.out.trans (KeptW.bel hy |>.mono Hb6.out.size))).cells.1;go_simp
       clear hK K;iterate 3 (refine RegIn.can_reads ?_;intro K hK;go_simp;(first | (refine ⟨_,fun _ _=>rfl,hK _ ?_⟩) | (refine hK _ ?_));clear hK K)
       refine RegIn.can_reads ?_;intro K hK;go_simp;refine ⟨.string ck,fun y hy=>?_,hK _ ?_⟩
       ·
        have f0:=Htc.out y (HkW.out.trans (Hk6.out y hy));go_simp
       clear hK K;refine RegIn.can_reads ?_;intro K hK;go_simp;refine ⟨.agg #[.string co,.string cn,.bool ca,.bool cb],fun y hy=>?_,hK _ ?_⟩
       ·
        obtain ⟨f0,f1,f2,f3⟩:=(Hn6.out.below hy).cells;go_simp
       clear hK K;have hy1:=HY.out 0 (pre++diffL loA.kvs loB.kvs) ⟨ck,co,cn,ca,cb⟩ W0 Hj6.out (by have:=HN2.out;rw [if_pos hreal] at this;simp at this ⊢; omega) (HG.out _ (by rw [HD0.out,HD.out,if_pos hreal];simp));obtain ⟨fn,tmps,assign,body,hy,hR⟩:=hy1;dsimp only [chgV,chgCells] at hy;have HR:=Lib.hid hR;clear hR
       refine RegIn.can_frees ?_;intro K K0 hK hK0;go_simp;refine HR.out.mono ?_;rintro e W2 (⟨rfl,hJ2,hk2⟩ | ⟨rfl,hx2⟩)
       ·
        have Hj2:=Lib.hid hJ2;clear hJ2 HR hy
        have Hk2:=Lib.hid ((Hk6.out W0 Hkd.out).trans hk2);clear hk2
        refine hK (fun _=>True) _ _ trivial ?_;clear hK hK0 K K0;iterate 2 (refine RegIn.can_reads ?_;intro K hK;go_simp;(first | (refine ⟨_,fun _ _=>rfl,hK _ ?_⟩) | (refine hK _ ?_));clear hK K)
        refine RegIn.can_nil ?_;have hit7:=(Hit.out.keep (HkW.out.trans Hk2.out) hYB hWB);have hc7:=hit7.cells.2;have hsz7:w3.heap.size≤W2.heap.size:=(Hk2.out).1.size;have Hh7:=Lib.hid (Hh.out (pre++diffL loA.kvs loB.kvs++[⟨ck,co,cn,ca,cb⟩]) W2 Hk2.out hit7 hsz7 Hj2.out (by have:=HN2.out;rw [if_pos hreal] at this;simp at this ⊢; omega));clear hit7 hsz7;go_wp2_with ((with_reducible refine Hh7.out.mono ?_);rintro e w8 (⟨rfl,hJ8,hk8⟩ | ⟨rfl,q,hq,hx⟩))
        ·
         go_ret;refine .inl ⟨rfl,?_,(HkW.out.trans Hk2.out).trans hk8⟩;rw [HD.out];rw [if_pos hreal];simpa [List.append_assoc] using hJ8
        ·
         go_ret;obtain ⟨r,hr⟩:=hq;refine .inr ⟨rfl,(diffL loA.kvs loB.kvs++[⟨ck,co,cn,ca,cb⟩])++q,?_,by simpa [List.append_assoc] using hx⟩;rw [HD.out];rw [if_pos hreal];rw [← hr];exact ⟨r,by simp⟩
       ·
        have Hx2:=Lib.hid hx2;clear hx2 HR hy
        refine hK (fun _=>True) _ _ trivial ?_;clear hK hK0 K K0;iterate 2 (refine RegIn.can_reads ?_;intro K hK;go_simp;(first | (refine ⟨_,fun _ _=>rfl,hK _ ?_⟩) | (refine hK _ ?_));clear hK K)
        refine RegIn.can_nil ?_;go_wp2_with fail;go_ret;refine .inr ⟨rfl,diffL loA.kvs loB.kvs++[⟨ck,co,cn,ca,cb⟩],?_,by simpa [List.append_assoc] using Hx2.out⟩;rw [HD.out,if_pos hreal, ← List.append_assoc];exact ⟨_,rfl⟩
      | false =>
       have Hab:=Lib.hid (show ca=cb by simpa using hz1);clear hz1;iterate 2 (refine RegIn.can_reads ?_;intro K hK;go_simp;(first | (refine ⟨_,fun _ _=>rfl,hK _ ?_⟩) | (refine hK _ ?_));clear hK K)
       refine RegIn.can_reads ?_;intro K hK;go_simp;refine ⟨.string co,fun y hy=>?_,hK _ ?_⟩
       ·
        obtain ⟨f0,f1,f2,f3⟩:=(Hn6.out.below hy).cells;go_simp
       clear hK K;iterate 1 (refine RegIn.can_reads ?_;intro K hK;go_simp;(first | (refine ⟨_,fun _ _=>rfl,hK _ ?_⟩) | (refine hK _ ?_));clear hK K)
       refine RegIn.can_reads ?_;intro K hK;go_simp;refine ⟨.string cn,fun y hy=>?_,hK _ ?_⟩
       ·
        obtain ⟨f0,f1,f2,f3⟩:=(Hn6.out.below hy).cells;go_simp
       clear hK K;obtain ⟨z2,hz2⟩:∃ z,(!(co.toList == cn.toList))=z:=⟨_,rfl⟩;refine RegIn.can_reads ?_;intro K hK;go_simp;refine ⟨.bool z2,fun _ _=>by rw [← hz2],hK _ ?_⟩;clear hK K;cases z2 with
       | true =>
        have hne:co≠cn:=fun e=>by rw [e] at hz2;simp at hz2
        have hreal:Chg.real ⟨ck,co,cn,ca,cb⟩=true:=by simp [Chg.real,hne]
        clear hz2;iterate 2 (refine RegIn.can_reads ?_;intro K hK;go_simp;(first | (refine ⟨_,fun _ _=>rfl,hK _ ?_⟩) | (refine hK _ ?_));clear hK K)
        refine RegIn.can_reads ?_;intro K hK;go_simp;refine ⟨.func (.yield l) #[] #[],fun y hy=>?_,hK _ ?_⟩
        ·
         have f0:=(Hit4.out.below (Hb6.out.trans (KeptW.bel hy |>.mono Hb6.out.size))).cells.1;go_simp
        clear hK K;iterate 3 (refine RegIn.can_reads ?_;intro K hK;go_simp;(first | (refine ⟨_,fun _ _=>rfl,hK _ ?_⟩) | (refine hK _ ?_));clear hK K)
        refine RegIn.can_reads ?_;intro K hK;go_simp;refine ⟨.string ck,fun y hy=>?_,hK _ ?_⟩
        ·
         have f0:=Htc.out y (HkW.out.trans (Hk6.out y hy));go_simp
        clear hK K;refine RegIn.can_reads ?_;intro K hK;go_simp;refine ⟨.agg #[.string co,.string cn,.bool ca,.bool cb],fun y hy=>?_,hK _ ?_⟩
        ·
         obtain ⟨f0,f1,f2,f3⟩:=(Hn6.out.below hy).cells;go_simp
        clear hK K;have hy1:=HY.out 0 (pre++diffL loA.kvs loB.kvs) ⟨ck,co,cn,ca,cb⟩ W0 Hj6.out (by have:=HN2.out;rw [if_pos hreal] at this;simp at this ⊢; omega) (HG.out _ (by rw [HD0.out,HD.out,if_pos hreal];simp));obtain ⟨fn,tmps,assign,body,hy,hR⟩:=hy1;dsimp only [chgV,chgCells] at hy;have HR:=Lib.hid hR;clear hR
        refine RegIn.can_frees ?_;intro K K0 hK hK0;go_simp;refine HR.out.mono ?_;rintro e W2 (⟨rfl,hJ2,hk2⟩ | ⟨rfl,hx2⟩)
        ·
         have Hj2:=Lib.hid hJ2;clear hJ2 HR hy
         have Hk2:=Lib.hid ((Hk6.out W0 Hkd.out).trans hk2);clear hk2
         refine hK (fun _=>True) _ _ trivial ?_;clear hK hK0 K K0;iterate 2 (refine RegIn.can_reads ?_;intro K hK;go_simp;(first | (refine ⟨_,fun _ _=>rfl,hK _ ?_⟩) | (refine hK _ ?_));clear hK K)
         refine RegIn.can_nil ?_;have hit7:=(Hit.out.keep (HkW.out.trans Hk2.out) hYB hWB);have hc7:=hit7.cells.2;have hsz7:w3.heap.size≤W2.heap.size:=(Hk2.out).1.size;have Hh7:=Lib.hid (Hh.out (pre++diffL loA.kvs loB.kvs++[⟨ck,co,cn,ca,cb⟩]) W2 Hk2.out hit7 hsz7 Hj2.out (by have:=HN2.out;rw [if_pos hreal] at this;simp at this ⊢; omega));clear hit7 hsz7;go_wp2_with ((with_reducible refine Hh7.out.mono ?_);rintro e w8 (⟨rfl,hJ8,hk8⟩ | ⟨rfl,q,hq,hx⟩))
         ·
          go_ret;refine .inl ⟨rfl,?_,(HkW.out.trans Hk2.out).trans hk8⟩;rw [HD.out];rw [if_pos hreal];simpa [List.append_assoc] using hJ8
         ·
          go_ret;obtain ⟨r,hr⟩:=hq;refine .inr ⟨rfl,(diffL loA.kvs loB.kvs++[⟨ck,co,cn,ca,cb⟩])++q,?_,by simpa [List.append_assoc] using hx⟩;rw [HD.out];rw [if_pos hreal];rw [← hr];exact ⟨r,by simp⟩
        ·
         have Hx2:=Lib.hid hx2;clear hx2 HR hy
         refine hK (fun _=>True) _ _ trivial ?_;clear hK hK0 K K0;iterate 2 (refine RegIn.can_reads ?_;intro K hK;go_simp;(first | (refine ⟨_,fun _ _=>rfl,hK _ ?_⟩) | (refine hK _ ?_));clear hK K)
         refine RegIn.can_nil ?_;go_wp2_with fail;go_ret;refine .inr ⟨rfl,diffL loA.kvs loB.kvs++[⟨ck,co,cn,ca,cb⟩],?_,by simpa [List.append_assoc] using Hx2.out⟩;rw [HD.out,if_pos hreal, ← List.append_assoc];exact ⟨_,rfl⟩
       | false =>
        have hnr : ¬ Chg.real ⟨ck,co,cn,ca,cb⟩=true:=by
         have he:co=cn:=by
          have h1:co.toList=cn.toList:=by simpa using hz2
          rw [ByteArray.toList_eq,ByteArray.toList_eq] at h1;cases co;cases cn
          simpa using h1
         simp [Chg.real,Hab.out,he]
        clear hz2;have Hj0:=Lib.hid Hj6.out;have Hk0:=Lib.hid (Hk6.out W0 Hkd.out);iterate 8 (refine RegIn.can_reads ?_;intro K hK;go_simp;(first | (refine ⟨_,fun _ _=>rfl,hK _ ?_⟩) | (refine hK _ ?_));clear hK K)
        refine RegIn.can_frees ?_;intro K K0 hK hK0;go_simp;refine hK0 _ ?_;clear hK hK0 K K0;iterate 2 (refine RegIn.can_reads ?_;intro K hK;go_simp;(first | (refine ⟨_,fun _ _=>rfl,hK _ ?_⟩) | (refine hK _ ?_));clear hK K)
        refine RegIn.can_nil ?_;have hit7:=(Hit.out.keep (HkW.out.trans Hk0.out) hYB hWB);have hc7:=hit7.cells.2;have hsz7:w3.heap.size≤W0.heap.size:=(Hk0.out).1.size;have Hh7:=Lib.hid (Hh.out (pre++diffL loA.kvs loB.kvs) W0 Hk0.out hit7 hsz7 Hj0.out (by have:=HN2.out;rw [if_neg hnr] at this;simp at this ⊢; omega));clear hit7 hsz7;go_wp2_with ((with_reducible refine Hh7.out.mono ?_);rintro e w8 (⟨rfl,hJ8,hk8⟩ | ⟨rfl,q,hq,hx⟩))
        ·
         go_ret;refine .inl ⟨rfl,?_,(HkW.out.trans Hk0.out).trans hk8⟩;rw [HD.out];rw [if_neg hnr];simpa [List.append_assoc] using hJ8
        ·
         go_ret;obtain ⟨r,hr⟩:=hq;refine .inr ⟨rfl,(diffL loA.kvs loB.kvs++([]:List Chg))++q,?_,by simpa [List.append_assoc] using hx⟩;rw [HD.out];rw [if_neg hnr];rw [← hr];exact ⟨r,by simp⟩
     ·
      go_ret;exact .inr ⟨rfl,q,(by obtain ⟨r,hr⟩:=hq;rw [HD.out, ← hr];exact ⟨_,(List.append_assoc _ _ _).symm⟩),hx⟩
open Go.RowKit Go.Shelf
attribute [local go_sem] Oper.semAt_some
set_option maxHeartbeats 1000000 in
theorem diff1G_in (G:Chg→Prop) (n l Ba Bb n₀ Bl:Nat) (A B:Tr) (J Jx:List Chg→World→Prop) (B0:Nat) (hJ:AbidesFrom B0 J)
  (hY:∀ m pre x W,J pre W→pre.length<(diffL A.kvs B.kvs).length→G x→YieldAt Fence.wide m Tryz.prog l #[.string x.key,chgV x] W fun e W' =>
   (e=.returned (.bool true)∧J (pre++[x]) W'∧KeepC n₀ Bl W W')∨(e=.returned (.bool false)∧Jx (pre++[x]) W'))
  (W:World) (hBl:Bl≤W.heap.size) (hn₀:n₀≤W.heap.size) (hBa:W.cell? ⟨Ba,0,none⟩=some (.pointer A.ptr)) (hBb:W.cell? ⟨Bb,0,none⟩=some (.pointer B.ptr))
  (hA:TreeAt W A) (hB:TreeAt W B) (hoA:A.Out n₀ Bl) (hoB:B.Out n₀ Bl) (haA:Asc A.kvs) (haB:Asc B.kvs) (hc:A.cnt+B.cnt≤4611686018427387904) (h0:J [] W) (hG:∀ c ∈ diffL A.kvs B.kvs,G c) :
  CallsIn Fence.wide n Tryz.prog 187 #[.func (.yield l) #[] #[],.pointer (some ⟨Ba,0,none⟩),.pointer (some ⟨Bb,0,none⟩)] W fun e W'=>(∃ v,e=.returned v) ∧
   ((∃ ys,ys=diffL A.kvs B.kvs∧J ys W')∨(∃ pre,pre <+: diffL A.kvs B.kvs∧Jx pre W')):=by
 have hJd:∀ pre W W',J pre W→Below W.heap.size W W'→J pre W':=fun pre W W' h hb=>hJ pre W W' none h ⟨hb.os,hb.tape,hb.output,hb.size,fun q hq _=>hb.block q hq⟩ (fun r e=>by cases e)
 obtain ⟨PA,hPA⟩:∃ P,A.ptr=P:=⟨_,rfl⟩;obtain ⟨PB,hPB⟩:∃ P,B.ptr=P:=⟨_,rfl⟩;rw [hPA] at hBa;rw [hPB] at hBb;have hs1:(W.alloc (.cells #[.func (.yield l) #[] #[]] 282)).heap.size=W.heap.size+1:=by simp
 have hb3:Below W.heap.size W ((W.alloc (.cells #[.func (.yield l) #[] #[]] 282)).alloc (.cells #[(.func (.func 188) #[] #[.pointer (some ⟨W.heap.size+1,0,none⟩),.pointer (some ⟨W.heap.size,0,none⟩)])] 283)):=((Below.refl _ _).alloc (Nat.le_refl _) _).alloc (by simp) _;have hi3:DIterAt ((W.alloc (.cells #[.func (.yield l) #[] #[]] 282)).alloc (.cells #[(.func (.func 188) #[] #[.pointer (some ⟨W.heap.size+1,0,none⟩),.pointer (some ⟨W.heap.size,0,none⟩)])] 283)) l W.heap.size (W.heap.size+1) :=
  ⟨(Below.heap_alloc _ _ _ (by simp)).trans (heap_alloc_new W _),by
   have:=heap_alloc_new (W.alloc (.cells #[.func (.yield l) #[] #[]] 282)) (.cells #[(.func (.func 188) #[] #[.pointer (some ⟨W.heap.size+1,0,none⟩),.pointer (some ⟨W.heap.size,0,none⟩)])] 283);rwa [hs1] at this⟩
 have hc1:=hi3.cells.2;have hlt:∀ {Bt:Nat} {v:Value},W.cell? ⟨Bt,0,none⟩=some v→Bt<W.heap.size:=fun {Bt v} h=>by
  rcases Nat.lt_or_ge Bt W.heap.size with h1 | h1
  ·
   exact h1
  ·
   simp [World.cell?,Array.getElem?_eq_none h1] at h
 have hc2:=(hb3.cell (p:=⟨Ba,0,none⟩) (hlt hBa)).trans hBa;have hc3:=(hb3.cell (p:=⟨Bb,0,none⟩) (hlt hBb)).trans hBb;have hsz:=hb3.size;have Hw:=Lib.hid (diffWalkG_any G l W.heap.size (W.heap.size+1) n₀ Bl (diffL A.kvs B.kvs).length hBl (by omega) J Jx hJd hY _ A B [] _ (Nat.le_refl _) hc (hA.below hb3) (hB.below hb3) hoA hoB haA haB hi3 (Nat.le_trans hBl hsz) (Nat.le_trans hn₀ hsz) hG (hJd _ _ _ h0 hb3) (by simp));rw [hPA,hPB] at Hw;clear hb3 hi3 hs1 hY hA hB hG hJ hJd h0 hBa hBb hlt hPA hPB;refine callsIn_of_wp Tryz.func187 rfl trivial ?_ rfl;simp only [Tryz.ntmps187,List.size_toArray,List.length_cons,List.length_nil,Nat.reduceAdd,Nat.reduceSub,Array.replicate_succ,Array.replicate_zero,List.push_toArray,List.append_toArray,List.nil_append,List.cons_append];gi_wp2_with (refine ⟨trivial,(fun h=>(by cases h)),?_⟩;refine (callsIn_wide.2 Hw.out).mono ?_;rintro e W1 (⟨rfl,hJ1,_⟩ | ⟨rfl,q,hq,hx⟩))
 ·
  go_end0
  exact ⟨⟨_,rfl⟩,.inl ⟨_,rfl,by simpa using hJ1⟩⟩
 ·
  go_end0
  exact ⟨⟨_,rfl⟩,.inr ⟨q,hq,by simpa using hx⟩⟩
set_option maxHeartbeats 1000000 in
theorem diff_in (n:Nat) (pa pb:Option Addr) (w:World) :
  CallsIn Fence.wide n Tryz.prog 167 #[.pointer pa,.pointer pb] w fun e w'=>e=.returned (.func (.func 187) #[] #[.pointer (some ⟨w.heap.size,0,none⟩),.pointer (some ⟨w.heap.size+1,0,none⟩)]) ∧
   w'=(w.alloc (.cells #[.pointer pa] 32)).alloc (.cells #[.pointer pb] 32):=by
 refine callsIn_of_wp Tryz.func167 rfl trivial ?_ rfl;simp only [Tryz.ntmps167,List.size_toArray,List.length_cons,List.length_nil,Nat.reduceAdd,Nat.reduceSub,Array.replicate_succ,Array.replicate_zero,List.push_toArray,List.append_toArray,List.nil_append,List.cons_append];gi_wp2
 go_ret;exact ⟨rfl,rfl⟩
theorem diff_stopsG (G:Chg→Prop) (n Ba Bb n₀ Bl:Nat) (A B:Tr) (w:World) (hBa:Ba<w.heap.size) (hBb:Bb<w.heap.size) (hBl:Bl≤w.heap.size) (hn₀:n₀≤w.heap.size) (hca:w.cell? ⟨Ba,0,none⟩=some (.pointer A.ptr)) (hcb:w.cell? ⟨Bb,0,none⟩=some (.pointer B.ptr))
  (hA:TreeAt w A) (hB:TreeAt w B) (hoA:A.Out n₀ Bl) (hoB:B.Out n₀ Bl) (haA:Asc A.kvs) (haB:Asc B.kvs) (hc:A.cnt+B.cnt≤4611686018427387904) (hG:∀ c ∈ diffL A.kvs B.kvs,G c) :
  SeqStopsK Fence.wide n Tryz.prog 187 #[.pointer (some ⟨Ba,0,none⟩),.pointer (some ⟨Bb,0,none⟩)] (fun x:{c:Chg // G c}=>#[Value.string x.val.key,chgV x.val]) (KeepC n₀ Bl) (fun ys=>ys.map (·.val)=diffL A.kvs B.kvs) (fun pre=>pre.map (·.val) <+: diffL A.kvs B.kvs) (diffL A.kvs B.kvs).length w:=by
 intro l J Jx W hW hJ _ hY h0;refine (diff1G_in G n l Ba Bb n₀ Bl A B (fun p W=>∃ q:List {c:Chg // G c},p=q.map (·.val)∧J q W) (fun p W=>∃ q:List {c:Chg // G c},p=q.map (·.val)∧Jx q W) _
  (fun p W W' row h hg hr=>by obtain ⟨q,rfl,h⟩:=h;exact ⟨q,rfl,hJ q W W' row h hg hr⟩)
  (fun m pre x W hj hl hx=>yield_any rfl m (by
   obtain ⟨q,rfl,hq⟩:=hj;obtain ⟨fn,tmps,assign,body,hy,hR⟩:=hY q ⟨x,hx⟩ W hq (by simpa using hl);refine ⟨fn,tmps,assign,body,hy,hR.mono ?_⟩;rintro e W' (⟨rfl,h1,h2⟩ | ⟨rfl,h1⟩)
   ·
    exact .inl ⟨rfl,⟨q++[⟨x,hx⟩],by simp,h1⟩,h2⟩
   ·
    exact .inr ⟨rfl,q++[⟨x,hx⟩],by simp,h1⟩)) W (Nat.le_trans hBl hW.size) (Nat.le_trans hn₀ hW.size) ((hW.cell (p:=⟨Ba,0,none⟩) hBa).trans hca) ((hW.cell (p:=⟨Bb,0,none⟩) hBb).trans hcb)
   (hA.below hW) (hB.below hW) hoA hoB haA haB hc ⟨[],rfl,h0⟩ hG).mono ?_
 rintro e W' ⟨h1,⟨ys,hys,q,hq,h2⟩ | ⟨pre,hp,q,hq,h2⟩⟩
 ·
  exact ⟨h1,.inl ⟨q,by show q.map (·.val)=_;rw [← hq];exact hys,h2⟩⟩
 ·
  exact ⟨h1,.inr ⟨q,by show q.map (·.val) <+: _;rw [← hq];exact hp,h2⟩⟩
theorem asc_cons {p:ByteArray × ByteArray} {L:Prs} (h:Asc (p::L)):(∀ q ∈ L,slt p.1 q.1=true)∧Asc L:=List.pairwise_cons.1 h
theorem diff_keys:∀ (n:Nat) {A B:Prs} {c:Chg},A.length+B.length≤n→c ∈ diffL A B→(∃ v,(c.key,v) ∈ A)∨∃ v,(c.key,v) ∈ B
 | n,[],[],c,_,h=>by rw [diff_nil_nil] at h;simp at h
 | 0,p::A,_,c,h,_=>by simp at h
 | 0,[],q::B,c,h,_=>by simp at h
 | n+1,p::A,[],c,h,hc=>by
  rw [diff_cons_nil] at hc;rcases List.mem_cons.1 hc with rfl | hc
  ·
   exact .inl ⟨p.2,by simp [cDel]⟩
  ·
   rcases diff_keys n (by simpa using h) hc with ⟨v,h1⟩ | ⟨v,h1⟩
   ·
    exact .inl ⟨v,by simp [h1]⟩
   ·
    exact .inr ⟨v,h1⟩
 | n+1,[],q::B,c,h,hc=>by
  rw [diff_nil_cons] at hc;rcases List.mem_cons.1 hc with rfl | hc
  ·
   exact .inr ⟨q.2,by simp [cAdd]⟩
  ·
   rcases diff_keys n (by simpa using h) hc with ⟨v,h1⟩ | ⟨v,h1⟩
   ·
    exact .inl ⟨v,h1⟩
   ·
    exact .inr ⟨v,by simp [h1]⟩
 | n+1,p::A,q::B,c,h,hc=>by
  simp only [List.length_cons] at h;rw [diff_cons_cons] at hc;split at hc
  ·
   rcases List.mem_cons.1 hc with rfl | hc
   ·
    exact .inl ⟨p.2,by simp [cDel]⟩
   ·
    rcases diff_keys n (by simp;omega) hc with ⟨v,h1⟩ | ⟨v,h1⟩
    ·
     exact .inl ⟨v,by simp [h1]⟩
    ·
     exact .inr ⟨v,h1⟩
  split at hc
  ·
   rcases List.mem_cons.1 hc with rfl | hc
   ·
    exact .inr ⟨q.2,by simp [cAdd]⟩
   ·
    rcases diff_keys n (by simp;omega) hc with ⟨v,h1⟩ | ⟨v,h1⟩
    ·
     exact .inl ⟨v,h1⟩
    ·
     exact .inr ⟨v,by simp [h1]⟩
  split at hc
  ·
   rcases diff_keys n (by omega) hc with ⟨v,h1⟩ | ⟨v,h1⟩
   ·
    exact .inl ⟨v,by simp [h1]⟩
   ·
    exact .inr ⟨v,by simp [h1]⟩
  ·
   rcases List.mem_cons.1 hc with rfl | hc
   ·
    exact .inl ⟨p.2,by simp⟩
   ·
    rcases diff_keys n (by omega) hc with ⟨v,h1⟩ | ⟨v,h1⟩
    ·
     exact .inl ⟨v,by simp [h1]⟩
    ·
     exact .inr ⟨v,by simp [h1]⟩
theorem diff_above {k:ByteArray} {A B:Prs} {c:Chg} (hA:∀ q ∈ A,slt k q.1=true) (hB:∀ q ∈ B,slt k q.1=true) (h:c ∈ diffL A B):slt k c.key=true:=by
 rcases diff_keys _ (Nat.le_refl _) h with ⟨v,h1⟩ | ⟨v,h1⟩
 ·
  exact hA _ h1
 ·
  exact hB _ h1
def SideOk (A:Prs) (k v:ByteArray) (b:Bool):Prop:=(b=true∧(k,v) ∈ A)∨(b=false∧v=ByteArray.empty∧∀ u,(k,u) ∉ A)
theorem SideOk.cons {A:Prs} {k v:ByteArray} {b:Bool} {p:ByteArray × ByteArray} (h:SideOk A k v b) (hp:slt p.1 k=true):SideOk (p::A) k v b:=by
 rcases h with ⟨h1,h2⟩ | ⟨h1,h2,h3⟩
 ·
  exact .inl ⟨h1,by simp [h2]⟩
 ·
  refine .inr ⟨h1,h2,fun u hu=>?_⟩;rcases List.mem_cons.1 hu with h4 | h4
  ·
   rw [← h4,slt_irrefl] at hp;cases hp
  ·
   exact h3 u h4
theorem SideOk.none {A:Prs} {k:ByteArray} (h:∀ q ∈ A,slt k q.1=true):SideOk A k ByteArray.empty false :=
 .inr ⟨rfl,rfl,fun u hu=>by have:=h _ hu;rw [slt_irrefl] at this;cases this⟩
structure ElemOk (A B:Prs) (c:Chg):Prop where
 a:SideOk A c.key c.old c.had
 b:SideOk B c.key c.new c.has
 r:c.real=true
theorem slt_or {a b:ByteArray} (h : ¬ slt a b=true) (k : ¬ slt b a=true):a=b:=slt_total (by simpa using h) (by simpa using k)
theorem diff_elem:∀ (n:Nat) {A B:Prs},A.length+B.length≤n→Asc A→Asc B→(∀ c ∈ diffL A B,ElemOk A B c)∧(diffL A B).Pairwise (fun c d=>slt c.key d.key=true)
 | n,[],[],_,_,_=>by rw [diff_nil_nil];exact ⟨fun c hc=>(by simp at hc),List.Pairwise.nil⟩
 | 0,p::A,_,h,_,_=>by simp at h
 | 0,[],q::B,h,_,_=>by simp at h
 | n+1,p::A,[],h,hA,hB=>by
  obtain ⟨h1,h2⟩:=asc_cons hA;obtain ⟨i1,i2⟩:=diff_elem n (A:=A) (B:=[]) (by simpa using h) h2 hB;rw [diff_cons_nil];have hab:∀ c ∈ diffL A [],slt p.1 c.key=true:=fun c hc=>diff_above h1 (fun q hq=>by simp at hq) hc
  refine ⟨fun c hc=>?_,List.pairwise_cons.2 ⟨hab,i2⟩⟩;rcases List.mem_cons.1 hc with rfl | hc
  ·
   exact ⟨.inl ⟨rfl,by simp [cDel]⟩,.none (fun q hq=>by simp at hq),rfl⟩
  ·
   exact ⟨(i1 c hc).a.cons (hab c hc),(i1 c hc).b,(i1 c hc).r⟩
 | n+1,[],q::B,h,hA,hB=>by
  obtain ⟨h1,h2⟩:=asc_cons hB;obtain ⟨i1,i2⟩:=diff_elem n (A:=[]) (B:=B) (by simpa using h) hA h2;rw [diff_nil_cons];have hab:∀ c ∈ diffL [] B,slt q.1 c.key=true:=fun c hc=>diff_above (fun q hq=>by simp at hq) h1 hc
  refine ⟨fun c hc=>?_,List.pairwise_cons.2 ⟨hab,i2⟩⟩;rcases List.mem_cons.1 hc with rfl | hc
  ·
   exact ⟨.none (fun q hq=>by simp at hq),.inl ⟨rfl,by simp [cAdd]⟩,rfl⟩
  ·
   exact ⟨(i1 c hc).a,(i1 c hc).b.cons (hab c hc),(i1 c hc).r⟩
 | n+1,p::A,q::B,h,hA,hB=>by
  simp only [List.length_cons] at h;obtain ⟨h1,h2⟩:=asc_cons hA;obtain ⟨g1,g2⟩:=asc_cons hB;rw [diff_cons_cons];by_cases hpq:slt p.1 q.1=true
  ·
   rw [if_pos hpq];have hall:∀ x ∈ q::B,slt p.1 x.1=true:=fun x hx=>by
    rcases List.mem_cons.1 hx with rfl | hx
    ·
     exact hpq
    ·
     exact slt_trans hpq (g1 x hx)
   obtain ⟨i1,i2⟩:=diff_elem n (A:=A) (B:=q::B) (by simp;omega) h2 hB;have hab:∀ c ∈ diffL A (q::B),slt p.1 c.key=true:=fun c hc=>diff_above h1 hall hc
   refine ⟨fun c hc=>?_,List.pairwise_cons.2 ⟨hab,i2⟩⟩;rcases List.mem_cons.1 hc with rfl | hc
   ·
    exact ⟨.inl ⟨rfl,by simp [cDel]⟩,.none hall,rfl⟩
   ·
    exact ⟨(i1 c hc).a.cons (hab c hc),(i1 c hc).b,(i1 c hc).r⟩
  rw [if_neg hpq];by_cases hqp:slt q.1 p.1=true
  ·
   rw [if_pos hqp];have hall:∀ x ∈ p::A,slt q.1 x.1=true:=fun x hx=>by
    rcases List.mem_cons.1 hx with rfl | hx
    ·
     exact hqp
    ·
     exact slt_trans hqp (h1 x hx)
   obtain ⟨i1,i2⟩:=diff_elem n (A:=p::A) (B:=B) (by simp;omega) hA g2;have hab:∀ c ∈ diffL (p::A) B,slt q.1 c.key=true:=fun c hc=>diff_above hall g1 hc
   refine ⟨fun c hc=>?_,List.pairwise_cons.2 ⟨hab,i2⟩⟩;rcases List.mem_cons.1 hc with rfl | hc
   ·
    exact ⟨.none hall,.inl ⟨rfl,by simp [cAdd]⟩,rfl⟩
   ·
    exact ⟨(i1 c hc).a,(i1 c hc).b.cons (hab c hc),(i1 c hc).r⟩
  rw [if_neg hqp];have he:p.1=q.1:=slt_or hpq hqp;obtain ⟨i1,i2⟩:=diff_elem n (A:=A) (B:=B) (by omega) h2 g2;have hab:∀ c ∈ diffL A B,slt p.1 c.key=true:=fun c hc=>diff_above h1 (fun x hx=>by rw [he];exact g1 x hx) hc
  have hin:∀ c ∈ diffL A B,ElemOk (p::A) (q::B) c:=fun c hc=>⟨(i1 c hc).a.cons (hab c hc),(i1 c hc).b.cons (by rw [← he];exact hab c hc),(i1 c hc).r⟩
  by_cases hv:p.2=q.2
  ·
   rw [if_pos hv];exact ⟨hin,i2⟩
  ·
   rw [if_neg hv];refine ⟨fun c hc=>?_,List.pairwise_cons.2 ⟨hab,i2⟩⟩;rcases List.mem_cons.1 hc with rfl | hc
   ·
    refine ⟨.inl ⟨rfl,by simp⟩,.inl ⟨rfl,?_⟩,by simp [Chg.real,hv]⟩;show (p.1,q.2) ∈ q::B;rw [he];simp
   ·
    exact hin c hc
end Go.Proofs.YtbckjgageofldaaGreat
