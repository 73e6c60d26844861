/- An argument that is a slice of structs of one-cell fields, opened to its cells, typed. Over any program. Condition: each field of the struct is one cell. -/
import Derived.WalkKit
import Derived.Deep.Slices
import Derived.Deep.Fields
import Derived.ChangeSame
import Derived.Below
import Derived.Test.YtbckjgageofldaaGreatZLearnPlays5
import Derived.OwnWalk
import Derived.Maps.AppendAt
import Derived.Laws.AppendOwnNone
import Derived.Deep.DeepCutAuto
import Derived.Test.YtbckjgageofldaaGreatZLearnPlays0
set_option maxRecDepth 100000
namespace Go.Proofs.YtbckjgageofldaaGreat
open Go.ChangeShapes Go.WideShapes Go.Deep Go.RowKit
structure SliceAt {α:Type} (k:Nat) (enc:α→List Value) (w:World) (a:Option Addr) (len:Nat) (z:List α):Prop where
 hlen:z.length=len
 hmax:len≤maxLen
 cells:∀ (i:Nat) (x:α),z[i]?=some x→∃ b o,a=some ⟨b,o,none⟩∧b<w.heap.size∧∀ j v,(enc x)[j]?=some v→w.cell? ⟨b,o+(i*k+j),none⟩=some v
theorem SliceAt.below {α:Type} {k:Nat} {enc:α→List Value} {w w':World} {a:Option Addr} {len:Nat} {z:List α} (h:SliceAt k enc w a len z) (hb:Below w.heap.size w w'):SliceAt k enc w' a len z:=by
 refine ⟨h.hlen,h.hmax,fun i x hi=>?_⟩;obtain ⟨b,o,h1,h2,h3⟩:=h.cells i x hi;refine ⟨b,o,h1,Nat.lt_of_lt_of_le h2 hb.size,fun j v hj=>?_⟩;rw [← h3 j v hj];simp only [World.cell?,hb.block b h2]
section
variable {H : Type} {enc : TypeId × Value → H} {P : Program} {w : World} {base : Nat} {spare : Nat → Bool} {held : Bool}
theorem open_rows {α:Type} [Inhabited α] (toCells:α→List Value) {t e:TypeId} {fs:Array Field} {a:Option Addr} {len cap:Nat} {d:DataW H} {pl:List MemPlace} (ht:P.underlying t=some (.slice e)) (he:P.underlying e=some (.struct fs))
  (hone:oneCellFields P fs=true) (hC:P.cellsOf e=fs.size) (hpos:0<fs.size)
  (hx:∀ vs:List Value,vs.length=fs.size→(∀ (j:Nat) (f:Field),fs[j]?=some f→∃ (v:Value) (y:DataW H × List MemPlace) (n:Nat),vs[j]?=some v∧DataW.trod enc P w base spare held n f.type [v]=some y)→∃ x:α,vs=toCells x)
  (h:DataW.Trod enc P w base spare held t (.slice a len cap) d pl):∃ z:List α,SliceAt fs.size toCells w a len z:=by
 obtain ⟨m,hm⟩:=h;rcases open_slice ht hm with ⟨h0,_⟩ | ⟨p,ln,cp,mm,n,D,Pl,hcs,hb,hl,hmx,hmm,_,hi⟩
 ·
  have h0':[Value.slice a len cap]=[Value.slice none 0 0]:=h0;simp only [List.cons.injEq,Value.slice.injEq,and_true] at h0';obtain ⟨rfl,rfl,rfl⟩:=h0';exact ⟨[],rfl,Nat.zero_le _,fun i x hx=>by simp at hx⟩
 ·
  have h0':[Value.slice a len cap]=[Value.slice (some p) ln cp]:=hcs;simp only [List.cons.injEq,Value.slice.injEq,and_true] at h0';obtain ⟨rfl,rfl,rfl⟩:=h0';have hlm:len≤mm:=by rw [hmm];split <;> omega
  obtain ⟨g,hg⟩:=choose_lt (n:=len) (p:=fun i (x:α)=>w.cells? base (p.add (i*fs.size)) fs.size=some (toCells x)∧(toCells x).length=fs.size) (fun i hil=>by
   obtain ⟨cs',h1,h2⟩:=hi i (by omega);rw [hC] at h1;obtain ⟨ys,n',_,_,hlen,hyl,hf⟩:=DataW.trod_struct he h2;obtain ⟨_,hcl,_⟩:=World.cells?_some h1;obtain ⟨x,rfl⟩:=hx cs' hcl (fun j f hj=>by
    have hjl:j<fs.size:=(Array.getElem?_eq_some_iff.1 hj).1;obtain ⟨ho,hk⟩:=hone_of hone j f hj;have hq:=hf j f hj;rw [ho,hk,take1_drop _ _ undef (by omega)] at hq;refine ⟨cs'.getD j undef,ys[j]'(by omega),n',?_,?_⟩
    ·
     simp [List.getD,List.getElem?_eq_getElem (show j<cs'.length by omega)]
    ·
     rw [hq,List.getElem?_eq_getElem (by omega)])
   exact ⟨x,h1,hcl⟩)
  refine ⟨(List.range len).map g,by simp,by omega,fun i x hix=>?_⟩;have hil:i<len:=by
   have:=(List.getElem?_eq_some_iff.1 hix).1;simpa using this
  have hgx:g i=x:=by simpa [hil] using hix
  obtain ⟨h1,h2⟩:=hg i hil;rw [hgx] at h1 h2;obtain ⟨_,_,hcell⟩:=World.cells?_some h1;obtain ⟨b,o,sp⟩:=p;obtain ⟨g1,g2⟩:=hg 0 (by omega);obtain ⟨_,_,gcell⟩:=World.cells?_some g1;have h00:=gcell 0 hpos;rw [List.getElem?_eq_getElem (by omega)] at h00;have hspot:sp=none:=by simpa [Addr.add] using World.cell?_spot h00
  subst hspot;have hlt:=World.block_lt_of_cell? _ _ h00;refine ⟨b,o,rfl,?_,fun j v hj=>?_⟩
  ·
   simpa [Addr.add] using hlt
  ·
   have hjl:j<fs.size:=by
    have:=(List.getElem?_eq_some_iff.1 hj).1;omega
   have:=hcell j hjl;rw [add_add,hj] at this;rw [← this,add_plain]
end
theorem CmdAt.thawed {w:World} {b:Nat} {c:CmdV} (h:CmdAt w b c) (j:Nat):w.frozen? ⟨b,j,none⟩=false:=by
 unfold CmdAt at h;simp [World.frozen?,h]
theorem tree_any (P:Option Addr) (w:World):Calls Tryz.prog 107 #[.agg #[.pointer P]] w fun e w'=>e=.returned (.pointer P)∧Below w.heap.size w w':=by
 have hb1:=(Below.refl w.heap.size w).alloc (Nat.le_refl _) (.cells #[.pointer P] 34);have h1:=VarAt.new w (.pointer P) 34;go_enter Tryz.func107,Tryz.ntmps107
 go_upto_region 1 with fail;change Code.wp _ _ _ _ (w.alloc (.cells #[.pointer P] 34));generalize w.alloc (.cells #[.pointer P] 34)=w1 at *;have c0:=h1.cell;go_wp2_with fail;go_ret;exact ⟨rfl,hb1⟩
theorem layRep (ρ:Operand→Value) (x:World) (o:Oper) (h:o.op=.alloc 27):(execOp ρ o).run Tryz.prog x=.ok (.value (RegL.ptr x.heap.size)) (x.alloc (.cells (repCells 0 ByteArray.empty).toArray 27 (0,0))):=by
 simp only [execOp,h];go_simp;exact ⟨rfl,rfl⟩
structure TAct where
 act:BitVec 8
 key:ByteArray
 val:ByteArray
instance:Inhabited TAct:=⟨⟨0,ByteArray.empty,ByteArray.empty⟩⟩
theorem tr_u8 {n:Int} (h:(Lit.int .u8 n).wf=true):∃ x:BitVec 8,n=(x.toNat:Int):=by
 have h':0≤n∧n≤255:=by simpa [Lit.wf,IntKind.min,IntKind.max,IntKind.signed,IntKind.bits] using h
 exact ⟨BitVec.ofInt 8 n,by simp only [BitVec.toNat_ofInt];omega⟩
theorem tsucc {n:Nat} (h:n≤9223372036854775806):IntKind.i64.wrap ((n:Int)+1)=((n+1:Nat):Int):=by rw [IntKind.wrap_i64] <;> omega
def stepSh (x:TAct) (S:Sh):Sh:=if x.act.toNat=0 then delSh x.key S (S.look x.key) else putSh x.key x.val S (S.look x.key)
abbrev CmdsAt:=SliceAt 7 cmdCells
theorem tr_u32 {n:Int} (h:(Lit.int .u32 n).wf=true):∃ x:BitVec 32,n=(x.toNat:Int):=by
 have h':0≤n∧n≤4294967295:=by simpa [Lit.wf,IntKind.min,IntKind.max,IntKind.signed,IntKind.bits] using h
 exact ⟨BitVec.ofInt 32 n,by simp only [BitVec.toNat_ofInt];omega⟩
theorem cmds_open {H:Type} {enc:TypeId × Value→H} {w:World} {base:Nat} {spare:Nat→Bool} {held:Bool} {a:Option Addr} {len cap:Nat} {d:DataW H} {pl:List MemPlace}
  (h:DataW.Trod enc Tryz.prog w base spare held 70 (.slice a len cap) d pl):∃ z:List CmdV,CmdsAt w a len z:=by
 refine open_rows cmdCells Tryz.underlying70 Tryz.underlying56 (by kernel_rfl) (by kernel_rfl) (by decide) ?_ h;intro vs hl hf;obtain ⟨v0,y0,n0,e0,t0⟩:=hf 0 _ rfl;obtain ⟨v1,y1,n1,e1,t1⟩:=hf 1 _ rfl;obtain ⟨v2,y2,n2,e2,t2⟩:=hf 2 _ rfl;obtain ⟨v3,y3,n3,e3,t3⟩:=hf 3 _ rfl;obtain ⟨v4,y4,n4,e4,t4⟩:=hf 4 _ rfl;obtain ⟨v5,y5,n5,e5,t5⟩:=hf 5 _ rfl;obtain ⟨v6,y6,n6,e6,t6⟩:=hf 6 _ rfl;obtain ⟨m0,q0,_,f0⟩:=DataW.trod_int Tryz.underlying5 t0;obtain ⟨m1,q1,_,f1⟩:=DataW.trod_int Tryz.underlying25 t1;obtain ⟨m2,q2,_,f2⟩:=DataW.trod_int Tryz.underlying5 t2;obtain ⟨m3,q3,_,_⟩:=DataW.trod_string Tryz.underlying9 t3;obtain ⟨m4,q4,_,_⟩:=DataW.trod_string Tryz.underlying9 t4;obtain ⟨m5,q5,_,_⟩:=DataW.trod_string Tryz.underlying9 t5;obtain ⟨m6,q6,_,f6⟩:=DataW.trod_int Tryz.underlying5 t6;obtain ⟨x0,rfl⟩:=tr_u8 f0;obtain ⟨x1,rfl⟩:=tr_u32 f1;obtain ⟨x2,rfl⟩:=tr_u8 f2;obtain ⟨x6,rfl⟩:=tr_u8 f6;simp only [List.cons.injEq,and_true] at q0 q1 q2 q3 q4 q5 q6;subst q0 q1 q2 q3 q4 q5 q6;refine ⟨⟨x0,x1,⟨x2⟩,m3,m4,m5,x6⟩,?_⟩;match vs,hl with
 | [a0,a1,a2,a3,a4,a5,a6],_ =>
  simp only [List.getElem?_cons_zero,List.getElem?_cons_succ,Option.some.injEq] at e0 e1 e2 e3 e4 e5 e6;rw [e0,e1,e2,e3,e4,e5,e6];rfl
theorem cmds_cells {w:World} {a:Option Addr} {len:Nat} {z:List CmdV} (h:CmdsAt w a len z) {i:Nat} (hi:i<len) :
  ∃ b o,a=some ⟨b,o,none⟩∧b<w.heap.size∧w.cell? ⟨b,o+i*7,none⟩=some (.int .u8 ((z.getD i default).client.toNat:Int)) ∧
   w.cell? ⟨b,o+i*7+1,none⟩=some (.int .u32 ((z.getD i default).seq.toNat:Int))∧w.cell? ⟨b,o+i*7+2,none⟩=some (.int .u8 ((z.getD i default).kind.toNat:Int)) ∧
   w.cell? ⟨b,o+i*7+3,none⟩=some (.string (z.getD i default).key)∧w.cell? ⟨b,o+i*7+4,none⟩=some (.string (z.getD i default).old) ∧
   w.cell? ⟨b,o+i*7+5,none⟩=some (.string (z.getD i default).fresh)∧w.cell? ⟨b,o+i*7+6,none⟩=some (.int .u8 ((z.getD i default).set.toNat:Int)):=by
 have hl:=h.hlen;have hz:z[i]?=some (z.getD i default):=by simp [List.getD,List.getElem?_eq_getElem (show i<z.length by omega)]
 obtain ⟨b,o,h1,h2,h3⟩:=h.cells i _ hz;exact ⟨b,o,h1,h2,h3 0 _ rfl,h3 1 _ rfl,h3 2 _ rfl,h3 3 _ rfl,h3 4 _ rfl,h3 5 _ rfl,h3 6 _ rfl⟩
def kgreatS (z:List CmdV):Bool:=decide (100<z.length) || z.any fun x=>decide (300<x.key.size) || (decide (300<x.old.size) || decide (300<x.fresh.size))
theorem kgreat_ok {z:List CmdV} (h:kgreatS z=false):z.length≤100∧∀ i,i<z.length→(z.getD i default).key.size≤300∧(z.getD i default).old.size≤300∧(z.getD i default).fresh.size≤300:=by
 simp only [kgreatS,Bool.or_eq_false_iff,decide_eq_false_iff_not,List.any_eq_false] at h;refine ⟨by omega,fun i hi=>?_⟩;have:=h.2 (z.getD i default) (by rw [List.getD,List.getElem?_eq_getElem hi];exact List.getElem_mem _);simp only [Bool.or_eq_true,decide_eq_true_eq,not_or] at this;omega
set_option maxHeartbeats 2000000 in
theorem kgreat_any (a:Option Addr) (len cap:Nat) (z:List CmdV) (w:World) (h:CmdsAt w a len z) :
  Calls Tryz.prog 16 #[.slice a len cap] w fun e w'=>e=.returned (.bool (kgreatS z))∧w=w':=by
 have hl:=h.hlen;have hm:=h.hmax;unfold maxLen at hm;by_cases hbig:100<len
 ·
  have hg:kgreatS z=true:=by simp [kgreatS,hl,hbig]
  have hbig':(100:Int)<(len:Int):=by omega
  have H:=Lib.hid h;clear h
  have Hg:=Lib.hid hg;clear hg
  clear hl;go_enter Tryz.func16,Tryz.ntmps16
  go_wp2_with fail;go_ret;exact ⟨by rw [Hg.out];rfl,rfl⟩
 ·
  have hbig' : ¬ (100:Int)<(len:Int):=by omega
  have Hl:=Lib.hid hl;clear hl
  have H:=Lib.hid h;clear h
  go_enter Tryz.func16,Tryz.ntmps16
  go_wp2_with fail;go_loopw [3] (fun s3 wr=>wr=w∧∃ i:Nat,i≤len∧s3=.int .i64 (i:Int)∧∀ j,j<i→(z.getD j default).key.size≤300∧(z.getD j default).old.size≤300∧(z.getD j default).fresh.size≤300) (fun s3 _=>len - (intOf s3).toNat)
  case atStart=>exact ⟨rfl,0,by omega,rfl,by omega⟩
  case round =>
   obtain ⟨rfl,i,hi,rfl,hall⟩:=hrel;by_cases hlt:i<len
   ·
    have hlt':(i:Int)<(len:Int):=by omega
    obtain ⟨b,o,rfl,_,_,_,c0,c1,c2,c3,_⟩:=cmds_cells H.out hlt;have hgt:300<(z.getD i default).key.size∨300<(z.getD i default).old.size∨300<(z.getD i default).fresh.size→kgreatS z=true:=by
     intro hg;have hm':z.getD i default ∈ z:=by
      have:=Hl.out;simp only [List.getD,List.getElem?_eq_getElem (show i<z.length by omega),Option.getD_some];exact List.getElem_mem _
     simp only [kgreatS,Bool.or_eq_true,List.any_eq_true,decide_eq_true_eq];exact .inr ⟨_,hm',hg⟩
    have Hgt:=Lib.hid hgt;clear hgt
    clear c0;have Hall:=Lib.hid hall;clear hall
    have hsize:=tsucc (n:=i) (by omega);generalize hv:(z.getD i default).key=u at *
    generalize hv2:(z.getD i default).old=v at *
    generalize hv3:(z.getD i default).fresh=x at *
    have Hv:=Lib.hid hv;clear hv
    have Hv2:=Lib.hid hv2;clear hv2
    have Hv3:=Lib.hid hv3;clear hv3
    by_cases hg:300<u.size
    ·
     have hg':(300:Int)<(u.size:Int):=by omega
     go_wp2_with fail;go_ret;exact ⟨by rw [Hgt.out (.inl hg)];rfl,rfl⟩
    ·
     have hg' : ¬ (300:Int)<(u.size:Int):=by omega
     by_cases hg2:300<v.size
     ·
      have hg2':(300:Int)<(v.size:Int):=by omega
      go_wp2_with fail;go_ret;exact ⟨by rw [Hgt.out (.inr (.inl hg2))];rfl,rfl⟩
     ·
      have hg2' : ¬ (300:Int)<(v.size:Int):=by omega
      by_cases hg3:300<x.size
      ·
       have hg3':(300:Int)<(x.size:Int):=by omega
       go_wp2_with fail;go_ret;exact ⟨by rw [Hgt.out (.inr (.inr hg3))];rfl,rfl⟩
      ·
       have hg3' : ¬ (300:Int)<(x.size:Int):=by omega
       go_wp2_with fail;go_roundw
       case rel =>
        refine ⟨trivial,i+1,by omega,rfl,fun j hj=>?_⟩;by_cases e:j=i
        ·
         subst e;rw [Hv.out,Hv2.out,Hv3.out];omega
        ·
         exact Hall.out j (by omega)
       case measure=>simp [intOf];omega
   ·
    have hlt' : ¬ (i:Int)<(len:Int):=by omega
    have hg:kgreatS z=false:=by
     have hl:=Hl.out;simp only [kgreatS,Bool.or_eq_false_iff,decide_eq_false_iff_not,List.any_eq_false];refine ⟨by omega,fun x hx=>?_⟩;obtain ⟨j,hj,rfl⟩:=List.getElem_of_mem hx;have:=hall j (by omega);rw [List.getD,List.getElem?_eq_getElem hj] at this;simpa using this
    have Hg:=Lib.hid hg;clear hg hall
    go_wp2_with fail;go_ret;exact ⟨by rw [Hg.out];rfl,rfl⟩
def tA:ByteArray:=⟨#[97]⟩
def tB:ByteArray:=⟨#[98]⟩
def t1:ByteArray:=⟨#[49]⟩
def t2:ByteArray:=⟨#[50]⟩
def t3:ByteArray:=⟨#[51]⟩
def s1:Sh:=stepSh ⟨1,tA,t1⟩ .nil
def s2:Sh:=stepSh ⟨1,tB,t2⟩ s1
def s3:Sh:=stepSh ⟨0,tB,tB⟩ s2
def s4:Sh:=stepSh ⟨1,tA,t3⟩ s3
def s5:Sh:=stepSh ⟨0,tA,tA⟩ s4
abbrev Prs:=List (ByteArray × ByteArray)
def pairCells (p:ByteArray × ByteArray):List Value:=[.string p.1,.string p.2]
def flatPairs (L:Prs):List Value:=L.flatMap pairCells
abbrev PairsAt:=SliceAt 2 pairCells
def pdflt:ByteArray × ByteArray:=(ByteArray.empty,ByteArray.empty)
theorem pairs_len (L:Prs):(flatPairs L).length=L.length*2:=by
 induction L with
 | nil=>rfl
 | cons a L ih=>simp only [flatPairs,List.flatMap_cons,List.length_append,List.length_cons] at ih ⊢; rw [ih];simp [pairCells];omega
theorem pairs_at:∀ (l:Prs) (i:Nat) (x:ByteArray × ByteArray) (j:Nat) (v:Value),l[i]?=some x→(pairCells x)[j]?=some v→(flatPairs l)[i*2+j]?=some v
 | [],i,x,j,v,h,_=>by simp at h
 | p::l,0,x,j,v,h,hj=>by
  have hj2:j<2:=(List.getElem?_eq_some_iff.1 hj).1;simp only [List.getElem?_cons_zero,Option.some.injEq] at h;subst h;simp only [flatPairs,List.flatMap_cons,Nat.zero_mul,Nat.zero_add];rw [List.getElem?_append_left (by simpa [pairCells] using hj2)];exact hj
 | p::l,i+1,x,j,v,h,hj=>by
  simp only [List.getElem?_cons_succ] at h;have:=pairs_at l i x j v h hj;simp only [flatPairs,List.flatMap_cons];rw [List.getElem?_append_right (by simp [pairCells];omega)];have e:(i+1)*2+j - (pairCells p).length=i*2+j:=by simp [pairCells];omega
  rw [e];exact this
theorem PairsAt.of_own {w:World} {base:Nat} {t:TypeId} {A:Option Addr} {n c:Nat} {l:Prs} (h:w.ownsRow base t 2 (.slice A n c) n (flatPairs l)):PairsAt w A n l:=by
 have hl:l.length=n:=by have:=h.1;rw [pairs_len] at this;omega
 rcases h.2 with ⟨e1,e2⟩ | ⟨g,cap,cur,e1,h2,h3,h4,h5,_,_⟩
 ·
  subst e2;exact ⟨hl,Nat.zero_le _,fun i x hi=>by
   have:l=[]:=List.length_eq_zero_iff.1 hl;rw [this] at hi;simp at hi⟩
 ·
  simp only [Value.slice.injEq] at e1;obtain ⟨rfl,_,rfl⟩:=e1;refine ⟨hl,by omega,fun i x hi=>⟨g,0,rfl,(Array.getElem?_eq_some_iff.1 h3).1,fun j v hj=>?_⟩⟩;have:=h.cells (g:=g) rfl (i*2+j) v (pairs_at l i x j v hi hj);rw [WideShapes.add_plain] at this;exact this
theorem pairs_get {w:World} {A:Option Addr} {n i:Nat} {L:Prs} (h:PairsAt w A n L) (hi:i<n) :
  ∃ b o,A=some ⟨b,o,none⟩∧b<w.heap.size∧w.cell? ⟨b,o+i*2,none⟩=some (.string (L.getD i pdflt).1)∧w.cell? ⟨b,o+i*2+1,none⟩=some (.string (L.getD i pdflt).2):=by
 have hl:=h.hlen;have hz:L[i]?=some (L.getD i pdflt):=by simp [List.getD,List.getElem?_eq_getElem (show i<L.length by omega)]
 obtain ⟨b,o,h1,h2,h3⟩:=h.cells i _ hz;exact ⟨b,o,h1,h2,h3 0 _ rfl,h3 1 _ rfl⟩
theorem pair_cell:∀ (M:Prs) (j:Nat) (u:Value),(flatPairs M)[j]?=some u→∃ p,M[j / 2]?=some p∧(pairCells p)[j % 2]?=some u
 | [],j,u,h=>by simp [flatPairs] at h
 | p::M,0,u,h=>⟨p,rfl,by simpa [flatPairs,pairCells] using h⟩
 | p::M,1,u,h=>⟨p,rfl,by simpa [flatPairs,pairCells] using h⟩
 | p::M,j+2,u,h=>by
  have h':(flatPairs M)[j]?=some u:=by
   simp only [flatPairs,List.flatMap_cons] at h ⊢;rw [List.getElem?_append_right (by simp [pairCells])] at h;simpa [pairCells] using h
  obtain ⟨r,h1,h2⟩:=pair_cell M j u h';refine ⟨r,?_,?_⟩
  ·
   rw [show (j+2) / 2=j / 2+1 by omega];simpa using h1
  ·
   rw [show (j+2) % 2=j % 2 by omega];exact h2
theorem pairs_flat {w:World} {b o n i m:Nat} {L:Prs} (h:PairsAt w (some ⟨b,o,none⟩) n L) (j:Nat) (u:Value) (hj:(flatPairs ((L.drop i).take m))[j]?=some u):w.cell? ⟨b,o+i*2+j,none⟩=some u:=by
 obtain ⟨p,h1,h2⟩:=pair_cell _ _ _ hj;have h1':(L.drop i)[j / 2]?=some p:=by
  rw [List.getElem?_take] at h1;split at h1
  ·
   exact h1
  ·
   cases h1
 rw [List.getElem?_drop] at h1';obtain ⟨b',o',e,_,h3⟩:=h.cells _ _ h1';cases e
 have:=h3 _ _ h2;rw [← this];congr 2
 omega
theorem pair_one {L:Prs}:∀ u ∈ flatPairs L,u.oneCell'=true:=by
 intro u hu;simp only [flatPairs,List.mem_flatMap] at hu;obtain ⟨p,_,hp⟩:=hu;simp only [pairCells,List.mem_cons,List.not_mem_nil,or_false] at hp;rcases hp with rfl | rfl <;> rfl
theorem pairs_append (L M:Prs):flatPairs (L++M)=flatPairs L++flatPairs M:=by simp [flatPairs]
def idxOf (L:Prs) (k:ByteArray):Nat:=(L.takeWhile (ltB k)).length
def isAt (L:Prs) (k:ByteArray):Bool:=match L.drop (idxOf L k) with | []=>false | p::_=>decide (p.1=k)
theorem drop_pair {L:Prs} {i:Nat} (h:i<L.length):L.drop i=L.getD i pdflt::L.drop (i+1):=by
 rw [List.drop_eq_getElem_cons h];simp [List.getD,List.getElem?_eq_getElem h]
theorem takeWhile_at {L:Prs} {q:ByteArray × ByteArray→Bool}:∀ {i:Nat},i≤L.length→(∀ p ∈ L.take i,q p=true)→(∀ p M,L.drop i=p::M→q p=false)→L.takeWhile q=L.take i:=by
 induction L with
 | nil=>intro i _ _ _;simp
 | cons a L ih =>
  intro i hi h1 h2;match i with
  | 0 =>
   have:=h2 a L rfl;simp [this]
  | i+1 =>
   have ha:=h1 a (by simp);have e1:=ih (i:=i) (by simpa using hi) (fun p hp=>h1 p (by simp [hp])) (fun p M hp=>h2 p M (by simpa using hp));simp [ha,e1]
set_option maxHeartbeats 1000000 in
theorem find10_any (A:Option Addr) (n c:Nat) (L:Prs) (k:ByteArray) (w:World) (h:PairsAt w A n L) :
  Calls Tryz.prog 146 #[.slice A n c,.string k] w fun e w'=>e=.returned (.tuple #[.int .i64 (idxOf L k:Int),.bool (isAt L k)])∧Below w.heap.size w w':=by
 have hm:=h.hmax;have hl:=h.hlen;unfold maxLen at hm;have H:=Lib.hid h;clear h
 go_enter Tryz.func146,Tryz.ntmps146
 go_wp2_with fail;go_loopw [6] (fun s6 wr=>wr=w∧∃ i:Nat,i≤n∧s6=.int .i64 (i:Int)∧∀ p ∈ L.take i,ltB k p=true) (fun s6 _=>n - (intOf s6).toNat)
 case atStart=>exact ⟨rfl,0,by omega,rfl,fun p hp=>by simp at hp⟩
 case round =>
  obtain ⟨rfl,i,hi,rfl,hall⟩:=hrel;by_cases hlt:i<n
  ·
   have hlt':(i:Int)<(n:Int):=by omega
   obtain ⟨b,o,rfl,_,c0,c1⟩:=pairs_get H.out hlt;have hsucc:=tsucc (n:=i) (by omega);have htk:L.take (i+1)=L.take i++[L.getD i pdflt]:=by
    rw [List.take_add_one];simp [List.getD,List.getElem?_eq_getElem (show i<L.length by omega)]
   have hdr:=drop_pair (show i<L.length by omega);generalize L.getD i pdflt=p at *;obtain ⟨kk,val⟩:=p;simp only at c0 c1;clear c1;by_cases hx:slt kk k=true
   ·
    have hx':Op.bytesLess kk.toList k.toList=true:=hx;have hall2:∀ p ∈ L.take (i+1),ltB k p=true:=fun p hp=>by
     rw [htk,List.mem_append,List.mem_singleton] at hp;rcases hp with hp | rfl
     ·
      exact hall p hp
     ·
      exact hx
    have Hall:=Lib.hid hall2;clear hall2 hall htk hdr hx hl
    go_wp2_with fail;go_roundw
    case rel=>exact ⟨trivial,i+1,hlt,rfl,Hall.out⟩
    case measure=>simp [intOf];omega
   ·
    have hx':Op.bytesLess kk.toList k.toList=false:=by simpa [slt] using hx
    have hidx:idxOf L k=i:=by
     unfold idxOf;rw [takeWhile_at (show i≤L.length by omega) hall (fun p M hp=>by rw [hdr] at hp;cases hp;simpa [ltB] using hx),List.length_take];omega
    have hat:isAt L k=(kk.toList == k.toList):=by
     unfold isAt;rw [hidx,hdr];simp only;by_cases e:kk=k
     ·
      subst e;simp
     ·
      rw [txt_ne e];simpa using e
    have Hidx:=Lib.hid hidx;clear hidx
    have Hat:=Lib.hid hat;clear hat htk hdr hx hall hl
    go_wp2_with fail;go_quiet (fail)
    go_wp2_with fail;go_ret2;exact ⟨by rw [Hidx.out,Hat.out];rfl,⟨rfl,rfl,rfl,Nat.le_refl _,fun _ _=>rfl⟩⟩
  ·
   have hlt' : ¬ (i:Int)<(n:Int):=by omega
   have hdr:L.drop i=[]:=List.drop_of_length_le (by omega);have hidx:idxOf L k=i:=by
    unfold idxOf;rw [takeWhile_at (show i≤L.length by omega) hall (fun p M hp=>by rw [hdr] at hp;cases hp),List.length_take];omega
   have hat:isAt L k=false:=by
    unfold isAt;rw [hidx,hdr]
   have Hidx:=Lib.hid hidx;clear hidx
   have Hat:=Lib.hid hat;clear hat hdr hall hl
   go_wp2_with fail;go_quiet (fail)
   go_wp2_with fail;go_ret2;exact ⟨by rw [Hidx.out,Hat.out];rfl,⟨rfl,rfl,rfl,Nat.le_refl _,fun _ _=>rfl⟩⟩
theorem idx_cons (a:ByteArray × ByteArray) (L:Prs) (k:ByteArray):idxOf (a::L) k=if ltB k a then idxOf L k+1 else 0:=by
 unfold idxOf;by_cases h:ltB k a=true
 ·
  rw [if_pos h,List.takeWhile_cons_of_pos h];rfl
 ·
  rw [if_neg h,List.takeWhile_cons_of_neg h];rfl
theorem idx_le (L:Prs) (k:ByteArray):idxOf L k≤L.length:=by
 unfold idxOf;exact (List.takeWhile_sublist _).length_le
theorem isAt_lt {L:Prs} {k:ByteArray} (h:isAt L k=true):idxOf L k<L.length:=by
 unfold isAt at h;rcases Nat.lt_or_ge (idxOf L k) L.length with h' | h'
 ·
  exact h'
 ·
  rw [List.drop_of_length_le h'] at h;cases h
theorem idx_split (k:ByteArray):∀ {L:Prs},Asc L→L.take (idxOf L k)=L.filter (ltB k)∧L.drop (idxOf L k+if isAt L k then 1 else 0)=L.filter (gtB k)
 | [],_=>⟨rfl,by simp [idxOf,isAt]⟩
 | a::L,h=>by
  obtain ⟨h1,h2⟩:=List.pairwise_cons.1 h;obtain ⟨e1,e2⟩:=idx_split k h2;have hi:=idx_cons a L k;by_cases hlt:ltB k a=true
  ·
   rw [if_pos hlt] at hi;have hat:isAt (a::L) k=isAt L k:=by unfold isAt;rw [hi];rfl
   have hgt:gtB k a=false:=slt_asymm hlt;rw [hat,hi];refine ⟨?_,?_⟩
   ·
    rw [List.take_succ_cons,e1,List.filter_cons_of_pos hlt]
   ·
    rw [List.filter_cons_of_neg (by rw [hgt];exact Bool.false_ne_true), ← e2,show idxOf L k+1+(if isAt L k then 1 else 0)=(idxOf L k+if isAt L k then 1 else 0)+1 by omega,List.drop_succ_cons]
  ·
   rw [if_neg hlt] at hi;have hno:∀ q ∈ a::L,ltB k q=false:=by
    intro q hq;rcases List.mem_cons.1 hq with rfl | hq
    ·
     simpa using hlt
    ·
     rw [Bool.eq_false_iff];intro hc;exact hlt (slt_trans (h1 q hq) hc)
   have hat:isAt (a::L) k=decide (a.1=k):=by unfold isAt;rw [hi];rfl
   rw [hi];refine ⟨by rw [filter_no hno];rfl,?_⟩;rw [hat];by_cases e:a.1=k
   ·
    have hgt:gtB k a=false:=by unfold gtB;rw [e];exact slt_irrefl k
    simp only [e,decide_true,if_true,Nat.zero_add,List.drop_succ_cons,List.drop_zero];rw [List.filter_cons_of_neg (by rw [hgt];exact Bool.false_ne_true)];exact (filter_all fun q hq=>by unfold gtB;rw [← e];exact h1 q hq).symm
   ·
    have hka:slt k a.1=true:=by
     rw [← Bool.not_eq_false];intro hc;exact e (slt_total (by simpa [ltB] using hlt) hc)
    simp only [e,decide_false,Bool.false_eq_true,if_false,Nat.zero_add,List.drop_zero];exact (filter_all fun q hq=>by
     rcases List.mem_cons.1 hq with rfl | hq
     ·
      exact hka
     ·
      exact slt_trans hka (h1 q hq)).symm
theorem ins_eq {L:Prs} (h:Asc L) (k v:ByteArray):L.take (idxOf L k)++[(k,v)]++L.drop (idxOf L k+if isAt L k then 1 else 0)=insL L k v:=by
 obtain ⟨e1,e2⟩:=idx_split k h;rw [e1,e2];simp [insL]
theorem rm_eq {L:Prs} (h:Asc L) (k:ByteArray) (ha:isAt L k=true):L.take (idxOf L k)++L.drop (idxOf L k+1)=rmL L k:=by
 obtain ⟨e1,e2⟩:=idx_split k h;rw [ha,if_pos rfl] at e2;rw [e1,e2];rfl
theorem rm_no {L:Prs} (h:Asc L) (k:ByteArray) (ha:isAt L k=false):L=rmL L k:=by
 obtain ⟨e1,e2⟩:=idx_split k h;rw [ha] at e2;simp only [Bool.false_eq_true,if_false,Nat.add_zero] at e2;unfold rmL;rw [← e1, ← e2,List.take_append_drop]
theorem own_sl {w:World} {base:Nat} {e:TypeId} {size:Nat} {v:Value} {n:Nat} {xs:List Value} (h:w.ownsRow base e size v n xs):∃ A c,v=.slice A n c:=by
 rcases h.2 with ⟨e1,e2⟩ | ⟨g,cap,cur,e1,_⟩
 ·
  exact ⟨none,0,by rw [e1,e2]⟩
 ·
  exact ⟨_,_,e1⟩
def POk (A:Option Addr) (n c:Nat):Prop:=(A=none∧n=0∧c=0)∨∃ b o,A=some ⟨b,o,none⟩∧n≤c∧c≤maxLen
theorem own_pok {w:World} {base:Nat} {e:TypeId} {size:Nat} {A:Option Addr} {n c:Nat} {xs:List Value} (h:w.ownsRow base e size (.slice A n c) n xs):POk A n c:=by
 rcases h.2 with ⟨e1,e2⟩ | ⟨g,cap,cur,e1,h2,h3,h4,h5,_,_⟩
 ·
  simp only [Value.slice.injEq] at e1;exact .inl ⟨e1.1,e2,e1.2.2⟩
 ·
  simp only [Value.slice.injEq] at e1;exact .inr ⟨g,0,e1.1,by rw [e1.2.2];exact h4,by rw [e1.2.2];exact h5⟩
theorem infoPair:(Tryz.prog.info? 204).map (fun i=>(i.zero,i.size,i.bytes))=some (some (.agg #[.string ByteArray.empty,.string ByteArray.empty]),2,32):=by kernel_rfl
def PTy (w:World) (A:Option Addr):Prop:=∀ b o,A=some ⟨b,o,none⟩→∃ cs,w.heap[b]?=some (.cells cs 204 (0,0))
theorem PTy.below {w w':World} {A:Option Addr} (h:PTy w A) (hb:Below w.heap.size w w'):PTy w' A:=fun b o e=>by
 obtain ⟨cs,h1⟩:=h b o e;exact ⟨cs,(hb.block b (Array.getElem?_eq_some_iff.1 h1).1).trans h1⟩
def PrsPost (L:Prs) (w:World) (e:Ending) (w':World):Prop:=∃ A n c,e=.returned (.slice A n c)∧PairsAt w' A n L∧Below w.heap.size w w'∧POk A n c∧PTy w' A
theorem cells_two (w:World) (u v:Value) (t:TypeId):∀ j x,([u,v]:List Value)[j]?=some x→(w.alloc (.cells #[u,v] t)).cell? (Addr.add ⟨w.heap.size,0,none⟩ j)=some x:=by
 intro j x hx;have h:=heap_alloc_new w (.cells #[u,v] t);rw [WideShapes.add_plain,Nat.zero_add,cell_of_row _ _ _ _ _ _ h];match j,hx with
 | 0,hx=>simpa using hx
 | 1,hx=>simpa using hx
 | j+2,hx=>simp at hx
structure Mine (w0 w:World) (v:Value) (n:Nat) (L:Prs):Prop where
 bel:Below w0.heap.size w0 w
 own:w.ownsRow w0.heap.size 204 2 v n (flatPairs L)
theorem Mine.grow {w0 w w':World} {v v':Value} {n n':Nat} {L L':Prs} (h:Mine w0 w v n L) (hg:w.grownBy w' v.ownBlock) (ho:w'.ownsRow w0.heap.size 204 2 v' n' (flatPairs L')):Mine w0 w' v' n' L' :=
 ⟨⟨hg.os.trans h.bel.os,hg.tape.trans h.bel.tape,hg.output.trans h.bel.output,Nat.le_trans h.bel.size hg.size,fun q hq=>(hg.block q (Nat.lt_of_lt_of_le hq h.bel.size) (fun e=>by have:=(h.own.lt q e.symm).1;omega)).trans (h.bel.block q hq)⟩,ho⟩
theorem Mine.alloc {w0 w:World} {v:Value} {n:Nat} {L:Prs} (h:Mine w0 w v n L) (o:Obj):Mine w0 (w.alloc o) v n L:=⟨h.bel.alloc h.bel.size o,h.own.alloc _⟩
theorem Mine.post {w0 w:World} {A:Option Addr} {n c:Nat} {L:Prs} (h:Mine w0 w (.slice A n c) n L):PrsPost L w0 (.returned (.slice A n c)) w:=⟨A,n,c,rfl,PairsAt.of_own h.own,h.bel,own_pok h.own,fun b o e=>by
 rcases h.own.2 with ⟨e1,_⟩ | ⟨g,cap,cur,e1,_,h3,_⟩
 ·
  simp only [Value.slice.injEq] at e1;rw [e1.1] at e;cases e
 ·
  simp only [Value.slice.injEq] at e1;rw [e1.1] at e;cases e
  exact ⟨cur,h3⟩⟩
set_option maxHeartbeats 4000000 in
theorem put10_any (A:Option Addr) (n c:Nat) (L:Prs) (k v:ByteArray) (w:World) (h:PairsAt w A n L) (hok:POk A n c) (hasc:Asc L) (hn:n≤1000000) :
  Calls Tryz.prog 147 #[.slice A n c,.string k,.string v] w (PrsPost (insL L k v) w):=by
 have hins:=ins_eq hasc k v;have hf:=find10_any A n c L k w h;have hil:=idx_le L k;have hl:=h.hlen;have hatl:=isAt_lt (L:=L) (k:=k);obtain ⟨R,hR⟩:∃ R,insL L k v=R:=⟨_,rfl⟩;rw [hR] at hins ⊢;clear hR hasc;generalize idxOf L k=i at *;generalize isAt L k=is at *;have Hf:=Lib.hid hf;clear hf
 have H:=Lib.hid h;clear h
 have HR:=Lib.hid hins;clear hins
 obtain ⟨i0,hi0,hz0,hz1,hz2⟩:=info_parts infoPair;rcases hok with ⟨rfl,rfl,rfl⟩ | ⟨b,o,rfl,hnc,hcm⟩
 ·
  obtain rfl:L=[]:=List.eq_nil_of_length_eq_zero hl;obtain rfl:i=0:=by simpa using hil
  have his:is=false:=by
   cases is with
   | false=>rfl
   | true=>have:=hatl rfl;simp at this
  subst his;have hR:R=[(k,v)]:=by rw [← HR.out];rfl
  subst hR;clear hatl HR;go_enter Tryz.func147,Tryz.ntmps147
  go_upto_region 2 with ((with_reducible refine Hf.out.mono ?_);rintro e w1 ⟨rfl,hb1⟩)
  have Hm1:=Lib.hid (show Mine w w1 (.slice none 0 0) 0 [] from ⟨hb1,World.ownsRow_nil _ _ _ _⟩);clear hb1
  go_upto_region 3 with (at_builtin;refine wpList_append_own_none rfl _ _ 40 rfl w.heap.size 204 i0 2 Tryz.underlying40 hi0 (.slice none 0 0) 0 _ rfl Hm1.out.own rfl ?_)
  go_upto_region 4 with (at_builtin;refine wpList_append_own_at _ rfl _ _ 40 rfl w.heap.size 204 i0 (.agg #[.string ByteArray.empty,.string ByteArray.empty]) 2 32 Tryz.underlying40 hi0 hz0 hz1 hz2 rfl (by decide) (.slice none 0 0) 0 _ rfl (Hm1.out.own.alloc _) ⟨w1.heap.size,0,none⟩ 1 1 [.string k,.string v] rfl rfl (cells_two _ _ _ _) (by simp [Value.oneCell']) (by unfold maxLen;omega) (by omega) (by have:=Hm1.out.bel.size;simp;omega) ?_;intro v2 w3 hown2 hgr2 hnil2 hat2;have hown2':w3.ownsRow w.heap.size 204 2 v2 1 (flatPairs [(k,v)]):=hown2;obtain ⟨A2,c2,rfl⟩:=own_sl hown2';have Hm3:=Lib.hid ((Hm1.out.alloc _).grow hgr2 hown2');clear hown2 hown2' hgr2 hnil2 hat2)
  go_wp2_with (at_builtin;refine wpList_append_own_none rfl _ _ 40 rfl w.heap.size 204 i0 2 Tryz.underlying40 hi0 (.slice A2 1 c2) 1 _ rfl Hm3.out.own rfl ?_);go_ret;exact Hm3.out.post
 ·
  cases is with
  | true =>
   obtain ⟨j,hj⟩:∃ j,i+1=j:=⟨_,rfl⟩;have hjn:j≤n:=by have:=hatl rfl;omega
   have hsucc:IntKind.i64.wrap ((i:Int)+1)=(j:Int):=by rw [IntKind.wrap_i64] <;> omega
   have hR:R=L.take i++[(k,v)]++L.drop j:=by rw [← HR.out, ← hj];rfl
   have HR':=Lib.hid hR;clear hR HR
   have Hj:=Lib.hid hj;clear hj hatl
   by_cases hlt:j<n
   ·
    have hci : ¬ c=j:=by omega
    have hc3:∀ w',Below w.heap.size w w'→∀ q u,(flatPairs (L.drop j))[q]?=some u→w'.cell? (Addr.add ⟨b,o+j*2,none⟩ q)=some u:=fun w' hb q u hq=>by
     have hd:(L.drop j).take n=L.drop j:=List.take_of_length_le (by simp;omega);have:=pairs_flat (i:=j) (m:=n) (H.out.below hb) q u (by rw [hd];exact hq);rw [WideShapes.add_plain];exact this
    have Hc3':=Lib.hid hc3;clear hc3
    go_enter Tryz.func147,Tryz.ntmps147
    go_upto_region 2 with ((with_reducible refine Hf.out.mono ?_);rintro e w1 ⟨rfl,hb1⟩)
    have hle1:(i:Int)≤(c:Int):=by omega
    have hc1:∀ q u,(flatPairs (L.take i))[q]?=some u→w1.cell? (Addr.add ⟨b,o,none⟩ q)=some u:=fun q u hq=>by
     have:=pairs_flat (i:=0) (m:=i) (H.out.below hb1) q u (by simpa using hq);rw [WideShapes.add_plain];simpa using this
    have hm1:Mine w w1 (.slice none 0 0) 0 []:=⟨hb1,World.ownsRow_nil _ _ _ _⟩;have Hm1:=Lib.hid hm1;clear hm1 hb1
    have Hc1:=Lib.hid hc1;clear hc1
    go_upto_region 3 with (at_builtin;refine wpList_append_own_at _ rfl _ _ 40 rfl w.heap.size 204 i0 (.agg #[.string ByteArray.empty,.string ByteArray.empty]) 2 32 Tryz.underlying40 hi0 hz0 hz1 hz2 rfl (by decide) (.slice none 0 0) 0 _ rfl (World.ownsRow_nil _ _ _ _) ⟨b,o,none⟩ i c (flatPairs (L.take i)) rfl (by rw [pairs_len,List.length_take];omega) Hc1.out pair_one (by unfold maxLen;omega) (by omega) Hm1.out.bel.size ?_;intro v1 w2 hown1 hgr1 hnil1 hat1;rw [Nat.zero_add,List.nil_append] at hown1;obtain ⟨A1,c1,rfl⟩:=own_sl hown1;have Hm2:=Lib.hid (Hm1.out.grow hgr1 hown1);clear hown1 hgr1 hnil1 hat1)
    clear hle1;go_upto_region 4 with (at_builtin;refine wpList_append_own_at _ rfl _ _ 40 rfl w.heap.size 204 i0 (.agg #[.string ByteArray.empty,.string ByteArray.empty]) 2 32 Tryz.underlying40 hi0 hz0 hz1 hz2 rfl (by decide) (.slice A1 i c1) i _ rfl (Hm2.out.own.alloc _) ⟨w2.heap.size,0,none⟩ 1 1 [.string k,.string v] rfl rfl (cells_two _ _ _ _) (by simp [Value.oneCell']) (by unfold maxLen;omega) (by omega) (by have:=Hm2.out.bel.size;simp;omega) ?_;intro v2 w3 hown2 hgr2 hnil2 hat2;have hown2':w3.ownsRow w.heap.size 204 2 v2 (i+1) (flatPairs (L.take i++[(k,v)])):=(by rw [pairs_append];exact hown2);obtain ⟨A2,c2,rfl⟩:=own_sl hown2';have Hm3:=Lib.hid ((Hm2.out.alloc _).grow hgr2 hown2');clear hown2 hown2' hgr2 hnil2 hat2)
    have Hc3:=Lib.hid (Hc3'.out w3 Hm3.out.bel);clear Hc3'
    go_wp2_with (at_builtin;refine wpList_append_own_at _ rfl _ _ 40 rfl w.heap.size 204 i0 (.agg #[.string ByteArray.empty,.string ByteArray.empty]) 2 32 Tryz.underlying40 hi0 hz0 hz1 hz2 rfl (by decide) (.slice A2 (i+1) c2) (i+1) _ rfl Hm3.out.own ⟨b,o+j*2,none⟩ (n - j) (c - j) (flatPairs (L.drop j)) rfl (by rw [pairs_len,List.length_drop];omega) Hc3.out pair_one (by unfold maxLen;omega) (by omega) Hm3.out.bel.size ?_;intro v3 w4 hown3 hgr3 hnil3 hat3;rw [← pairs_append] at hown3;obtain ⟨A3,c3,rfl⟩:=own_sl hown3;have Hm4:=Lib.hid (Hm3.out.grow hgr3 hown3);clear hown3 hgr3 hnil3 hat3);go_ret;rw [HR'.out];exact Hm4.out.post
   ·
    obtain rfl:j=n:=by omega
    obtain ⟨ad,had⟩:∃ ad,(if c=j then some (⟨b,o,none⟩:Addr) else some ⟨b,o+j*2,none⟩)=some ad:=by split <;> exact ⟨_,rfl⟩
    go_enter Tryz.func147,Tryz.ntmps147
    go_upto_region 2 with ((with_reducible refine Hf.out.mono ?_);rintro e w1 ⟨rfl,hb1⟩)
    have hle1:(i:Int)≤(c:Int):=by omega
    have hc1:∀ q u,(flatPairs (L.take i))[q]?=some u→w1.cell? (Addr.add ⟨b,o,none⟩ q)=some u:=fun q u hq=>by
     have:=pairs_flat (i:=0) (m:=i) (H.out.below hb1) q u (by simpa using hq);rw [WideShapes.add_plain];simpa using this
    have hm1:Mine w w1 (.slice none 0 0) 0 []:=⟨hb1,World.ownsRow_nil _ _ _ _⟩;have Hm1:=Lib.hid hm1;clear hm1 hb1
    have Hc1:=Lib.hid hc1;clear hc1
    go_upto_region 3 with (at_builtin;refine wpList_append_own_at _ rfl _ _ 40 rfl w.heap.size 204 i0 (.agg #[.string ByteArray.empty,.string ByteArray.empty]) 2 32 Tryz.underlying40 hi0 hz0 hz1 hz2 rfl (by decide) (.slice none 0 0) 0 _ rfl (World.ownsRow_nil _ _ _ _) ⟨b,o,none⟩ i c (flatPairs (L.take i)) rfl (by rw [pairs_len,List.length_take];omega) Hc1.out pair_one (by unfold maxLen;omega) (by omega) Hm1.out.bel.size ?_;intro v1 w2 hown1 hgr1 hnil1 hat1;rw [Nat.zero_add,List.nil_append] at hown1;obtain ⟨A1,c1,rfl⟩:=own_sl hown1;have Hm2:=Lib.hid (Hm1.out.grow hgr1 hown1);clear hown1 hgr1 hnil1 hat1)
    clear hle1;go_upto_region 4 with (at_builtin;refine wpList_append_own_at _ rfl _ _ 40 rfl w.heap.size 204 i0 (.agg #[.string ByteArray.empty,.string ByteArray.empty]) 2 32 Tryz.underlying40 hi0 hz0 hz1 hz2 rfl (by decide) (.slice A1 i c1) i _ rfl (Hm2.out.own.alloc _) ⟨w2.heap.size,0,none⟩ 1 1 [.string k,.string v] rfl rfl (cells_two _ _ _ _) (by simp [Value.oneCell']) (by unfold maxLen;omega) (by omega) (by have:=Hm2.out.bel.size;simp;omega) ?_;intro v2 w3 hown2 hgr2 hnil2 hat2;have hown2':w3.ownsRow w.heap.size 204 2 v2 (i+1) (flatPairs (L.take i++[(k,v)])):=(by rw [pairs_append];exact hown2);obtain ⟨A2,c2,rfl⟩:=own_sl hown2';have Hm3:=Lib.hid ((Hm2.out.alloc _).grow hgr2 hown2');clear hown2 hown2' hgr2 hnil2 hat2)
    have hdn:L.drop j=[]:=List.drop_of_length_le (by omega);go_wp2_with (at_builtin;refine wpList_append_own_at _ rfl _ _ 40 rfl w.heap.size 204 i0 (.agg #[.string ByteArray.empty,.string ByteArray.empty]) 2 32 Tryz.underlying40 hi0 hz0 hz1 hz2 rfl (by decide) (.slice A2 (i+1) c2) (i+1) _ rfl Hm3.out.own ad 0 (c - j) [] rfl rfl (fun j u hj=>by simp at hj) (fun u hu=>by simp at hu) (by unfold maxLen;omega) (by omega) Hm3.out.bel.size ?_;intro v3 w4 hown3 hgr3 hnil3 hat3;rw [List.append_nil] at hown3;obtain ⟨A3,c3,rfl⟩:=own_sl hown3;have Hm4:=Lib.hid (Hm3.out.grow hgr3 hown3);clear hown3 hgr3 hnil3 hat3);go_ret;rw [HR'.out,hdn,List.append_nil];exact Hm4.out.post
  | false =>
   have hj:i=i:=rfl;have hjn:i≤n:=by omega
   have hR:R=L.take i++[(k,v)]++L.drop i:=by rw [← HR.out];rfl
   have HR':=Lib.hid hR;clear hR HR
   have Hj:=Lib.hid hj;clear hj hatl
   by_cases hlt:i<n
   ·
    have hci : ¬ c=i:=by omega
    have hc3:∀ w',Below w.heap.size w w'→∀ q u,(flatPairs (L.drop i))[q]?=some u→w'.cell? (Addr.add ⟨b,o+i*2,none⟩ q)=some u:=fun w' hb q u hq=>by
     have hd:(L.drop i).take n=L.drop i:=List.take_of_length_le (by simp;omega);have:=pairs_flat (i:=i) (m:=n) (H.out.below hb) q u (by rw [hd];exact hq);rw [WideShapes.add_plain];exact this
    have Hc3':=Lib.hid hc3;clear hc3
    go_enter Tryz.func147,Tryz.ntmps147
    go_upto_region 2 with ((with_reducible refine Hf.out.mono ?_);rintro e w1 ⟨rfl,hb1⟩)
    have hle1:(i:Int)≤(c:Int):=by omega
    have hc1:∀ q u,(flatPairs (L.take i))[q]?=some u→w1.cell? (Addr.add ⟨b,o,none⟩ q)=some u:=fun q u hq=>by
     have:=pairs_flat (i:=0) (m:=i) (H.out.below hb1) q u (by simpa using hq);rw [WideShapes.add_plain];simpa using this
    have hm1:Mine w w1 (.slice none 0 0) 0 []:=⟨hb1,World.ownsRow_nil _ _ _ _⟩;have Hm1:=Lib.hid hm1;clear hm1 hb1
    have Hc1:=Lib.hid hc1;clear hc1
    go_upto_region 3 with (at_builtin;refine wpList_append_own_at _ rfl _ _ 40 rfl w.heap.size 204 i0 (.agg #[.string ByteArray.empty,.string ByteArray.empty]) 2 32 Tryz.underlying40 hi0 hz0 hz1 hz2 rfl (by decide) (.slice none 0 0) 0 _ rfl (World.ownsRow_nil _ _ _ _) ⟨b,o,none⟩ i c (flatPairs (L.take i)) rfl (by rw [pairs_len,List.length_take];omega) Hc1.out pair_one (by unfold maxLen;omega) (by omega) Hm1.out.bel.size ?_;intro v1 w2 hown1 hgr1 hnil1 hat1;rw [Nat.zero_add,List.nil_append] at hown1;obtain ⟨A1,c1,rfl⟩:=own_sl hown1;have Hm2:=Lib.hid (Hm1.out.grow hgr1 hown1);clear hown1 hgr1 hnil1 hat1)
    clear hle1;go_upto_region 4 with (at_builtin;refine wpList_append_own_at _ rfl _ _ 40 rfl w.heap.size 204 i0 (.agg #[.string ByteArray.empty,.string ByteArray.empty]) 2 32 Tryz.underlying40 hi0 hz0 hz1 hz2 rfl (by decide) (.slice A1 i c1) i _ rfl (Hm2.out.own.alloc _) ⟨w2.heap.size,0,none⟩ 1 1 [.string k,.string v] rfl rfl (cells_two _ _ _ _) (by simp [Value.oneCell']) (by unfold maxLen;omega) (by omega) (by have:=Hm2.out.bel.size;simp;omega) ?_;intro v2 w3 hown2 hgr2 hnil2 hat2;have hown2':w3.ownsRow w.heap.size 204 2 v2 (i+1) (flatPairs (L.take i++[(k,v)])):=(by rw [pairs_append];exact hown2);obtain ⟨A2,c2,rfl⟩:=own_sl hown2';have Hm3:=Lib.hid ((Hm2.out.alloc _).grow hgr2 hown2');clear hown2 hown2' hgr2 hnil2 hat2)
    have Hc3:=Lib.hid (Hc3'.out w3 Hm3.out.bel);clear Hc3'
    go_wp2_with (at_builtin;refine wpList_append_own_at _ rfl _ _ 40 rfl w.heap.size 204 i0 (.agg #[.string ByteArray.empty,.string ByteArray.empty]) 2 32 Tryz.underlying40 hi0 hz0 hz1 hz2 rfl (by decide) (.slice A2 (i+1) c2) (i+1) _ rfl Hm3.out.own ⟨b,o+i*2,none⟩ (n - i) (c - i) (flatPairs (L.drop i)) rfl (by rw [pairs_len,List.length_drop];omega) Hc3.out pair_one (by unfold maxLen;omega) (by omega) Hm3.out.bel.size ?_;intro v3 w4 hown3 hgr3 hnil3 hat3;rw [← pairs_append] at hown3;obtain ⟨A3,c3,rfl⟩:=own_sl hown3;have Hm4:=Lib.hid (Hm3.out.grow hgr3 hown3);clear hown3 hgr3 hnil3 hat3);go_ret;rw [HR'.out];exact Hm4.out.post
   ·
    obtain rfl:i=n:=by omega
    obtain ⟨ad,had⟩:∃ ad,(if c=i then some (⟨b,o,none⟩:Addr) else some ⟨b,o+i*2,none⟩)=some ad:=by split <;> exact ⟨_,rfl⟩
    go_enter Tryz.func147,Tryz.ntmps147
    go_upto_region 2 with ((with_reducible refine Hf.out.mono ?_);rintro e w1 ⟨rfl,hb1⟩)
    have hle1:(i:Int)≤(c:Int):=by omega
    have hc1:∀ q u,(flatPairs (L.take i))[q]?=some u→w1.cell? (Addr.add ⟨b,o,none⟩ q)=some u:=fun q u hq=>by
     have:=pairs_flat (i:=0) (m:=i) (H.out.below hb1) q u (by simpa using hq);rw [WideShapes.add_plain];simpa using this
    have hm1:Mine w w1 (.slice none 0 0) 0 []:=⟨hb1,World.ownsRow_nil _ _ _ _⟩;have Hm1:=Lib.hid hm1;clear hm1 hb1
    have Hc1:=Lib.hid hc1;clear hc1
    go_upto_region 3 with (at_builtin;refine wpList_append_own_at _ rfl _ _ 40 rfl w.heap.size 204 i0 (.agg #[.string ByteArray.empty,.string ByteArray.empty]) 2 32 Tryz.underlying40 hi0 hz0 hz1 hz2 rfl (by decide) (.slice none 0 0) 0 _ rfl (World.ownsRow_nil _ _ _ _) ⟨b,o,none⟩ i c (flatPairs (L.take i)) rfl (by rw [pairs_len,List.length_take];omega) Hc1.out pair_one (by unfold maxLen;omega) (by omega) Hm1.out.bel.size ?_;intro v1 w2 hown1 hgr1 hnil1 hat1;rw [Nat.zero_add,List.nil_append] at hown1;obtain ⟨A1,c1,rfl⟩:=own_sl hown1;have Hm2:=Lib.hid (Hm1.out.grow hgr1 hown1);clear hown1 hgr1 hnil1 hat1)
    clear hle1;go_upto_region 4 with (at_builtin;refine wpList_append_own_at _ rfl _ _ 40 rfl w.heap.size 204 i0 (.agg #[.string ByteArray.empty,.string ByteArray.empty]) 2 32 Tryz.underlying40 hi0 hz0 hz1 hz2 rfl (by decide) (.slice A1 i c1) i _ rfl (Hm2.out.own.alloc _) ⟨w2.heap.size,0,none⟩ 1 1 [.string k,.string v] rfl rfl (cells_two _ _ _ _) (by simp [Value.oneCell']) (by unfold maxLen;omega) (by omega) (by have:=Hm2.out.bel.size;simp;omega) ?_;intro v2 w3 hown2 hgr2 hnil2 hat2;have hown2':w3.ownsRow w.heap.size 204 2 v2 (i+1) (flatPairs (L.take i++[(k,v)])):=(by rw [pairs_append];exact hown2);obtain ⟨A2,c2,rfl⟩:=own_sl hown2';have Hm3:=Lib.hid ((Hm2.out.alloc _).grow hgr2 hown2');clear hown2 hown2' hgr2 hnil2 hat2)
    have hdn:L.drop i=[]:=List.drop_of_length_le (by omega);go_wp2_with (at_builtin;refine wpList_append_own_at _ rfl _ _ 40 rfl w.heap.size 204 i0 (.agg #[.string ByteArray.empty,.string ByteArray.empty]) 2 32 Tryz.underlying40 hi0 hz0 hz1 hz2 rfl (by decide) (.slice A2 (i+1) c2) (i+1) _ rfl Hm3.out.own ad 0 (c - i) [] rfl rfl (fun i u hj=>by simp at hj) (fun u hu=>by simp at hu) (by unfold maxLen;omega) (by omega) Hm3.out.bel.size ?_;intro v3 w4 hown3 hgr3 hnil3 hat3;rw [List.append_nil] at hown3;obtain ⟨A3,c3,rfl⟩:=own_sl hown3;have Hm4:=Lib.hid (Hm3.out.grow hgr3 hown3);clear hown3 hgr3 hnil3 hat3);go_ret;rw [HR'.out,hdn,List.append_nil];exact Hm4.out.post
set_option maxHeartbeats 4000000 in
theorem del10_any (A:Option Addr) (n c:Nat) (L:Prs) (k:ByteArray) (w:World) (h:PairsAt w A n L) (hok:POk A n c) (hty:PTy w A) (hasc:Asc L) (hn:n≤1000000) :
  Calls Tryz.prog 148 #[.slice A n c,.string k] w (PrsPost (rmL L k) w):=by
 have hrm:=rm_eq hasc k;have hno:=rm_no hasc k;have hf:=find10_any A n c L k w h;have hil:=idx_le L k;have hl:=h.hlen;have hatl:=isAt_lt (L:=L) (k:=k);obtain ⟨R,hR⟩:∃ R,rmL L k=R:=⟨_,rfl⟩;rw [hR] at hrm hno ⊢;clear hR hasc;generalize idxOf L k=i at *;generalize isAt L k=is at *;have Hf:=Lib.hid hf;clear hf
 have H:=Lib.hid h;clear h
 obtain ⟨i0,hi0,hz0,hz1,hz2⟩:=info_parts infoPair;cases is with
 | false =>
  have hR:L=R:=hno rfl;subst hR;have Hok:=Lib.hid hok;clear hok
  have Hty:=Lib.hid hty;clear hty
  clear hrm hno hatl;go_enter Tryz.func148,Tryz.ntmps148
  go_wp2_with ((with_reducible refine Hf.out.mono ?_);rintro e w1 ⟨rfl,hb1⟩;have Hb1:=Lib.hid hb1;clear hb1);go_ret;exact ⟨A,n,c,rfl,H.out.below Hb1.out,Hb1.out,Hok.out,Hty.out.below Hb1.out⟩
 | true =>
  have hlt0:=hatl rfl;have hrm':=hrm rfl;clear hrm hno hatl hty;rcases hok with ⟨rfl,rfl,rfl⟩ | ⟨b,o,rfl,hnc,hcm⟩
  ·
   omega
  obtain ⟨j,hj⟩:∃ j,i+1=j:=⟨_,rfl⟩;have hjn:j≤n:=by omega
  have hsucc:IntKind.i64.wrap ((i:Int)+1)=(j:Int):=by rw [IntKind.wrap_i64] <;> omega
  rw [hj] at hrm';have HR':=Lib.hid hrm'.symm;clear hrm'
  have Hj:=Lib.hid hj;clear hj
  by_cases hlt:j<n
  ·
   have hci : ¬ c=j:=by omega
   have hc3:∀ w',Below w.heap.size w w'→∀ q u,(flatPairs (L.drop j))[q]?=some u→w'.cell? (Addr.add ⟨b,o+j*2,none⟩ q)=some u:=fun w' hb q u hq=>by
    have hd:(L.drop j).take n=L.drop j:=List.take_of_length_le (by simp;omega);have:=pairs_flat (i:=j) (m:=n) (H.out.below hb) q u (by rw [hd];exact hq);rw [WideShapes.add_plain];exact this
   have Hc3':=Lib.hid hc3;clear hc3
   go_enter Tryz.func148,Tryz.ntmps148
   go_upto_region 4 with ((with_reducible refine Hf.out.mono ?_);rintro e w1 ⟨rfl,hb1⟩)
   have hle1:(i:Int)≤(c:Int):=by omega
   have hc1:∀ q u,(flatPairs (L.take i))[q]?=some u→w1.cell? (Addr.add ⟨b,o,none⟩ q)=some u:=fun q u hq=>by
    have:=pairs_flat (i:=0) (m:=i) (H.out.below hb1) q u (by simpa using hq);rw [WideShapes.add_plain];simpa using this
   have hm1:Mine w w1 (.slice none 0 0) 0 []:=⟨hb1,World.ownsRow_nil _ _ _ _⟩;have Hm1:=Lib.hid hm1;clear hm1 hb1
   have Hc1:=Lib.hid hc1;clear hc1
   go_upto_region 5 with (at_builtin;refine wpList_append_own_at _ rfl _ _ 40 rfl w.heap.size 204 i0 (.agg #[.string ByteArray.empty,.string ByteArray.empty]) 2 32 Tryz.underlying40 hi0 hz0 hz1 hz2 rfl (by decide) (.slice none 0 0) 0 _ rfl (World.ownsRow_nil _ _ _ _) ⟨b,o,none⟩ i c (flatPairs (L.take i)) rfl (by rw [pairs_len,List.length_take];omega) Hc1.out pair_one (by unfold maxLen;omega) (by omega) Hm1.out.bel.size ?_;intro v1 w2 hown1 hgr1 hnil1 hat1;rw [Nat.zero_add,List.nil_append] at hown1;obtain ⟨A1,c1,rfl⟩:=own_sl hown1;have Hm2:=Lib.hid (Hm1.out.grow hgr1 hown1);clear hown1 hgr1 hnil1 hat1)
   clear hle1;have Hc3:=Lib.hid (Hc3'.out w2 Hm2.out.bel);clear Hc3'
   go_wp2_with (at_builtin;refine wpList_append_own_at _ rfl _ _ 40 rfl w.heap.size 204 i0 (.agg #[.string ByteArray.empty,.string ByteArray.empty]) 2 32 Tryz.underlying40 hi0 hz0 hz1 hz2 rfl (by decide) (.slice A1 i c1) i _ rfl Hm2.out.own ⟨b,o+j*2,none⟩ (n - j) (c - j) (flatPairs (L.drop j)) rfl (by rw [pairs_len,List.length_drop];omega) Hc3.out pair_one (by unfold maxLen;omega) (by omega) Hm2.out.bel.size ?_;intro v3 w4 hown3 hgr3 hnil3 hat3;rw [← pairs_append] at hown3;obtain ⟨A3,c3,rfl⟩:=own_sl hown3;have Hm4:=Lib.hid (Hm2.out.grow hgr3 hown3);clear hown3 hgr3 hnil3 hat3);go_ret;rw [HR'.out];exact Hm4.out.post
  ·
   obtain rfl:j=n:=by omega
   obtain ⟨ad,had⟩:∃ ad,(if c=j then some (⟨b,o,none⟩:Addr) else some ⟨b,o+j*2,none⟩)=some ad:=by split <;> exact ⟨_,rfl⟩
   go_enter Tryz.func148,Tryz.ntmps148
   go_upto_region 4 with ((with_reducible refine Hf.out.mono ?_);rintro e w1 ⟨rfl,hb1⟩)
   have hle1:(i:Int)≤(c:Int):=by omega
   have hc1:∀ q u,(flatPairs (L.take i))[q]?=some u→w1.cell? (Addr.add ⟨b,o,none⟩ q)=some u:=fun q u hq=>by
    have:=pairs_flat (i:=0) (m:=i) (H.out.below hb1) q u (by simpa using hq);rw [WideShapes.add_plain];simpa using this
   have hm1:Mine w w1 (.slice none 0 0) 0 []:=⟨hb1,World.ownsRow_nil _ _ _ _⟩;have Hm1:=Lib.hid hm1;clear hm1 hb1
   have Hc1:=Lib.hid hc1;clear hc1
   go_upto_region 5 with (at_builtin;refine wpList_append_own_at _ rfl _ _ 40 rfl w.heap.size 204 i0 (.agg #[.string ByteArray.empty,.string ByteArray.empty]) 2 32 Tryz.underlying40 hi0 hz0 hz1 hz2 rfl (by decide) (.slice none 0 0) 0 _ rfl (World.ownsRow_nil _ _ _ _) ⟨b,o,none⟩ i c (flatPairs (L.take i)) rfl (by rw [pairs_len,List.length_take];omega) Hc1.out pair_one (by unfold maxLen;omega) (by omega) Hm1.out.bel.size ?_;intro v1 w2 hown1 hgr1 hnil1 hat1;rw [Nat.zero_add,List.nil_append] at hown1;obtain ⟨A1,c1,rfl⟩:=own_sl hown1;have Hm2:=Lib.hid (Hm1.out.grow hgr1 hown1);clear hown1 hgr1 hnil1 hat1)
   clear hle1;have hdn:L.drop j=[]:=List.drop_of_length_le (by omega);go_wp2_with (at_builtin;refine wpList_append_own_at _ rfl _ _ 40 rfl w.heap.size 204 i0 (.agg #[.string ByteArray.empty,.string ByteArray.empty]) 2 32 Tryz.underlying40 hi0 hz0 hz1 hz2 rfl (by decide) (.slice A1 i c1) i _ rfl Hm2.out.own ad 0 (c - j) [] rfl rfl (fun j u hj=>by simp at hj) (fun u hu=>by simp at hu) (by unfold maxLen;omega) (by omega) Hm2.out.bel.size ?_;intro v3 w4 hown3 hgr3 hnil3 hat3;rw [List.append_nil] at hown3;obtain ⟨A3,c3,rfl⟩:=own_sl hown3;have Hm4:=Lib.hid (Hm2.out.grow hgr3 hown3);clear hown3 hgr3 hnil3 hat3);go_ret;rw [HR'.out,hdn,List.append_nil];exact Hm4.out.post
set_option maxHeartbeats 400000 in
theorem steps_any (x:BitVec 64) (n:Nat) (hn:n≤9223372036854775806) (w:World) :
  Calls Tryz.prog 195 #[.int .u64 (x.toNat:Int),.int .i64 (n:Int)] w fun e w'=>e=.returned (.int .u64 (Crc.sts n x).toNat)∧w=w':=by
 go_enter Tryz.func195,Tryz.ntmps195
 go_wp2
 go_loop [0,5] (fun m i=>∃ k:Nat,k≤n∧i=.int .i64 k∧m=.int .u64 (Crc.sts k x).toNat) (fun _ i=>n - (intOf i).toNat)
 case atStart=>exact ⟨0,by omega,rfl,rfl⟩
 case round =>
  obtain ⟨k,hk,rfl,rfl⟩:=hrel;generalize hy:Crc.sts k x=y;have Hy:=Lib.hid hy;clear hy
  have hlt:=y.isLt;go_wp2
  ·
   go_round
   case rel=>exact ⟨k+1,by omega,by go_num,by rw [Crc.st_odd' _ ‹_›, ← Hy.out];rfl⟩
   case measure=>simp [intOf];omega
  ·
   go_round
   case rel=>exact ⟨k+1,by omega,by go_num,by rw [Crc.st_even' _ ‹_›, ← Hy.out];rfl⟩
   case measure=>simp [intOf];omega
  ·
   have h8:k=n:=by omega
   subst h8;go_ret;exact ⟨by rw [Hy.out];rfl,rfl⟩
theorem steps_8 (x:BitVec 64) (w:World) :
  Calls Tryz.prog 195 #[.int .u64 (x.toNat:Int),.int .i64 8] w fun e w'=>e=.returned (.int .u64 (Crc.sts 8 x).toNat)∧w=w' :=
 steps_any x 8 (by omega) w
set_option maxHeartbeats 400000 in
theorem refmore_any (x:BitVec 64) (s:ByteArray) (hs:s.size≤maxLen) (w:World) :
  Calls Tryz.prog 179 #[.int .u64 (x.toNat:Int),.string s] w fun e w'=>e=.returned (.int .u64 (Crc.sum x s.data.toList).toNat)∧w=w':=by
 unfold maxLen at hs;have hn:=Crc.not_bv x;generalize hz : ~~~ x=z at hn;have Hz:=Lib.hid hz;clear hz
 go_enter Tryz.func179,Tryz.ntmps179
 go_wp2
 clear hn;go_loop [5,6] (fun n i=>∃ k:Nat,k≤s.size∧i=.int .i64 k∧n=.int .u64 (Crc.more z (s.data.toList.take k)).toNat) (fun _ i=>s.size - (intOf i).toNat)
 case atStart=>exact ⟨0,by omega,rfl,rfl⟩
 case round =>
  obtain ⟨k,hk,rfl,rfl⟩:=hrel;generalize hy:Crc.more z (s.data.toList.take k)=y;have Hy:=Lib.hid hy;clear hy
  by_cases hlt:k<s.size
  ·
   have hb:=Crc.byte_xor y s[k];generalize hv:y ^^^ Crc.byte s[k]=v at hb;have Hv:=Lib.hid hv;clear hv
   go_wp2_with (go_at_call 195;(with_reducible refine (steps_8 _ _).mono ?_);rintro e w' ⟨rfl,rfl⟩);go_round
   case rel=>exact ⟨k+1,by omega,by go_num,by rw [Crc.more_take _ _ _ hlt,Hy.out,Hv.out]⟩
   case measure=>simp [intOf];omega
  ·
   have hk':k=s.size:=by omega
   subst hk';have hn:=Crc.not_bv y;generalize hv : ~~~ y=v at hn;have Hv:=Lib.hid hv;clear hv
   go_wp2
   go_ret;exact ⟨by rw [Crc.sum, ← Crc.take_all s,Hz.out,Hy.out,Hv.out];rfl,rfl⟩
set_option maxHeartbeats 400000 in
theorem refsum_any (s:ByteArray) (hs:s.size≤maxLen) (w:World) :
  Calls Tryz.prog 161 #[.string s] w fun e w'=>e=.returned (.int .u64 (Crc.sum 0#64 s.data.toList).toNat)∧w=w':=by
 go_enter Tryz.func161,Tryz.ntmps161
 go_wp2_with (go_at_call 179;refine (refmore_any 0#64 _ hs _).mono ?_;rintro e w' ⟨rfl,rfl⟩);go_ret;exact ⟨rfl,rfl⟩
end Go.Proofs.YtbckjgageofldaaGreat
