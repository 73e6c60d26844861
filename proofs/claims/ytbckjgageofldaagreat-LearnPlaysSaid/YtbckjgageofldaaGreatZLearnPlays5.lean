/- Plain laws on trees' shapes: what they hold in order, and that each act keeps the order. No condition. -/
import Derived.Test.YtbckjgageofldaaGreatZLearnPlays4
set_option maxRecDepth 100000
namespace Go.Proofs.YtbckjgageofldaaGreat
open Go.RowKit
def Sh.look (key:ByteArray):Sh→Option ByteArray
 | .nil=>none
 | .node k v _ l r=>if k=key then some v else if slt key k then l.look key else r.look key
def Sh.cnt:Sh→Nat
 | .nil=>0
 | .node _ _ _ l r=>l.cnt+1+r.cnt
def Sh.dep:Sh→Nat
 | .nil=>0
 | .node _ _ _ l r=>1+max l.dep r.dep
theorem sh_look (key:ByteArray):∀ T:Tr,T.look key=T.sh.look key
 | .nil=>rfl
 | .node b k v wt l r=>by
  have h1:=sh_look key l;have h2:=sh_look key r;unfold Tr.look at *
  simp only [Tr.sh];conv=>lhs;unfold Tr.find
  conv=>rhs;unfold Sh.look
  split
  ·
   rfl
  split
  ·
   exact h1
  ·
   exact h2
theorem sh_cnt:∀ T:Tr,T.cnt=T.sh.cnt
 | .nil=>rfl
 | .node _ _ _ _ l r=>by simp only [Tr.cnt,Tr.sh,Sh.cnt,sh_cnt l,sh_cnt r]
def Sh.kv:Sh→List (ByteArray × ByteArray)
 | .nil=>[]
 | .node k v _ l r=>l.kv++(k,v)::r.kv
def Asc (L:List (ByteArray × ByteArray)):Prop:=L.Pairwise fun p q=>slt p.1 q.1=true
def ltB (key:ByteArray) (p:ByteArray × ByteArray):Bool:=slt p.1 key
def gtB (key:ByteArray) (p:ByteArray × ByteArray):Bool:=slt key p.1
def insL (L:List (ByteArray × ByteArray)) (k v:ByteArray):List (ByteArray × ByteArray):=L.filter (ltB k)++(k,v)::L.filter (gtB k)
def rmL (L:List (ByteArray × ByteArray)) (k:ByteArray):List (ByteArray × ByteArray):=L.filter (ltB k)++L.filter (gtB k)
theorem asc_node {L R:List (ByteArray × ByteArray)} {p:ByteArray × ByteArray} (h:Asc (L++p::R)):Asc L∧Asc R∧(∀ q ∈ L,slt q.1 p.1=true)∧(∀ q ∈ R,slt p.1 q.1=true):=by
 obtain ⟨h1,h2,h3⟩:=List.pairwise_append.1 h;obtain ⟨h4,h5⟩:=List.pairwise_cons.1 h2;exact ⟨h1,h5,fun q hq=>h3 q hq p (by simp),h4⟩
theorem filter_all {q:ByteArray × ByteArray→Bool} {L:List (ByteArray × ByteArray)} (h:∀ p ∈ L,q p=true):L.filter q=L:=List.filter_eq_self.2 h
theorem filter_no {q:ByteArray × ByteArray→Bool} {L:List (ByteArray × ByteArray)} (h:∀ p ∈ L,q p=false):L.filter q=[]:=List.filter_eq_nil_iff.2 (fun p hp=>by rw [h p hp];exact Bool.false_ne_true)
section
variable {L R : List (ByteArray × ByteArray)} {k v key : ByteArray}
theorem filt_lt (h:Asc (L++(k,v)::R)) (hk:slt key k=true):(L++(k,v)::R).filter (ltB key)=L.filter (ltB key)∧(L++(k,v)::R).filter (gtB key)=L.filter (gtB key)++(k,v)::R:=by
 obtain ⟨_,_,_,h4⟩:=asc_node h;have e1:R.filter (ltB key)=[]:=filter_no fun p hp=>slt_asymm (slt_trans hk (h4 p hp))
 have e2:R.filter (gtB key)=R:=filter_all fun p hp=>slt_trans hk (h4 p hp)
 have e3:ltB key (k,v)=false:=slt_asymm hk;have e4:gtB key (k,v)=true:=hk;simp [List.filter_append,e1,e2,e3,e4]
theorem filt_gt (h:Asc (L++(k,v)::R)) (hk:slt k key=true):(L++(k,v)::R).filter (ltB key)=L++(k,v)::R.filter (ltB key)∧(L++(k,v)::R).filter (gtB key)=R.filter (gtB key):=by
 obtain ⟨_,_,h3,_⟩:=asc_node h;have e1:L.filter (ltB key)=L:=filter_all fun p hp=>slt_trans (h3 p hp) hk
 have e2:L.filter (gtB key)=[]:=filter_no fun p hp=>slt_asymm (slt_trans (h3 p hp) hk)
 have e3:ltB key (k,v)=true:=hk;have e4:gtB key (k,v)=false:=slt_asymm hk;simp [List.filter_append,e1,e2,e3,e4]
theorem filt_eq (h:Asc (L++(k,v)::R)):(L++(k,v)::R).filter (ltB k)=L∧(L++(k,v)::R).filter (gtB k)=R:=by
 obtain ⟨_,_,h3,h4⟩:=asc_node h;have e1:L.filter (ltB k)=L:=filter_all fun p hp=>h3 p hp
 have e2:L.filter (gtB k)=[]:=filter_no fun p hp=>slt_asymm (h3 p hp)
 have e5:R.filter (ltB k)=[]:=filter_no fun p hp=>slt_asymm (h4 p hp)
 have e6:R.filter (gtB k)=R:=filter_all fun p hp=>h4 p hp
 have e3:ltB k (k,v)=false:=slt_irrefl k;have e4:gtB k (k,v)=false:=slt_irrefl k;simp [List.filter_append,e1,e2,e3,e4,e5,e6]
end
theorem kv_split (key:ByteArray):∀ {S:Sh},Asc S.kv→(S.split key).1.kv=S.kv.filter (ltB key)∧(S.split key).2.kv=S.kv.filter (gtB key)
 | .nil,_=>⟨rfl,rfl⟩
 | .node k v wt l r,h=>by
  have h':Asc (l.kv++(k,v)::r.kv):=h;obtain ⟨hl,hr,_,_⟩:=asc_node h';unfold Sh.split;simp only [Sh.kv];split
  ·
   rename_i hk
   obtain ⟨e1,e2⟩:=kv_split key hl;obtain ⟨f1,f2⟩:=filt_lt h' hk;rw [f1,f2, ← e1, ← e2];exact ⟨rfl,rfl⟩
  split
  ·
   rename_i hk
   obtain ⟨e1,e2⟩:=kv_split key hr;obtain ⟨f1,f2⟩:=filt_gt h' hk;rw [f1,f2, ← e1, ← e2];exact ⟨rfl,rfl⟩
  ·
   rename_i h1 h2
   have e:k=key:=slt_total (by simpa using h2) (by simpa using h1);subst e;obtain ⟨f1,f2⟩:=filt_eq h';rw [f1,f2];exact ⟨rfl,rfl⟩
theorem kv_join:∀ (n:Nat) {a b:Sh},SizeOf.sizeOf a+SizeOf.sizeOf b≤n→(Sh.join a b).kv=a.kv++b.kv
 | n,.nil,b,_=>by rw [Sh.nil_join];rfl
 | n,.node k v wt l r,.nil,_=>by rw [Sh.join_nil];simp [Sh.kv]
 | 0,.node k v wt l r,.node k' v' wt' l' r',h=>by simp at h
 | n+1,.node k v wt l r,.node k' v' wt' l' r',h=>by
  rw [Sh.join];split
  ·
   show l.kv++(k,v)::(Sh.join r (.node k' v' wt' l' r')).kv=_;rw [kv_join n (by simp only [Sh.node.sizeOf_spec] at h ⊢; omega)];simp [Sh.kv]
  ·
   show (Sh.join (.node k v wt l r) l').kv++(k',v')::r'.kv=_;rw [kv_join n (by simp only [Sh.node.sizeOf_spec] at h ⊢; omega)];simp [Sh.kv]
theorem kv_put (k v:ByteArray) (wt:BitVec 64):∀ {S:Sh},Asc S.kv→(S.put k v wt).kv=insL S.kv k v
 | .nil,_=>rfl
 | .node k0 v0 wt0 l r,h=>by
  have h':Asc (l.kv++(k0,v0)::r.kv):=h;obtain ⟨hl,hr,_,_⟩:=asc_node h';unfold Sh.put;split
  ·
   obtain ⟨e1,e2⟩:=kv_split k h;simp only [Sh.kv] at e1 e2 ⊢;rw [e1,e2];rfl
  split
  ·
   rename_i hk
   obtain ⟨f1,f2⟩:=filt_lt h' hk;simp only [Sh.kv];rw [kv_put k v wt hl];unfold insL;rw [f1,f2];simp
  split
  ·
   rename_i hk
   obtain ⟨f1,f2⟩:=filt_gt h' hk;simp only [Sh.kv];rw [kv_put k v wt hr];unfold insL;rw [f1,f2];simp
  ·
   rename_i h1 h2
   have e:k0=k:=slt_total (by simpa using h2) (by simpa using h1);subst e;obtain ⟨f1,f2⟩:=filt_eq h';simp only [Sh.kv];unfold insL;rw [f1,f2]
theorem kv_del (k:ByteArray):∀ {S:Sh},Asc S.kv→(S.del k).kv=rmL S.kv k
 | .nil,_=>rfl
 | .node k0 v0 wt0 l r,h=>by
  have h':Asc (l.kv++(k0,v0)::r.kv):=h;obtain ⟨hl,hr,_,_⟩:=asc_node h';unfold Sh.del;split
  ·
   rename_i hk
   obtain ⟨f1,f2⟩:=filt_lt h' hk;simp only [Sh.kv];rw [kv_del k hl];unfold rmL;rw [f1,f2];simp
  split
  ·
   rename_i hk
   obtain ⟨f1,f2⟩:=filt_gt h' hk;simp only [Sh.kv];rw [kv_del k hr];unfold rmL;rw [f1,f2];simp
  ·
   rename_i h1 h2
   have e:k0=k:=slt_total (by simpa using h2) (by simpa using h1);subst e;obtain ⟨f1,f2⟩:=filt_eq h';rw [kv_join _ (Nat.le_refl _)];simp only [Sh.kv];unfold rmL;rw [f1,f2]
theorem asc_filters {L:List (ByteArray × ByteArray)} (h:Asc L) (k:ByteArray):Asc (rmL L k):=by
 refine List.pairwise_append.2 ⟨h.filter _,h.filter _,fun p hp q hq=>?_⟩;exact slt_trans (List.mem_filter.1 hp).2 (List.mem_filter.1 hq).2
theorem asc_ins {L:List (ByteArray × ByteArray)} (h:Asc L) (k v:ByteArray):Asc (insL L k v):=by
 refine List.pairwise_append.2 ⟨h.filter _,List.pairwise_cons.2 ⟨fun q hq=>(List.mem_filter.1 hq).2,h.filter _⟩,fun p hp q hq=>?_⟩;rcases List.mem_cons.1 hq with rfl | hq
 ·
  exact (List.mem_filter.1 hp).2
 ·
  exact slt_trans (List.mem_filter.1 hp).2 (List.mem_filter.1 hq).2
theorem asc_put {S:Sh} (h:Asc S.kv) (k v:ByteArray) (had:Option ByteArray):Asc (putSh k v S had).kv:=by
 unfold putSh;split
 ·
  exact h
 ·
  rw [kv_put k v _ h];exact asc_ins h k v
theorem asc_del {S:Sh} (h:Asc S.kv) (k:ByteArray) (had:Option ByteArray):Asc (delSh k S had).kv:=by
 unfold delSh;split
 ·
  exact h
 ·
  rw [kv_del k h];exact asc_filters h k
def repCells (code:Nat) (text:ByteArray):List Value:=[.int .u8 (code:Int),.string text]
def repV (code:Nat) (text:ByteArray):Value:=.agg (repCells code text).toArray
structure KvOut where
 sh:Sh
 code:Nat
 text:ByteArray
def kvGet (S:Sh) (c:CmdV):KvOut:=match S.look c.key with
 | none=>⟨S,1,ByteArray.empty⟩
 | some v=>⟨S,0,v⟩
def kvPut (S:Sh) (c:CmdV):KvOut:=match S.look c.key with
 | none=>if 256≤S.cnt then ⟨S,2,ByteArray.empty⟩ else ⟨putSh c.key c.fresh S none,0,ByteArray.empty⟩
 | some v=>⟨putSh c.key c.fresh S (some v),0,ByteArray.empty⟩
def kvDel (S:Sh) (c:CmdV):KvOut:=match S.look c.key with
 | none=>⟨S,1,ByteArray.empty⟩
 | some v=>⟨delSh c.key S (some v),0,v⟩
def kvCas (S:Sh) (c:CmdV):KvOut:=match S.look c.key with
 | none=>⟨S,1,ByteArray.empty⟩
 | some v=>if v=c.old then ⟨putSh c.key c.fresh S (some v),0,ByteArray.empty⟩ else ⟨S,2,v⟩
structure KvPost (T:Tr) (o:KvOut) (stay:Bool) (w w':World) (X:Tr):Prop where
 at_:TreeAt w' X
 bel:Below w.heap.size w w'
 shp:X.sh=o.sh
 num:X.cnt≤T.cnt+1
 keep:stay=true→X=T
def RepAt (w:World) (b:Nat) (code:Nat) (text:ByteArray):Prop:=w.heap[b]?=some (.cells (repCells code text).toArray 27 (0,0))
section
variable {w w' : World} {b b' i : Nat} {v x : Value} {t : TypeId} {code code' : Nat} {text text' : ByteArray} {cs : Array Value} {f : Nat × Nat}
theorem RepAt.cells (h:RepAt w b code text):w.cell? ⟨b,0,none⟩=some (.int .u8 (code:Int))∧w.cell? ⟨b,1,none⟩=some (.string text):=⟨cell_of_row _ _ _ _ _ _ h,cell_of_row _ _ _ _ _ _ h⟩
theorem RepAt.thawed (h:RepAt w b code text) (j:Nat):w.frozen? ⟨b,j,none⟩=false:=by
 unfold RepAt at h;simp [World.frozen?,h]
theorem RepAt.lt (h:RepAt w b code text):b<w.heap.size:=(Array.getElem?_eq_some_iff.1 h).1
theorem RepAt.below (h:RepAt w b code text) (hb:Below w.heap.size w w'):RepAt w' b code text:=(hb.block b h.lt).trans h
theorem RepAt.other (h:RepAt w b code text) (hne:b≠b'):RepAt (w.setCell ⟨b',i,none⟩ x) b code text:=(Below.heap_setCell _ _ _ _ (by exact hne)).trans h
theorem RepAt.set (h:RepAt w b code text) (hx:(repCells code text).toArray.setIfInBounds i x=(repCells code' text').toArray):RepAt (w.setCell ⟨b,i,none⟩ x) b code' text':=by
 unfold RepAt;rw [heap_setCell_same _ _ _ _ _ _ h,hx]
theorem TreeAt.setC (h:w.heap[b]?=some (.cells cs t f)) (hc:cs.size≠7):∀ {T:Tr},TreeAt w T→TreeAt (w.setCell ⟨b,i,none⟩ x) T
 | .nil,_=>trivial
 | .node q _ _ _ _ _,⟨h1,h2,h3⟩=>⟨(Below.heap_setCell _ _ _ _ (by
   show q≠b;rintro rfl;unfold NodeAt at h1;rw [h1] at h;cases h
   exact hc rfl)).trans h1,TreeAt.setC h hc h2,TreeAt.setC h hc h3⟩
end
structure DeedI (w0:World) (P:Option Addr) (c:CmdV) (w:World):Prop where
 bs:VarAt w w0.heap.size (.pointer P) 34
 bc:CmdAt w (w0.heap.size+1) c
 r0:VarAt w (w0.heap.size+2) (.pointer none) 34
 r1:RepAt w (w0.heap.size+3) 0 ByteArray.empty
 bel:Below w0.heap.size w0 w
theorem DeedI.below {w0 w w':World} {P:Option Addr} {c:CmdV} (h:DeedI w0 P c w) (hb:Below w.heap.size w w'):DeedI w0 P c w' :=
 ⟨h.bs.below hb,h.bc.below hb,h.r0.below hb,h.r1.below hb,h.bel.trans (hb.mono h.bel.size)⟩
theorem deed_start (w:World) (P:Option Addr) (c:CmdV):DeedI w P c ((((w.alloc (.cells #[.pointer P] 34)).alloc (.cells (cmdCells c).toArray 56)).alloc (.cells #[.pointer none] 34)).alloc (.cells (repCells 0 ByteArray.empty).toArray 27)):=by
 have b1:=(Below.refl w.heap.size w).alloc (Nat.le_refl _) (.cells #[.pointer P] 34);have b2:=b1.alloc b1.size (.cells (cmdCells c).toArray 56);have b3:=b2.alloc b2.size (.cells #[.pointer none] 34);have b4:=b3.alloc b3.size (.cells (repCells 0 ByteArray.empty).toArray 27);have s1:(w.alloc (.cells #[.pointer P] 34)).heap.size=w.heap.size+1:=by simp
 have s2:((w.alloc (.cells #[.pointer P] 34)).alloc (.cells (cmdCells c).toArray 56)).heap.size=w.heap.size+2:=by simp
 have s3:(((w.alloc (.cells #[.pointer P] 34)).alloc (.cells (cmdCells c).toArray 56)).alloc (.cells #[.pointer none] 34)).heap.size=w.heap.size+3:=by simp
 have v0:=VarAt.new w (.pointer P) 34;have v1:=CmdAt.new (w.alloc (.cells #[.pointer P] 34)) c;have v2:=VarAt.new ((w.alloc (.cells #[.pointer P] 34)).alloc (.cells (cmdCells c).toArray 56)) (.pointer none) 34;have v3:RepAt ((((w.alloc (.cells #[.pointer P] 34)).alloc (.cells (cmdCells c).toArray 56)).alloc (.cells #[.pointer none] 34)).alloc (.cells (repCells 0 ByteArray.empty).toArray 27)) _ 0 ByteArray.empty:=heap_alloc_new _ _;rw [s1] at v1;rw [s2] at v2;rw [s3] at v3;have a1:∀ (u:World) (o:Obj),Below u.heap.size u (u.alloc o):=fun u o=>(Below.refl _ _).alloc (Nat.le_refl _) _
 exact ⟨((v0.below (a1 _ _)).below (a1 _ _)).below (a1 _ _),(v1.below (a1 _ _)).below (a1 _ _),v2.below (a1 _ _),v3,b4⟩
def deedW (w0 w:World) (X:Option Addr) (code:Nat) (text:ByteArray):World:=((w.setCell ⟨w0.heap.size+2,0,none⟩ (.pointer X)).setCell ⟨w0.heap.size+3,0,none⟩ (.int .u8 (code:Int))).setCell ⟨w0.heap.size+3,1,none⟩ (.string text)
theorem deed_end {w0 w:World} {P:Option Addr} {c:CmdV} (h:DeedI w0 P c w) (X:Tr) (code:Nat) (text:ByteArray) (hX:TreeAt w X) :
  VarAt (deedW w0 w X.ptr code text) (w0.heap.size+2) (.pointer X.ptr) 34∧RepAt (deedW w0 w X.ptr code text) (w0.heap.size+3) code text∧Below w0.heap.size w0 (deedW w0 w X.ptr code text)∧TreeAt (deedW w0 w X.ptr code text) X:=by
 have r1:RepAt (w.setCell ⟨w0.heap.size+2,0,none⟩ (.pointer X.ptr)) (w0.heap.size+3) 0 ByteArray.empty:=h.r1.other (by omega);have r2:RepAt ((w.setCell ⟨w0.heap.size+2,0,none⟩ (.pointer X.ptr)).setCell ⟨w0.heap.size+3,0,none⟩ (.int .u8 (code:Int))) (w0.heap.size+3) code ByteArray.empty:=r1.set rfl;refine ⟨((h.r0.set).other (by omega)).other (by omega),r2.set rfl,below_setV (below_setV (below_setV h.bel (by omega)) (by omega)) (by omega),?_⟩;exact TreeAt.setC r2 (by simp [repCells]) (TreeAt.setC r1 (by simp [repCells]) (TreeAt.setC h.r0 (by simp) hX))
set_option maxHeartbeats 4000000 in
theorem kvget_any (c:CmdV) (T:Tr) (w:World) (hat:TreeAt w T) (_:T.cnt≤4611686018427387903) :
  Calls Tryz.prog 168 #[.agg #[.pointer T.ptr],.agg (cmdCells c).toArray] w fun e w'=>∃ X,e=.returned (.tuple #[.agg #[.pointer X.ptr],repV (kvGet T.sh c).code (kvGet T.sh c).text]) ∧
   KvPost T (kvGet T.sh c) (decide ((kvGet T.sh c).code≠0) || true) w w' X:=by
 obtain ⟨P,hP⟩:∃ P,T.ptr=P:=⟨_,rfl⟩;have hI:=deed_start w P c;rw [hP];have HP:=Lib.hid hP;clear hP
 obtain ⟨o,ho0⟩:∃ o,kvGet T.sh c=o:=⟨_,rfl⟩;rw [ho0];have HO:=Lib.hid ho0;clear ho0
 obtain ⟨L,hL⟩:∃ L,T.look c.key=L:=⟨_,rfl⟩;have hL':T.sh.look c.key=L:=by rw [← sh_look];exact hL
 go_enter Tryz.func168,Tryz.ntmps168
 go_upto_region 1 with fail;rw [show w.heap.size+1+1=w.heap.size+2 by omega,show w.heap.size+2+1=w.heap.size+3 by omega];change Code.wp _ _ _ _ ((((w.alloc (.cells #[.pointer P] 34)).alloc (.cells (cmdCells c).toArray 56)).alloc (.cells #[.pointer none] 34)).alloc (.cells (repCells 0 ByteArray.empty).toArray 27));generalize (((w.alloc (.cells #[.pointer P] 34)).alloc (.cells (cmdCells c).toArray 56)).alloc (.cells #[.pointer none] 34)).alloc (.cells (repCells 0 ByteArray.empty).toArray 27)=w1 at *;have hat1:=hat.below hI.bel;have hget:=get_any c.key T w1 hat1;rw [hL] at hget;rw [HP.out] at hget;have HI:=Lib.hid hI;clear hI
 have Hat1:=Lib.hid hat1;clear hat1
 have HL:=Lib.hid (And.intro hL hL');clear hL hL' hat
 have c0:=HI.out.bs.cell;obtain ⟨d0,d1,d2,d3,d4,d5,d6⟩:=HI.out.bc.cells;clear d0 d1 d2 d6;cases L with
 | none =>
  have Hget:=Lib.hid hget;clear hget
  obtain rfl:o=⟨T.sh,1,ByteArray.empty⟩:=by rw [← HO.out];unfold kvGet;rw [HL.out.2]
  go_upto_region 3 with ((with_reducible refine Hget.out.mono ?_);rintro e w' ⟨rfl,rfl⟩)
  obtain ⟨z0,z1,z2,z3⟩:=(by have:=deed_end HI.out T 1 ByteArray.empty Hat1.out;rwa [HP.out] at this);have e0:=HI.out.r0.cell;have e1:=HI.out.r0.thawed 0;obtain ⟨e2,e3⟩:=HI.out.r1.cells;have e4:=HI.out.r1.thawed 0;have e5:=HI.out.r1.thawed 1;have Hz:=Lib.hid (And.intro z0 (And.intro z1 (And.intro z2 z3)));clear z0 z1 z2 z3
  go_wp2_with fail;change bodyPost _ _ _ _ _ (deedW w w1 P 1 ByteArray.empty);clear e0 e1 e2 e3 e4 e5;have e0:=Hz.out.1.cell;obtain ⟨e2,e3⟩:=Hz.out.2.1.cells;generalize deedW w w1 P 1 ByteArray.empty=w9 at *;refine bodyPost_ret (v:=.tuple #[.agg #[.pointer P],.agg #[.int .u8 (1:Int),.string ByteArray.empty]]) (by simp [results,Tryz.results168,go_sem,e0,e2,e3] <;> rfl) rfl ?_;exact ⟨T,by rw [HP.out];rfl,Hz.out.2.2.2,Hz.out.2.2.1,rfl,by omega,fun _=>rfl⟩
 | some v =>
  have Hget:=Lib.hid hget;clear hget
  obtain rfl:o=⟨T.sh,0,v⟩:=by rw [← HO.out];unfold kvGet;rw [HL.out.2]
  go_upto_region 4 with ((with_reducible refine Hget.out.mono ?_);rintro e w' ⟨rfl,rfl⟩)
  obtain ⟨z0,z1,z2,z3⟩:=(by have:=deed_end HI.out T 0 v Hat1.out;rwa [HP.out] at this);have e0:=HI.out.r0.cell;have e1:=HI.out.r0.thawed 0;obtain ⟨e2,e3⟩:=HI.out.r1.cells;have e4:=HI.out.r1.thawed 0;have e5:=HI.out.r1.thawed 1;have Hz:=Lib.hid (And.intro z0 (And.intro z1 (And.intro z2 z3)));clear z0 z1 z2 z3
  go_wp2_with fail;change bodyPost _ _ _ _ _ (deedW w w1 P 0 v);clear e0 e1 e2 e3 e4 e5;have e0:=Hz.out.1.cell;obtain ⟨e2,e3⟩:=Hz.out.2.1.cells;generalize deedW w w1 P 0 v=w9 at *;refine bodyPost_ret (v:=.tuple #[.agg #[.pointer P],.agg #[.int .u8 (0:Int),.string v]]) (by simp [results,Tryz.results168,go_sem,e0,e2,e3] <;> rfl) rfl ?_;exact ⟨T,by rw [HP.out];rfl,Hz.out.2.2.2,Hz.out.2.2.1,rfl,by omega,fun _=>rfl⟩
set_option maxHeartbeats 4000000 in
theorem kvput_any (c:CmdV) (hk:c.key.size≤maxLen) (T:Tr) (w:World) (hat:TreeAt w T) (hcnt:T.cnt≤4611686018427387903) :
  Calls Tryz.prog 169 #[.agg #[.pointer T.ptr],.agg (cmdCells c).toArray] w fun e w'=>∃ X,e=.returned (.tuple #[.agg #[.pointer X.ptr],repV (kvPut T.sh c).code (kvPut T.sh c).text]) ∧
   KvPost T (kvPut T.sh c) (decide ((kvPut T.sh c).code≠0)) w w' X:=by
 obtain ⟨P,hP⟩:∃ P,T.ptr=P:=⟨_,rfl⟩;have hI:=deed_start w P c;rw [hP];have HP:=Lib.hid hP;clear hP
 obtain ⟨o,ho0⟩:∃ o,kvPut T.sh c=o:=⟨_,rfl⟩;rw [ho0];have HO:=Lib.hid ho0;clear ho0
 obtain ⟨L,hL⟩:∃ L,T.look c.key=L:=⟨_,rfl⟩;have hL':T.sh.look c.key=L:=by rw [← sh_look];exact hL
 go_enter Tryz.func169,Tryz.ntmps169
 go_upto_region 1 with fail;rw [show w.heap.size+1+1=w.heap.size+2 by omega,show w.heap.size+2+1=w.heap.size+3 by omega];change Code.wp _ _ _ _ ((((w.alloc (.cells #[.pointer P] 34)).alloc (.cells (cmdCells c).toArray 56)).alloc (.cells #[.pointer none] 34)).alloc (.cells (repCells 0 ByteArray.empty).toArray 27));generalize (((w.alloc (.cells #[.pointer P] 34)).alloc (.cells (cmdCells c).toArray 56)).alloc (.cells #[.pointer none] 34)).alloc (.cells (repCells 0 ByteArray.empty).toArray 27)=w1 at *;have hat1:=hat.below hI.bel;have hget:=get_any c.key T w1 hat1;rw [hL] at hget;rw [HP.out] at hget;have HI:=Lib.hid hI;clear hI
 have Hat1:=Lib.hid hat1;clear hat1
 have HL:=Lib.hid (And.intro hL hL');clear hL hL' hat
 have c0:=HI.out.bs.cell;obtain ⟨d0,d1,d2,d3,d4,d5,d6⟩:=HI.out.bc.cells;clear d0 d1 d2 d6;have hlen:=len_any T w1 Hat1.out;rw [HP.out] at hlen;have Hlen:=Lib.hid hlen;clear hlen
 have hput:=putT_any c.key c.fresh hk T w1.heap.size w1 (Nat.le_refl _) Hat1.out.lo Hat1.out (by omega);rw [HP.out,HL.out.1] at hput;have Hput:=Lib.hid hput;clear hput
 cases L with
 | none =>
  have Hget:=Lib.hid hget;clear hget
  by_cases hfull:256≤T.cnt
  ·
   obtain rfl:o=⟨T.sh,2,ByteArray.empty⟩:=by rw [← HO.out];unfold kvPut;rw [HL.out.2, ← sh_cnt];simp [hfull]
   have hf':(256:Int)≤(T.cnt:Int):=by omega
   go_upto_region 3 with (first | ((with_reducible refine Hget.out.mono ?_);clear Hget;rintro e w' ⟨rfl,rfl⟩) | ((with_reducible refine Hlen.out.mono ?_);clear Hlen;rintro e w' ⟨rfl,rfl⟩) | ((with_reducible refine Hput.out.mono ?_);clear Hput;rintro e w2 ⟨X,rfl,hx⟩;have Hx:=Lib.hid hx;clear hx))
   obtain ⟨z0,z1,z2,z3⟩:=(by have:=deed_end HI.out T 2 ByteArray.empty Hat1.out;rwa [HP.out] at this);have e0:=HI.out.r0.cell;have e1:=HI.out.r0.thawed 0;obtain ⟨e2,e3⟩:=HI.out.r1.cells;have e4:=HI.out.r1.thawed 0;have e5:=HI.out.r1.thawed 1;have Hz:=Lib.hid (And.intro z0 (And.intro z1 (And.intro z2 z3)));clear z0 z1 z2 z3
   go_wp2_with fail;change bodyPost _ _ _ _ _ (deedW w w1 P 2 ByteArray.empty);clear e0 e1 e2 e3 e4 e5;have e0:=Hz.out.1.cell;obtain ⟨e2,e3⟩:=Hz.out.2.1.cells;generalize deedW w w1 P 2 ByteArray.empty=w9 at *;refine bodyPost_ret (v:=.tuple #[.agg #[.pointer P],.agg #[.int .u8 (2:Int),.string ByteArray.empty]]) (by simp [results,Tryz.results169,go_sem,e0,e2,e3] <;> rfl) rfl ?_;exact ⟨T,by rw [HP.out];rfl,Hz.out.2.2.2,Hz.out.2.2.1,rfl,by omega,fun _=>rfl⟩
  ·
   obtain rfl:o=⟨putSh c.key c.fresh T.sh none,0,ByteArray.empty⟩:=by rw [← HO.out];unfold kvPut;rw [HL.out.2, ← sh_cnt];simp [hfull]
   have hf' : ¬ (256:Int)≤(T.cnt:Int):=by omega
   go_wp2_with (first | ((with_reducible refine Hget.out.mono ?_);clear Hget;rintro e w' ⟨rfl,rfl⟩) | ((with_reducible refine Hlen.out.mono ?_);clear Hlen;rintro e w' ⟨rfl,rfl⟩) | ((with_reducible refine Hput.out.mono ?_);clear Hput;rintro e w2 ⟨X,rfl,hx⟩;have HI2:=Lib.hid (HI.out.below hx.bel);have Hx:=Lib.hid hx;clear hx;have e0:=HI2.out.r0.cell;have e1:=HI2.out.r0.thawed 0;obtain ⟨e2,e3⟩:=HI2.out.r1.cells;have e4:=HI2.out.r1.thawed 0;have e5:=HI2.out.r1.thawed 1));have Hz:=Lib.hid (deed_end HI2.out X 0 ByteArray.empty Hx.out.at_);change bodyPost _ _ _ _ _ (deedW w w2 X.ptr 0 ByteArray.empty);clear e0 e1 e2 e3 e4 e5;have e0:=Hz.out.1.cell;obtain ⟨e2,e3⟩:=Hz.out.2.1.cells;generalize deedW w w2 X.ptr 0 ByteArray.empty=w9 at *;refine bodyPost_ret (v:=.tuple #[.agg #[.pointer X.ptr],.agg #[.int .u8 (0:Int),.string ByteArray.empty]]) (by simp [results,Tryz.results169,go_sem,e0,e2,e3] <;> rfl) rfl ?_;exact ⟨X,rfl,Hz.out.2.2.2,Hz.out.2.2.1,Hx.out.shp,Hx.out.num,fun h=>by simp at h⟩
 | some v =>
  have Hget:=Lib.hid hget;clear hget
  obtain rfl:o=⟨putSh c.key c.fresh T.sh (some v),0,ByteArray.empty⟩:=by rw [← HO.out];unfold kvPut;rw [HL.out.2]
  go_wp2_with (first | ((with_reducible refine Hget.out.mono ?_);clear Hget;rintro e w' ⟨rfl,rfl⟩) | ((with_reducible refine Hlen.out.mono ?_);clear Hlen;rintro e w' ⟨rfl,rfl⟩) | ((with_reducible refine Hput.out.mono ?_);clear Hput;rintro e w2 ⟨X,rfl,hx⟩;have HI2:=Lib.hid (HI.out.below hx.bel);have Hx:=Lib.hid hx;clear hx;have e0:=HI2.out.r0.cell;have e1:=HI2.out.r0.thawed 0;obtain ⟨e2,e3⟩:=HI2.out.r1.cells;have e4:=HI2.out.r1.thawed 0;have e5:=HI2.out.r1.thawed 1));have Hz:=Lib.hid (deed_end HI2.out X 0 ByteArray.empty Hx.out.at_);change bodyPost _ _ _ _ _ (deedW w w2 X.ptr 0 ByteArray.empty);clear e0 e1 e2 e3 e4 e5;have e0:=Hz.out.1.cell;obtain ⟨e2,e3⟩:=Hz.out.2.1.cells;generalize deedW w w2 X.ptr 0 ByteArray.empty=w9 at *;refine bodyPost_ret (v:=.tuple #[.agg #[.pointer X.ptr],.agg #[.int .u8 (0:Int),.string ByteArray.empty]]) (by simp [results,Tryz.results169,go_sem,e0,e2,e3] <;> rfl) rfl ?_;exact ⟨X,rfl,Hz.out.2.2.2,Hz.out.2.2.1,Hx.out.shp,Hx.out.num,fun h=>by simp at h⟩
set_option maxHeartbeats 4000000 in
theorem kvdel_any (c:CmdV) (T:Tr) (w:World) (hat:TreeAt w T) (hcnt:T.cnt≤4611686018427387903) :
  Calls Tryz.prog 170 #[.agg #[.pointer T.ptr],.agg (cmdCells c).toArray] w fun e w'=>∃ X,e=.returned (.tuple #[.agg #[.pointer X.ptr],repV (kvDel T.sh c).code (kvDel T.sh c).text]) ∧
   KvPost T (kvDel T.sh c) (decide ((kvDel T.sh c).code≠0)) w w' X:=by
 obtain ⟨P,hP⟩:∃ P,T.ptr=P:=⟨_,rfl⟩;have hI:=deed_start w P c;rw [hP];have HP:=Lib.hid hP;clear hP
 obtain ⟨o,ho0⟩:∃ o,kvDel T.sh c=o:=⟨_,rfl⟩;rw [ho0];have HO:=Lib.hid ho0;clear ho0
 obtain ⟨L,hL⟩:∃ L,T.look c.key=L:=⟨_,rfl⟩;have hL':T.sh.look c.key=L:=by rw [← sh_look];exact hL
 go_enter Tryz.func170,Tryz.ntmps170
 go_upto_region 1 with fail;rw [show w.heap.size+1+1=w.heap.size+2 by omega,show w.heap.size+2+1=w.heap.size+3 by omega];change Code.wp _ _ _ _ ((((w.alloc (.cells #[.pointer P] 34)).alloc (.cells (cmdCells c).toArray 56)).alloc (.cells #[.pointer none] 34)).alloc (.cells (repCells 0 ByteArray.empty).toArray 27));generalize (((w.alloc (.cells #[.pointer P] 34)).alloc (.cells (cmdCells c).toArray 56)).alloc (.cells #[.pointer none] 34)).alloc (.cells (repCells 0 ByteArray.empty).toArray 27)=w1 at *;have hat1:=hat.below hI.bel;have hget:=get_any c.key T w1 hat1;rw [hL] at hget;rw [HP.out] at hget;have HI:=Lib.hid hI;clear hI
 have Hat1:=Lib.hid hat1;clear hat1
 have HL:=Lib.hid (And.intro hL hL');clear hL hL' hat
 have c0:=HI.out.bs.cell;obtain ⟨d0,d1,d2,d3,d4,d5,d6⟩:=HI.out.bc.cells;clear d0 d1 d2 d6;have hput:=delT_any c.key T w1.heap.size w1 (Nat.le_refl _) Hat1.out.lo Hat1.out (by omega);rw [HP.out,HL.out.1] at hput;have Hput:=Lib.hid hput;clear hput
 cases L with
 | none =>
  have Hget:=Lib.hid hget;clear hget
  obtain rfl:o=⟨T.sh,1,ByteArray.empty⟩:=by rw [← HO.out];unfold kvDel;rw [HL.out.2]
  go_upto_region 3 with (first | ((with_reducible refine Hget.out.mono ?_);clear Hget;rintro e w' ⟨rfl,rfl⟩) | ((with_reducible refine Hlen.out.mono ?_);clear Hlen;rintro e w' ⟨rfl,rfl⟩) | ((with_reducible refine Hput.out.mono ?_);clear Hput;rintro e w2 ⟨X,rfl,hx⟩;have Hx:=Lib.hid hx;clear hx))
  obtain ⟨z0,z1,z2,z3⟩:=(by have:=deed_end HI.out T 1 ByteArray.empty Hat1.out;rwa [HP.out] at this);have e0:=HI.out.r0.cell;have e1:=HI.out.r0.thawed 0;obtain ⟨e2,e3⟩:=HI.out.r1.cells;have e4:=HI.out.r1.thawed 0;have e5:=HI.out.r1.thawed 1;have Hz:=Lib.hid (And.intro z0 (And.intro z1 (And.intro z2 z3)));clear z0 z1 z2 z3
  go_wp2_with fail;change bodyPost _ _ _ _ _ (deedW w w1 P 1 ByteArray.empty);clear e0 e1 e2 e3 e4 e5;have e0:=Hz.out.1.cell;obtain ⟨e2,e3⟩:=Hz.out.2.1.cells;generalize deedW w w1 P 1 ByteArray.empty=w9 at *;refine bodyPost_ret (v:=.tuple #[.agg #[.pointer P],.agg #[.int .u8 (1:Int),.string ByteArray.empty]]) (by simp [results,Tryz.results170,go_sem,e0,e2,e3] <;> rfl) rfl ?_;exact ⟨T,by rw [HP.out];rfl,Hz.out.2.2.2,Hz.out.2.2.1,rfl,by omega,fun _=>rfl⟩
 | some v =>
  have Hget:=Lib.hid hget;clear hget
  obtain rfl:o=⟨delSh c.key T.sh (some v),0,v⟩:=by rw [← HO.out];unfold kvDel;rw [HL.out.2]
  go_wp2_with (first | ((with_reducible refine Hget.out.mono ?_);clear Hget;rintro e w' ⟨rfl,rfl⟩) | ((with_reducible refine Hlen.out.mono ?_);clear Hlen;rintro e w' ⟨rfl,rfl⟩) | ((with_reducible refine Hput.out.mono ?_);clear Hput;rintro e w2 ⟨X,rfl,hx⟩;have HI2:=Lib.hid (HI.out.below hx.bel);have Hx:=Lib.hid hx;clear hx;have e0:=HI2.out.r0.cell;have e1:=HI2.out.r0.thawed 0;obtain ⟨e2,e3⟩:=HI2.out.r1.cells;have e4:=HI2.out.r1.thawed 0;have e5:=HI2.out.r1.thawed 1));have Hz:=Lib.hid (deed_end HI2.out X 0 v Hx.out.at_);change bodyPost _ _ _ _ _ (deedW w w2 X.ptr 0 v);clear e0 e1 e2 e3 e4 e5;have e0:=Hz.out.1.cell;obtain ⟨e2,e3⟩:=Hz.out.2.1.cells;generalize deedW w w2 X.ptr 0 v=w9 at *;refine bodyPost_ret (v:=.tuple #[.agg #[.pointer X.ptr],.agg #[.int .u8 (0:Int),.string v]]) (by simp [results,Tryz.results170,go_sem,e0,e2,e3] <;> rfl) rfl ?_;exact ⟨X,rfl,Hz.out.2.2.2,Hz.out.2.2.1,Hx.out.shp,Hx.out.num,fun h=>by simp at h⟩
set_option maxHeartbeats 4000000 in
theorem kvcas_any (c:CmdV) (hk:c.key.size≤maxLen) (T:Tr) (w:World) (hat:TreeAt w T) (hcnt:T.cnt≤4611686018427387903) :
  Calls Tryz.prog 171 #[.agg #[.pointer T.ptr],.agg (cmdCells c).toArray] w fun e w'=>∃ X,e=.returned (.tuple #[.agg #[.pointer X.ptr],repV (kvCas T.sh c).code (kvCas T.sh c).text]) ∧
   KvPost T (kvCas T.sh c) (decide ((kvCas T.sh c).code≠0)) w w' X:=by
 obtain ⟨P,hP⟩:∃ P,T.ptr=P:=⟨_,rfl⟩;have hI:=deed_start w P c;rw [hP];have HP:=Lib.hid hP;clear hP
 obtain ⟨o,ho0⟩:∃ o,kvCas T.sh c=o:=⟨_,rfl⟩;rw [ho0];have HO:=Lib.hid ho0;clear ho0
 obtain ⟨L,hL⟩:∃ L,T.look c.key=L:=⟨_,rfl⟩;have hL':T.sh.look c.key=L:=by rw [← sh_look];exact hL
 go_enter Tryz.func171,Tryz.ntmps171
 go_upto_region 1 with fail;rw [show w.heap.size+1+1=w.heap.size+2 by omega,show w.heap.size+2+1=w.heap.size+3 by omega];change Code.wp _ _ _ _ ((((w.alloc (.cells #[.pointer P] 34)).alloc (.cells (cmdCells c).toArray 56)).alloc (.cells #[.pointer none] 34)).alloc (.cells (repCells 0 ByteArray.empty).toArray 27));generalize (((w.alloc (.cells #[.pointer P] 34)).alloc (.cells (cmdCells c).toArray 56)).alloc (.cells #[.pointer none] 34)).alloc (.cells (repCells 0 ByteArray.empty).toArray 27)=w1 at *;have hat1:=hat.below hI.bel;have hget:=get_any c.key T w1 hat1;rw [hL] at hget;rw [HP.out] at hget;have HI:=Lib.hid hI;clear hI
 have Hat1:=Lib.hid hat1;clear hat1
 have HL:=Lib.hid (And.intro hL hL');clear hL hL' hat
 have c0:=HI.out.bs.cell;obtain ⟨d0,d1,d2,d3,d4,d5,d6⟩:=HI.out.bc.cells;clear d0 d1 d2 d6;have hput:=putT_any c.key c.fresh hk T w1.heap.size w1 (Nat.le_refl _) Hat1.out.lo Hat1.out (by omega);rw [HP.out,HL.out.1] at hput;have Hput:=Lib.hid hput;clear hput
 cases L with
 | none =>
  have Hget:=Lib.hid hget;clear hget
  obtain rfl:o=⟨T.sh,1,ByteArray.empty⟩:=by rw [← HO.out];unfold kvCas;rw [HL.out.2]
  go_upto_region 3 with (first | ((with_reducible refine Hget.out.mono ?_);clear Hget;rintro e w' ⟨rfl,rfl⟩) | ((with_reducible refine Hlen.out.mono ?_);clear Hlen;rintro e w' ⟨rfl,rfl⟩) | ((with_reducible refine Hput.out.mono ?_);clear Hput;rintro e w2 ⟨X,rfl,hx⟩;have Hx:=Lib.hid hx;clear hx))
  obtain ⟨z0,z1,z2,z3⟩:=(by have:=deed_end HI.out T 1 ByteArray.empty Hat1.out;rwa [HP.out] at this);have e0:=HI.out.r0.cell;have e1:=HI.out.r0.thawed 0;obtain ⟨e2,e3⟩:=HI.out.r1.cells;have e4:=HI.out.r1.thawed 0;have e5:=HI.out.r1.thawed 1;have Hz:=Lib.hid (And.intro z0 (And.intro z1 (And.intro z2 z3)));clear z0 z1 z2 z3
  go_wp2_with fail;change bodyPost _ _ _ _ _ (deedW w w1 P 1 ByteArray.empty);clear e0 e1 e2 e3 e4 e5;have e0:=Hz.out.1.cell;obtain ⟨e2,e3⟩:=Hz.out.2.1.cells;generalize deedW w w1 P 1 ByteArray.empty=w9 at *;refine bodyPost_ret (v:=.tuple #[.agg #[.pointer P],.agg #[.int .u8 (1:Int),.string ByteArray.empty]]) (by simp [results,Tryz.results171,go_sem,e0,e2,e3] <;> rfl) rfl ?_;exact ⟨T,by rw [HP.out];rfl,Hz.out.2.2.2,Hz.out.2.2.1,rfl,by omega,fun _=>rfl⟩
 | some v =>
  have Hget:=Lib.hid hget;clear hget
  obtain ⟨g0,g1,g2,g3,g4,g5,g6⟩:=HI.out.bc.cells;clear g0 g1 g2 g3 g5 g6;by_cases hv:v=c.old
  ·
   subst hv;obtain rfl:o=⟨putSh c.key c.fresh T.sh (some c.old),0,ByteArray.empty⟩:=by rw [← HO.out];unfold kvCas;rw [HL.out.2];simp
   go_wp2_with (first | ((with_reducible refine Hget.out.mono ?_);clear Hget;rintro e w' ⟨rfl,rfl⟩) | ((with_reducible refine Hlen.out.mono ?_);clear Hlen;rintro e w' ⟨rfl,rfl⟩) | ((with_reducible refine Hput.out.mono ?_);clear Hput;rintro e w2 ⟨X,rfl,hx⟩;have HI2:=Lib.hid (HI.out.below hx.bel);have Hx:=Lib.hid hx;clear hx;have e0:=HI2.out.r0.cell;have e1:=HI2.out.r0.thawed 0;obtain ⟨e2,e3⟩:=HI2.out.r1.cells;have e4:=HI2.out.r1.thawed 0;have e5:=HI2.out.r1.thawed 1));have Hz:=Lib.hid (deed_end HI2.out X 0 ByteArray.empty Hx.out.at_);change bodyPost _ _ _ _ _ (deedW w w2 X.ptr 0 ByteArray.empty);clear e0 e1 e2 e3 e4 e5;have e0:=Hz.out.1.cell;obtain ⟨e2,e3⟩:=Hz.out.2.1.cells;generalize deedW w w2 X.ptr 0 ByteArray.empty=w9 at *;refine bodyPost_ret (v:=.tuple #[.agg #[.pointer X.ptr],.agg #[.int .u8 (0:Int),.string ByteArray.empty]]) (by simp [results,Tryz.results171,go_sem,e0,e2,e3] <;> rfl) rfl ?_;exact ⟨X,rfl,Hz.out.2.2.2,Hz.out.2.2.1,Hx.out.shp,Hx.out.num,fun h=>by simp at h⟩
  ·
   obtain rfl:o=⟨T.sh,2,v⟩:=by rw [← HO.out];unfold kvCas;rw [HL.out.2];simp [hv]
   have hvt:=txt_ne hv;clear hv;go_upto_region 5 with (first | ((with_reducible refine Hget.out.mono ?_);clear Hget;rintro e w' ⟨rfl,rfl⟩) | ((with_reducible refine Hlen.out.mono ?_);clear Hlen;rintro e w' ⟨rfl,rfl⟩) | ((with_reducible refine Hput.out.mono ?_);clear Hput;rintro e w2 ⟨X,rfl,hx⟩;have Hx:=Lib.hid hx;clear hx))
   obtain ⟨z0,z1,z2,z3⟩:=(by have:=deed_end HI.out T 2 v Hat1.out;rwa [HP.out] at this);have e0:=HI.out.r0.cell;have e1:=HI.out.r0.thawed 0;obtain ⟨e2,e3⟩:=HI.out.r1.cells;have e4:=HI.out.r1.thawed 0;have e5:=HI.out.r1.thawed 1;have Hz:=Lib.hid (And.intro z0 (And.intro z1 (And.intro z2 z3)));clear z0 z1 z2 z3
   go_wp2_with fail;change bodyPost _ _ _ _ _ (deedW w w1 P 2 v);clear e0 e1 e2 e3 e4 e5;have e0:=Hz.out.1.cell;obtain ⟨e2,e3⟩:=Hz.out.2.1.cells;generalize deedW w w1 P 2 v=w9 at *;refine bodyPost_ret (v:=.tuple #[.agg #[.pointer P],.agg #[.int .u8 (2:Int),.string v]]) (by simp [results,Tryz.results171,go_sem,e0,e2,e3] <;> rfl) rfl ?_;exact ⟨T,by rw [HP.out];rfl,Hz.out.2.2.2,Hz.out.2.2.1,rfl,by omega,fun _=>rfl⟩
def fnV (f:Nat):Value:=.func (.func f) #[] #[]
def deedsL:List (UInt8 × Value):=[(1,fnV 168),(2,fnV 169),(3,fnV 170),(4,fnV 171)]
def deedOf (k:UInt8):Option Value:=if k=1 then some (fnV 168) else if k=2 then some (fnV 169) else if k=3 then some (fnV 170) else if k=4 then some (fnV 171) else none
theorem deeds_get (k:UInt8):mget deedsL k=deedOf k:=by
 unfold deedOf mget deedsL;by_cases h1:k=1
 ·
  subst h1;rfl
 by_cases h2:k=2
 ·
  subst h2;rfl
 by_cases h3:k=3
 ·
  subst h3;rfl
 by_cases h4:k=4
 ·
  subst h4;rfl
 simp [h1,h2,h3,h4,eq_comm]
theorem zDeed (w:World):(zeroValue 233).run Tryz.prog w=.ok .nilFunc w:=by
 go_simp
set_option maxHeartbeats 2000000 in
theorem deeds_any (w:World):Calls Tryz.prog 143 #[] w fun e w'=>e=.returned (.map (some w.heap.size))∧MapAt kKind w' w.heap.size deedsL∧Below w.heap.size w w':=by
 have hm0:=MapAt.made kKind w;have hb0:Below w.heap.size w (w.alloc (.map #[] 0)):=(Below.refl _ _).alloc (Nat.le_refl _) _;generalize hw0:w.alloc (.map #[] 0)=w0 at *
 have hb:∀ {x y:World},Below w.heap.size w x→x.grownBy y (some w.heap.size)→Below w.heap.size w y:=fun {x y} h g =>
  ⟨g.os.trans h.os,g.tape.trans h.tape,g.output.trans h.output,Nat.le_trans h.size g.size,fun q hq=>(g.block q (Nat.lt_of_lt_of_le hq h.size) (fun e=>by cases e;omega)).trans (h.block q hq)⟩
 obtain ⟨w1,hu1,hm1,hg1,_⟩:=run_update_at kKind hm0 Tryz.underlying235 1 (fnV 168);obtain ⟨w2,hu2,hm2,hg2,_⟩:=run_update_at kKind hm1 Tryz.underlying235 2 (fnV 169);obtain ⟨w3,hu3,hm3,hg3,_⟩:=run_update_at kKind hm2 Tryz.underlying235 3 (fnV 170);obtain ⟨w4,hu4,hm4,hg4,_⟩:=run_update_at kKind hm3 Tryz.underlying235 4 (fnV 171);have Hend:=Lib.hid (And.intro (show MapAt kKind w4 w.heap.size deedsL from hm4) (hb (hb (hb (hb hb0 hg1) hg2) hg3) hg4));clear hm0 hb0 hb hm1 hm2 hm3 hm4 hg1 hg2 hg3 hg4;have hv1:(Instr.mapUpdate 235 (.map (some w.heap.size)) (.int .u8 1) (.func (.func 168) #[] #[])).run Tryz.prog w0=.ok () w1:=hu1;have hv2:(Instr.mapUpdate 235 (.map (some w.heap.size)) (.int .u8 2) (.func (.func 169) #[] #[])).run Tryz.prog w1=.ok () w2:=hu2;have hv3:(Instr.mapUpdate 235 (.map (some w.heap.size)) (.int .u8 3) (.func (.func 170) #[] #[])).run Tryz.prog w2=.ok () w3:=hu3;have hv4:(Instr.mapUpdate 235 (.map (some w.heap.size)) (.int .u8 4) (.func (.func 171) #[] #[])).run Tryz.prog w3=.ok () w4:=hu4;clear hu1 hu2 hu3 hu4;have hmm:=@run_makeMap Tryz.prog;go_enter Tryz.func143,Tryz.ntmps143
 go_wp2_with fail;go_ret;exact ⟨rfl,Hend.out⟩
def kvDo (S:Sh) (c:CmdV):KvOut :=
 if mayC c=true then (if c.kind=1 then kvGet S c else if c.kind=2 then kvPut S c else if c.kind=3 then kvDel S c else if c.kind=4 then kvCas S c else ⟨S,2,ByteArray.empty⟩) else ⟨S,2,ByteArray.empty⟩
theorem may_key {c:CmdV} (h:mayC c=true):c.key.size≤16:=by
 unfold mayC at h;simp only [Bool.and_eq_true,decide_eq_true_eq] at h;have h1:=h.1.1.1.2;unfold mostOf at h1;split at h1 <;> omega
theorem cmd_eta (c:CmdV):(cmdCells c).toArray=#[.int .u8 (c.client.toNat:Int),.int .u32 (c.seq.toNat:Int),.int .u8 (c.kind.toNat:Int),.string c.key,.string c.old,.string c.fresh,.int .u8 (c.set.toNat:Int)]:=rfl
set_option maxHeartbeats 8000000 in
theorem do_any (c:CmdV) (T:Tr) (w:World) (hat:TreeAt w T) (hcnt:T.cnt≤4611686018427387903) :
  Calls Tryz.prog 80 #[.agg #[.pointer T.ptr],.agg (cmdCells c).toArray] w fun e w'=>∃ X,e=.returned (.tuple #[.agg #[.pointer X.ptr],repV (kvDo T.sh c).code (kvDo T.sh c).text]) ∧
   KvPost T (kvDo T.sh c) (decide ((kvDo T.sh c).code≠0) || decide (c.kind=1)) w w' X:=by
 obtain ⟨P,hP⟩:∃ P,T.ptr=P:=⟨_,rfl⟩;have hI:=deed_start w P c;rw [hP];have HP:=Lib.hid hP;clear hP
 obtain ⟨o,ho0⟩:∃ o,kvDo T.sh c=o:=⟨_,rfl⟩;rw [ho0];have HO:=Lib.hid ho0;clear ho0
 go_enter Tryz.func80,Tryz.ntmps80
 go_upto_region 1 with fail;rw [show w.heap.size+1+1=w.heap.size+2 by omega,show w.heap.size+2+1=w.heap.size+3 by omega];change Code.wp _ _ _ _ ((((w.alloc (.cells #[.pointer P] 34)).alloc (.cells (cmdCells c).toArray 56)).alloc (.cells #[.pointer none] 34)).alloc (.cells (repCells 0 ByteArray.empty).toArray 27));generalize (((w.alloc (.cells #[.pointer P] 34)).alloc (.cells (cmdCells c).toArray 56)).alloc (.cells #[.pointer none] 34)).alloc (.cells (repCells 0 ByteArray.empty).toArray 27)=w1 at *;have hat1:=hat.below hI.bel;have HI:=Lib.hid hI;clear hI
 have Hat1:=Lib.hid hat1;clear hat1 hat
 obtain ⟨fv,hfv⟩:∃ v,(deedOf c.kind).getD .nilFunc=v:=⟨_,rfl⟩;obtain ⟨ok,hok⟩:∃ b,(deedOf c.kind).isSome=b:=⟨_,rfl⟩;have HF:=Lib.hid (And.intro hfv hok);clear hfv hok
 refine (wpIn_wide (n:=1)).1 ?_;refine RegK.wpIn_region_can (F:=Fence.wide) (KeptW w1) [(1,0),(2,0),(0,1),(3,0),(4,0),(5,0),(6,0),(7,0),(8,0)] (by kernel_rfl) (by kernel_rfl) (by kernel_rfl) (fun _ _ d _ _ h=>by cases d <;> exact h) ⟨rfl,rfl,rfl,Nat.le_refl _,fun _ _=>rfl⟩ ?_;dsimp only [RegK.pick,List.getElem?_cons_zero,List.getElem?_cons_succ];change RegK.Can _ _ _ _ _ _ _ _ w1.drew;have hkd:KeptW w1 w1.drew:=⟨rfl,rfl,rfl,Nat.le_refl _,fun _ _=>rfl⟩;iterate 1 (refine RegK.can_reads ?_;intro K hK;go_simp;(first | (refine ⟨_,fun _ _=>rfl,hK _ ?_⟩) | (refine hK _ ?_));clear hK K)
 refine RegK.can_reads ?_;intro K hK;go_simp;refine ⟨.int .u8 (c.kind.toNat:Int),fun y hy=>?_,hK _ ?_⟩
 ·
  have f0:=(HI.out.bc.below (KeptW.bel hy)).cells.2.2.1;go_simp
 clear hK K;refine RegK.can_narrows (fun _=>trivial) ?_;intro K K0 hK hK0;go_simp;refine ⟨trivial,?_⟩;refine (callsIn_wide.2 (deeds_any w1.drew)).mono ?_;rintro e w2 ⟨rfl,hm,hb⟩;refine hK (fun y=>KeptW w1 y∧MapAt kKind y w1.drew.heap.size deedsL) _ _ (fun y h=>h.1) ⟨KeptW.mono hkd hb,hm⟩ ?_;have hk2:KeptW w1 w2:=KeptW.mono hkd hb;clear hK K K0 hK0 hm hb hkd;refine RegK.can_reads ?_;intro K hK;go_simp;refine ⟨.tuple #[fv,.bool ok],fun y hy hy2=>?_,hK _ ?_⟩
 ·
  have f0:=run_lookup_at kKind hy2 Tryz.underlying235 (zDeed y) c.kind true;rw [deeds_get,HF.out.1,HF.out.2] at f0;have f1:(Instr.lookup 235 (.map (some w1.heap.size)) (.int .u8 (c.kind.toNat:Int)) true).run Tryz.prog y=.ok (.tuple #[fv,.bool ok]) y:=f0;clear f0;go_simp
 clear hK K;iterate 5 (refine RegK.can_reads ?_;intro K hK;go_simp;(first | (refine ⟨_,fun _ _ _=>rfl,hK _ ?_⟩) | (refine ⟨_,fun _ _=>rfl,hK _ ?_⟩) | (refine hK _ ?_));clear hK K)
 refine RegK.can_nil ?_;have HI2:=Lib.hid (HI.out.below (KeptW.bel hk2));clear HI
 have Hat2:=Lib.hid (Hat1.out.below (KeptW.bel hk2));clear Hat1 hk2
 by_cases hk:c.kind=1
 ·
  skip
  have Hk:=Lib.hid hk;clear hk
  obtain rfl:fv=.func (.func 168) #[] #[]:=by rw [← HF.out.1,Hk.out];rfl
  obtain rfl:ok=true:=by rw [← HF.out.2,Hk.out];rfl
  have hck:=check_any c w2;obtain ⟨d0,d1,d2,d3,d4,d5,d6⟩:=HI2.out.bc.cells;by_cases hm:mayC c=true
  ·
   rw [if_pos hm] at hck;have Hck:=Lib.hid (show Calls Tryz.prog 78 #[.agg #[.int .u8 (c.client.toNat:Int),.int .u32 (c.seq.toNat:Int),.int .u8 (c.kind.toNat:Int),.string c.key,.string c.old,.string c.fresh,.int .u8 (c.set.toNat:Int)]] w2 _ from hck);clear hck
   have ho:kvGet T.sh c=o:=by rw [← HO.out];unfold kvDo;rw [if_pos hm,Hk.out];rfl
   have Ho:=Lib.hid ho;clear ho
   go_upto_region 4 with ((with_reducible refine Hck.out.mono ?_);clear Hck;rintro e w3 ⟨rfl,hb3⟩;have HI3:=Lib.hid (HI2.out.below hb3);have Hat3:=Lib.hid (Hat2.out.below hb3);clear hb3)
   clear d0 d1 d2 d3 d4 d5 d6 HI2 Hat2;obtain ⟨d0,d1,d2,d3,d4,d5,d6⟩:=HI3.out.bc.cells;have b0:=HI3.out.bs.cell;have hdd:=kvget_any c T w3 Hat3.out hcnt;rw [HP.out,Ho.out] at hdd;clear Ho HO;obtain ⟨oS,oc,ot⟩:=o;have Hdd:=Lib.hid (show Calls Tryz.prog 168 #[.agg #[.pointer P],.agg #[.int .u8 (c.client.toNat:Int),.int .u32 (c.seq.toNat:Int),.int .u8 (c.kind.toNat:Int),.string c.key,.string c.old,.string c.fresh,.int .u8 (c.set.toNat:Int)]] w3 (fun e w'=>∃ X,e=.returned (.tuple #[.agg #[.pointer X.ptr],.agg #[.int .u8 (oc:Int),.string ot]])∧KvPost T ⟨oS,oc,ot⟩ _ w3 w' X) from hdd);clear hdd
   go_wp2_with ((with_reducible refine Hdd.out.mono ?_);clear Hdd;rintro e w4 ⟨X,rfl,hx⟩;have HI4:=Lib.hid (HI3.out.below hx.bel);have Hx:=Lib.hid hx;clear hx;have e0:=HI4.out.r0.cell;have e1:=HI4.out.r0.thawed 0;obtain ⟨e2,e3⟩:=HI4.out.r1.cells;have e4:=HI4.out.r1.thawed 0;have e5:=HI4.out.r1.thawed 1);have Hz:=Lib.hid (deed_end HI4.out X oc ot Hx.out.at_);change bodyPost _ _ _ _ _ (deedW w w4 X.ptr oc ot);clear e0 e1 e2 e3 e4 e5;have e0:=Hz.out.1.cell;obtain ⟨e2,e3⟩:=Hz.out.2.1.cells;generalize deedW w w4 X.ptr oc ot=w9 at *;refine bodyPost_ret (v:=.tuple #[.agg #[.pointer X.ptr],.agg #[.int .u8 (oc:Int),.string ot]]) (by simp [results,Tryz.results80,go_sem,e0,e2,e3] <;> rfl) rfl ?_;exact ⟨X,rfl,Hz.out.2.2.2,Hz.out.2.2.1,Hx.out.shp,Hx.out.num,fun h=>Hx.out.keep (by simp)⟩
  ·
   rw [if_neg hm] at hck;have Hck:=Lib.hid (show Calls Tryz.prog 78 #[.agg #[.int .u8 (c.client.toNat:Int),.int .u32 (c.seq.toNat:Int),.int .u8 (c.kind.toNat:Int),.string c.key,.string c.old,.string c.fresh,.int .u8 (c.set.toNat:Int)]] w2 _ from hck);clear hck
   obtain rfl:o=⟨T.sh,2,ByteArray.empty⟩:=by rw [← HO.out];unfold kvDo;rw [if_neg hm]
   have b0:=HI2.out.bs.cell;go_upto_region 3 with ((with_reducible refine Hck.out.mono ?_);clear Hck;rintro e w3 ⟨rfl,hb3⟩;have HI3:=Lib.hid (HI2.out.below hb3);have Hat3:=Lib.hid (Hat2.out.below hb3);clear hb3;have e0:=HI3.out.r0.cell;have e1:=HI3.out.r0.thawed 0;obtain ⟨e2,e3⟩:=HI3.out.r1.cells;have e4:=HI3.out.r1.thawed 0;have e5:=HI3.out.r1.thawed 1)
   clear d0 d1 d2 d3 d4 d5 d6 b0;have b0:=HI3.out.bs.cell;have Hz:=Lib.hid (by have:=deed_end HI3.out T 2 ByteArray.empty Hat3.out;rwa [HP.out] at this);go_wp2_with fail;change bodyPost _ _ _ _ _ (deedW w w3 P 2 ByteArray.empty);clear e0 e1 e2 e3 e4 e5;have e0:=Hz.out.1.cell;obtain ⟨e2,e3⟩:=Hz.out.2.1.cells;generalize deedW w w3 P 2 ByteArray.empty=w9 at *;refine bodyPost_ret (v:=.tuple #[.agg #[.pointer P],.agg #[.int .u8 (2:Int),.string ByteArray.empty]]) (by simp [results,Tryz.results80,go_sem,e0,e2,e3] <;> rfl) rfl ?_;exact ⟨T,by rw [HP.out];rfl,Hz.out.2.2.2,Hz.out.2.2.1,rfl,by omega,fun _=>rfl⟩
 by_cases hk2:c.kind=2
 ·
  have hk:=hk2;clear hk2
  have Hk:=Lib.hid hk;clear hk
  obtain rfl:fv=.func (.func 169) #[] #[]:=by rw [← HF.out.1,Hk.out];rfl
  obtain rfl:ok=true:=by rw [← HF.out.2,Hk.out];rfl
  have hck:=check_any c w2;obtain ⟨d0,d1,d2,d3,d4,d5,d6⟩:=HI2.out.bc.cells;by_cases hm:mayC c=true
  ·
   rw [if_pos hm] at hck;have Hck:=Lib.hid (show Calls Tryz.prog 78 #[.agg #[.int .u8 (c.client.toNat:Int),.int .u32 (c.seq.toNat:Int),.int .u8 (c.kind.toNat:Int),.string c.key,.string c.old,.string c.fresh,.int .u8 (c.set.toNat:Int)]] w2 _ from hck);clear hck
   have ho:kvPut T.sh c=o:=by rw [← HO.out];unfold kvDo;rw [if_pos hm,Hk.out];rfl
   have Ho:=Lib.hid ho;clear ho
   go_upto_region 4 with ((with_reducible refine Hck.out.mono ?_);clear Hck;rintro e w3 ⟨rfl,hb3⟩;have HI3:=Lib.hid (HI2.out.below hb3);have Hat3:=Lib.hid (Hat2.out.below hb3);clear hb3)
   clear d0 d1 d2 d3 d4 d5 d6 HI2 Hat2;obtain ⟨d0,d1,d2,d3,d4,d5,d6⟩:=HI3.out.bc.cells;have b0:=HI3.out.bs.cell;have hdd:=kvput_any c (Nat.le_trans (may_key hm) (by unfold maxLen;omega)) T w3 Hat3.out hcnt;rw [HP.out,Ho.out] at hdd;clear Ho HO;obtain ⟨oS,oc,ot⟩:=o;have Hdd:=Lib.hid (show Calls Tryz.prog 169 #[.agg #[.pointer P],.agg #[.int .u8 (c.client.toNat:Int),.int .u32 (c.seq.toNat:Int),.int .u8 (c.kind.toNat:Int),.string c.key,.string c.old,.string c.fresh,.int .u8 (c.set.toNat:Int)]] w3 (fun e w'=>∃ X,e=.returned (.tuple #[.agg #[.pointer X.ptr],.agg #[.int .u8 (oc:Int),.string ot]])∧KvPost T ⟨oS,oc,ot⟩ _ w3 w' X) from hdd);clear hdd
   go_wp2_with ((with_reducible refine Hdd.out.mono ?_);clear Hdd;rintro e w4 ⟨X,rfl,hx⟩;have HI4:=Lib.hid (HI3.out.below hx.bel);have Hx:=Lib.hid hx;clear hx;have e0:=HI4.out.r0.cell;have e1:=HI4.out.r0.thawed 0;obtain ⟨e2,e3⟩:=HI4.out.r1.cells;have e4:=HI4.out.r1.thawed 0;have e5:=HI4.out.r1.thawed 1);have Hz:=Lib.hid (deed_end HI4.out X oc ot Hx.out.at_);change bodyPost _ _ _ _ _ (deedW w w4 X.ptr oc ot);clear e0 e1 e2 e3 e4 e5;have e0:=Hz.out.1.cell;obtain ⟨e2,e3⟩:=Hz.out.2.1.cells;generalize deedW w w4 X.ptr oc ot=w9 at *;refine bodyPost_ret (v:=.tuple #[.agg #[.pointer X.ptr],.agg #[.int .u8 (oc:Int),.string ot]]) (by simp [results,Tryz.results80,go_sem,e0,e2,e3] <;> rfl) rfl ?_;exact ⟨X,rfl,Hz.out.2.2.2,Hz.out.2.2.1,Hx.out.shp,Hx.out.num,fun h=>Hx.out.keep (by simpa [Hk.out] using h)⟩
  ·
   rw [if_neg hm] at hck;have Hck:=Lib.hid (show Calls Tryz.prog 78 #[.agg #[.int .u8 (c.client.toNat:Int),.int .u32 (c.seq.toNat:Int),.int .u8 (c.kind.toNat:Int),.string c.key,.string c.old,.string c.fresh,.int .u8 (c.set.toNat:Int)]] w2 _ from hck);clear hck
   obtain rfl:o=⟨T.sh,2,ByteArray.empty⟩:=by rw [← HO.out];unfold kvDo;rw [if_neg hm]
   have b0:=HI2.out.bs.cell;go_upto_region 3 with ((with_reducible refine Hck.out.mono ?_);clear Hck;rintro e w3 ⟨rfl,hb3⟩;have HI3:=Lib.hid (HI2.out.below hb3);have Hat3:=Lib.hid (Hat2.out.below hb3);clear hb3;have e0:=HI3.out.r0.cell;have e1:=HI3.out.r0.thawed 0;obtain ⟨e2,e3⟩:=HI3.out.r1.cells;have e4:=HI3.out.r1.thawed 0;have e5:=HI3.out.r1.thawed 1)
   clear d0 d1 d2 d3 d4 d5 d6 b0;have b0:=HI3.out.bs.cell;have Hz:=Lib.hid (by have:=deed_end HI3.out T 2 ByteArray.empty Hat3.out;rwa [HP.out] at this);go_wp2_with fail;change bodyPost _ _ _ _ _ (deedW w w3 P 2 ByteArray.empty);clear e0 e1 e2 e3 e4 e5;have e0:=Hz.out.1.cell;obtain ⟨e2,e3⟩:=Hz.out.2.1.cells;generalize deedW w w3 P 2 ByteArray.empty=w9 at *;refine bodyPost_ret (v:=.tuple #[.agg #[.pointer P],.agg #[.int .u8 (2:Int),.string ByteArray.empty]]) (by simp [results,Tryz.results80,go_sem,e0,e2,e3] <;> rfl) rfl ?_;exact ⟨T,by rw [HP.out];rfl,Hz.out.2.2.2,Hz.out.2.2.1,rfl,by omega,fun _=>rfl⟩
 by_cases hk3:c.kind=3
 ·
  have hk:=hk3;clear hk3
  have Hk:=Lib.hid hk;clear hk
  obtain rfl:fv=.func (.func 170) #[] #[]:=by rw [← HF.out.1,Hk.out];rfl
  obtain rfl:ok=true:=by rw [← HF.out.2,Hk.out];rfl
  have hck:=check_any c w2;obtain ⟨d0,d1,d2,d3,d4,d5,d6⟩:=HI2.out.bc.cells;by_cases hm:mayC c=true
  ·
   rw [if_pos hm] at hck;have Hck:=Lib.hid (show Calls Tryz.prog 78 #[.agg #[.int .u8 (c.client.toNat:Int),.int .u32 (c.seq.toNat:Int),.int .u8 (c.kind.toNat:Int),.string c.key,.string c.old,.string c.fresh,.int .u8 (c.set.toNat:Int)]] w2 _ from hck);clear hck
   have ho:kvDel T.sh c=o:=by rw [← HO.out];unfold kvDo;rw [if_pos hm,Hk.out];rfl
   have Ho:=Lib.hid ho;clear ho
   go_upto_region 4 with ((with_reducible refine Hck.out.mono ?_);clear Hck;rintro e w3 ⟨rfl,hb3⟩;have HI3:=Lib.hid (HI2.out.below hb3);have Hat3:=Lib.hid (Hat2.out.below hb3);clear hb3)
   clear d0 d1 d2 d3 d4 d5 d6 HI2 Hat2;obtain ⟨d0,d1,d2,d3,d4,d5,d6⟩:=HI3.out.bc.cells;have b0:=HI3.out.bs.cell;have hdd:=kvdel_any c T w3 Hat3.out hcnt;rw [HP.out,Ho.out] at hdd;clear Ho HO;obtain ⟨oS,oc,ot⟩:=o;have Hdd:=Lib.hid (show Calls Tryz.prog 170 #[.agg #[.pointer P],.agg #[.int .u8 (c.client.toNat:Int),.int .u32 (c.seq.toNat:Int),.int .u8 (c.kind.toNat:Int),.string c.key,.string c.old,.string c.fresh,.int .u8 (c.set.toNat:Int)]] w3 (fun e w'=>∃ X,e=.returned (.tuple #[.agg #[.pointer X.ptr],.agg #[.int .u8 (oc:Int),.string ot]])∧KvPost T ⟨oS,oc,ot⟩ _ w3 w' X) from hdd);clear hdd
   go_wp2_with ((with_reducible refine Hdd.out.mono ?_);clear Hdd;rintro e w4 ⟨X,rfl,hx⟩;have HI4:=Lib.hid (HI3.out.below hx.bel);have Hx:=Lib.hid hx;clear hx;have e0:=HI4.out.r0.cell;have e1:=HI4.out.r0.thawed 0;obtain ⟨e2,e3⟩:=HI4.out.r1.cells;have e4:=HI4.out.r1.thawed 0;have e5:=HI4.out.r1.thawed 1);have Hz:=Lib.hid (deed_end HI4.out X oc ot Hx.out.at_);change bodyPost _ _ _ _ _ (deedW w w4 X.ptr oc ot);clear e0 e1 e2 e3 e4 e5;have e0:=Hz.out.1.cell;obtain ⟨e2,e3⟩:=Hz.out.2.1.cells;generalize deedW w w4 X.ptr oc ot=w9 at *;refine bodyPost_ret (v:=.tuple #[.agg #[.pointer X.ptr],.agg #[.int .u8 (oc:Int),.string ot]]) (by simp [results,Tryz.results80,go_sem,e0,e2,e3] <;> rfl) rfl ?_;exact ⟨X,rfl,Hz.out.2.2.2,Hz.out.2.2.1,Hx.out.shp,Hx.out.num,fun h=>Hx.out.keep (by simpa [Hk.out] using h)⟩
  ·
   rw [if_neg hm] at hck;have Hck:=Lib.hid (show Calls Tryz.prog 78 #[.agg #[.int .u8 (c.client.toNat:Int),.int .u32 (c.seq.toNat:Int),.int .u8 (c.kind.toNat:Int),.string c.key,.string c.old,.string c.fresh,.int .u8 (c.set.toNat:Int)]] w2 _ from hck);clear hck
   obtain rfl:o=⟨T.sh,2,ByteArray.empty⟩:=by rw [← HO.out];unfold kvDo;rw [if_neg hm]
   have b0:=HI2.out.bs.cell;go_upto_region 3 with ((with_reducible refine Hck.out.mono ?_);clear Hck;rintro e w3 ⟨rfl,hb3⟩;have HI3:=Lib.hid (HI2.out.below hb3);have Hat3:=Lib.hid (Hat2.out.below hb3);clear hb3;have e0:=HI3.out.r0.cell;have e1:=HI3.out.r0.thawed 0;obtain ⟨e2,e3⟩:=HI3.out.r1.cells;have e4:=HI3.out.r1.thawed 0;have e5:=HI3.out.r1.thawed 1)
   clear d0 d1 d2 d3 d4 d5 d6 b0;have b0:=HI3.out.bs.cell;have Hz:=Lib.hid (by have:=deed_end HI3.out T 2 ByteArray.empty Hat3.out;rwa [HP.out] at this);go_wp2_with fail;change bodyPost _ _ _ _ _ (deedW w w3 P 2 ByteArray.empty);clear e0 e1 e2 e3 e4 e5;have e0:=Hz.out.1.cell;obtain ⟨e2,e3⟩:=Hz.out.2.1.cells;generalize deedW w w3 P 2 ByteArray.empty=w9 at *;refine bodyPost_ret (v:=.tuple #[.agg #[.pointer P],.agg #[.int .u8 (2:Int),.string ByteArray.empty]]) (by simp [results,Tryz.results80,go_sem,e0,e2,e3] <;> rfl) rfl ?_;exact ⟨T,by rw [HP.out];rfl,Hz.out.2.2.2,Hz.out.2.2.1,rfl,by omega,fun _=>rfl⟩
 by_cases hk4:c.kind=4
 ·
  have hk:=hk4;clear hk4
  have Hk:=Lib.hid hk;clear hk
  obtain rfl:fv=.func (.func 171) #[] #[]:=by rw [← HF.out.1,Hk.out];rfl
  obtain rfl:ok=true:=by rw [← HF.out.2,Hk.out];rfl
  have hck:=check_any c w2;obtain ⟨d0,d1,d2,d3,d4,d5,d6⟩:=HI2.out.bc.cells;by_cases hm:mayC c=true
  ·
   rw [if_pos hm] at hck;have Hck:=Lib.hid (show Calls Tryz.prog 78 #[.agg #[.int .u8 (c.client.toNat:Int),.int .u32 (c.seq.toNat:Int),.int .u8 (c.kind.toNat:Int),.string c.key,.string c.old,.string c.fresh,.int .u8 (c.set.toNat:Int)]] w2 _ from hck);clear hck
   have ho:kvCas T.sh c=o:=by rw [← HO.out];unfold kvDo;rw [if_pos hm,Hk.out];rfl
   have Ho:=Lib.hid ho;clear ho
   go_upto_region 4 with ((with_reducible refine Hck.out.mono ?_);clear Hck;rintro e w3 ⟨rfl,hb3⟩;have HI3:=Lib.hid (HI2.out.below hb3);have Hat3:=Lib.hid (Hat2.out.below hb3);clear hb3)
   clear d0 d1 d2 d3 d4 d5 d6 HI2 Hat2;obtain ⟨d0,d1,d2,d3,d4,d5,d6⟩:=HI3.out.bc.cells;have b0:=HI3.out.bs.cell;have hdd:=kvcas_any c (Nat.le_trans (may_key hm) (by unfold maxLen;omega)) T w3 Hat3.out hcnt;rw [HP.out,Ho.out] at hdd;clear Ho HO;obtain ⟨oS,oc,ot⟩:=o;have Hdd:=Lib.hid (show Calls Tryz.prog 171 #[.agg #[.pointer P],.agg #[.int .u8 (c.client.toNat:Int),.int .u32 (c.seq.toNat:Int),.int .u8 (c.kind.toNat:Int),.string c.key,.string c.old,.string c.fresh,.int .u8 (c.set.toNat:Int)]] w3 (fun e w'=>∃ X,e=.returned (.tuple #[.agg #[.pointer X.ptr],.agg #[.int .u8 (oc:Int),.string ot]])∧KvPost T ⟨oS,oc,ot⟩ _ w3 w' X) from hdd);clear hdd
   go_wp2_with ((with_reducible refine Hdd.out.mono ?_);clear Hdd;rintro e w4 ⟨X,rfl,hx⟩;have HI4:=Lib.hid (HI3.out.below hx.bel);have Hx:=Lib.hid hx;clear hx;have e0:=HI4.out.r0.cell;have e1:=HI4.out.r0.thawed 0;obtain ⟨e2,e3⟩:=HI4.out.r1.cells;have e4:=HI4.out.r1.thawed 0;have e5:=HI4.out.r1.thawed 1);have Hz:=Lib.hid (deed_end HI4.out X oc ot Hx.out.at_);change bodyPost _ _ _ _ _ (deedW w w4 X.ptr oc ot);clear e0 e1 e2 e3 e4 e5;have e0:=Hz.out.1.cell;obtain ⟨e2,e3⟩:=Hz.out.2.1.cells;generalize deedW w w4 X.ptr oc ot=w9 at *;refine bodyPost_ret (v:=.tuple #[.agg #[.pointer X.ptr],.agg #[.int .u8 (oc:Int),.string ot]]) (by simp [results,Tryz.results80,go_sem,e0,e2,e3] <;> rfl) rfl ?_;exact ⟨X,rfl,Hz.out.2.2.2,Hz.out.2.2.1,Hx.out.shp,Hx.out.num,fun h=>Hx.out.keep (by simpa [Hk.out] using h)⟩
  ·
   rw [if_neg hm] at hck;have Hck:=Lib.hid (show Calls Tryz.prog 78 #[.agg #[.int .u8 (c.client.toNat:Int),.int .u32 (c.seq.toNat:Int),.int .u8 (c.kind.toNat:Int),.string c.key,.string c.old,.string c.fresh,.int .u8 (c.set.toNat:Int)]] w2 _ from hck);clear hck
   obtain rfl:o=⟨T.sh,2,ByteArray.empty⟩:=by rw [← HO.out];unfold kvDo;rw [if_neg hm]
   have b0:=HI2.out.bs.cell;go_upto_region 3 with ((with_reducible refine Hck.out.mono ?_);clear Hck;rintro e w3 ⟨rfl,hb3⟩;have HI3:=Lib.hid (HI2.out.below hb3);have Hat3:=Lib.hid (Hat2.out.below hb3);clear hb3;have e0:=HI3.out.r0.cell;have e1:=HI3.out.r0.thawed 0;obtain ⟨e2,e3⟩:=HI3.out.r1.cells;have e4:=HI3.out.r1.thawed 0;have e5:=HI3.out.r1.thawed 1)
   clear d0 d1 d2 d3 d4 d5 d6 b0;have b0:=HI3.out.bs.cell;have Hz:=Lib.hid (by have:=deed_end HI3.out T 2 ByteArray.empty Hat3.out;rwa [HP.out] at this);go_wp2_with fail;change bodyPost _ _ _ _ _ (deedW w w3 P 2 ByteArray.empty);clear e0 e1 e2 e3 e4 e5;have e0:=Hz.out.1.cell;obtain ⟨e2,e3⟩:=Hz.out.2.1.cells;generalize deedW w w3 P 2 ByteArray.empty=w9 at *;refine bodyPost_ret (v:=.tuple #[.agg #[.pointer P],.agg #[.int .u8 (2:Int),.string ByteArray.empty]]) (by simp [results,Tryz.results80,go_sem,e0,e2,e3] <;> rfl) rfl ?_;exact ⟨T,by rw [HP.out];rfl,Hz.out.2.2.2,Hz.out.2.2.1,rfl,by omega,fun _=>rfl⟩
 obtain rfl:fv=.nilFunc:=by rw [← HF.out.1];unfold deedOf;rw [if_neg hk,if_neg hk2,if_neg hk3,if_neg hk4];rfl
 obtain rfl:ok=false:=by rw [← HF.out.2];unfold deedOf;rw [if_neg hk,if_neg hk2,if_neg hk3,if_neg hk4];rfl
 obtain rfl:o=⟨T.sh,2,ByteArray.empty⟩:=by rw [← HO.out];unfold kvDo;rw [if_neg hk,if_neg hk2,if_neg hk3,if_neg hk4];split <;> rfl
 have hb3:Below w2.heap.size w2 w2:=Below.refl _ _;have HI3:=Lib.hid (HI2.out.below hb3);have Hat3:=Lib.hid (Hat2.out.below hb3);clear hb3;have e0:=HI3.out.r0.cell;have e1:=HI3.out.r0.thawed 0;obtain ⟨e2,e3⟩:=HI3.out.r1.cells;have e4:=HI3.out.r1.thawed 0;have e5:=HI3.out.r1.thawed 1
 have b0:=HI3.out.bs.cell;have Hz:=Lib.hid (by have:=deed_end HI3.out T 2 ByteArray.empty Hat3.out;rwa [HP.out] at this);go_wp2_with fail;change bodyPost _ _ _ _ _ (deedW w w2 P 2 ByteArray.empty);clear e0 e1 e2 e3 e4 e5;have e0:=Hz.out.1.cell;obtain ⟨e2,e3⟩:=Hz.out.2.1.cells;generalize deedW w w2 P 2 ByteArray.empty=w9 at *;refine bodyPost_ret (v:=.tuple #[.agg #[.pointer P],.agg #[.int .u8 (2:Int),.string ByteArray.empty]]) (by simp [results,Tryz.results80,go_sem,e0,e2,e3] <;> rfl) rfl ?_;exact ⟨T,by rw [HP.out];rfl,Hz.out.2.2.2,Hz.out.2.2.1,rfl,by omega,fun _=>rfl⟩
end Go.Proofs.YtbckjgageofldaaGreat
