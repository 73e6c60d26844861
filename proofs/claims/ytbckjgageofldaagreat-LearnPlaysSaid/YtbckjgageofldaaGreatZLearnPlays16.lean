/- The document's table of sessions: ref12.Last. No condition. -/
import Derived.Deep.DeepCutAuto
import Derived.Test.YtbckjgageofldaaGreatZLearnPlays6
import Derived.Test.YtbckjgageofldaaGreatZLearnPlays7
import Derived.Laws.AppendOwn
import Derived.Laws.AppendOwnNone
import Derived.OwnWalk
import Derived.Test.YtbckjgageofldaaGreatZLearnPlays11
import Derived.Test.YtbckjgageofldaaGreatZLearnPlays2
import Derived.Test.YtbckjgageofldaaGreatZLearnPlays12
import Derived.Test.YtbckjgageofldaaGreatZLearnPlays14
set_option maxRecDepth 100000
namespace Go.Proofs.YtbckjgageofldaaGreat
open Go.RowKit
structure KeptV where
 client:BitVec 8
 seq:BitVec 32
 code:Nat
 text:ByteArray
def keptCells (k:KeptV):List Value:=[.int .u8 (k.client.toNat:Int),.int .u32 (k.seq.toNat:Int),.int .u8 (k.code:Int),.string k.text]
theorem kept_eta (k:KeptV):(keptCells k).toArray=#[.int .u8 (k.client.toNat:Int),.int .u32 (k.seq.toNat:Int),.int .u8 (k.code:Int),.string k.text]:=rfl
abbrev KeptsAt:=SliceAt 4 keptCells
def keptNone (c:BitVec 8):KeptV:=⟨c,0#32,0,ByteArray.empty⟩
instance:Inhabited KeptV:=⟨keptNone 0#8⟩
def lastR (c:BitVec 8) (z:List KeptV):KeptV:=z.foldl (fun o x=>if x.client=c then x else o) (keptNone c)
theorem lastR_step (c:BitVec 8) (z:List KeptV) {i:Nat} (hi:i<z.length):lastR c (z.take (i+1))=if (z.getD i default).client=c then z.getD i default else lastR c (z.take i):=by
 unfold lastR;rw [List.take_succ_eq_append_getElem hi,List.foldl_append];simp [List.getD,List.getElem?_eq_getElem hi]
def KeptRow (w:World) (g:Nat) (k:KeptV):Prop:=w.heap[g]?=some (.cells (keptCells k).toArray 179 (0,0))
theorem KeptRow.cells {w:World} {g:Nat} {k:KeptV} (h:KeptRow w g k):w.cell? ⟨g,0,none⟩=some (.int .u8 (k.client.toNat:Int))∧w.cell? ⟨g,1,none⟩=some (.int .u32 (k.seq.toNat:Int))∧w.cell? ⟨g,2,none⟩=some (.int .u8 (k.code:Int))∧w.cell? ⟨g,3,none⟩=some (.string k.text) :=
 ⟨cell_of_row _ _ _ _ _ _ h,cell_of_row _ _ _ _ _ _ h,cell_of_row _ _ _ _ _ _ h,cell_of_row _ _ _ _ _ _ h⟩
theorem KeptRow.thawed {w:World} {g:Nat} {k:KeptV} (h:KeptRow w g k) (j:Nat):w.frozen? ⟨g,j,none⟩=false:=by
 unfold KeptRow at h;simp [World.frozen?,h]
theorem KeptRow.lt {w:World} {g:Nat} {k:KeptV} (h:KeptRow w g k):g<w.heap.size:=(Array.getElem?_eq_some_iff.1 h).1
theorem KeptRow.below {w w':World} {g:Nat} {k:KeptV} (h:KeptRow w g k) (hb:Below w.heap.size w w'):KeptRow w' g k:=(hb.block g h.lt).trans h
theorem KeptRow.set {w:World} {g:Nat} {k:KeptV} (h:KeptRow w g k) (x:KeptV):KeptRow (rowSt w g 0 (keptCells x)) g x:=rowSt_row (keptCells x) [] (keptCells k) w h rfl
theorem kept_cells {w:World} {a:Option Addr} {len:Nat} {z:List KeptV} (h:KeptsAt w a len z) {i:Nat} (hi:i<len) :
  ∃ b o,a=some ⟨b,o,none⟩∧b<w.heap.size∧w.cell? ⟨b,o+i*4,none⟩=some (.int .u8 ((z.getD i default).client.toNat:Int)) ∧
   w.cell? ⟨b,o+i*4+1,none⟩=some (.int .u32 ((z.getD i default).seq.toNat:Int))∧w.cell? ⟨b,o+i*4+2,none⟩=some (.int .u8 ((z.getD i default).code:Int)) ∧
   w.cell? ⟨b,o+i*4+3,none⟩=some (.string (z.getD i default).text):=by
 have hl:=h.hlen;have hz:z[i]?=some (z.getD i default):=by simp [List.getD,List.getElem?_eq_getElem (show i<z.length by omega)]
 obtain ⟨b,o,h1,h2,h3⟩:=h.cells i _ hz;exact ⟨b,o,h1,h2,h3 0 _ rfl,h3 1 _ rfl,h3 2 _ rfl,h3 3 _ rfl⟩
set_option maxHeartbeats 4000000 in
theorem rlast_any (A:Option Addr) (n cap:Nat) (z:List KeptV) (c:BitVec 8) (w:World) (h:KeptsAt w A n z) :
  Calls Tryz.prog 121 #[.slice A n cap,.int .u8 (c.toNat:Int)] w fun e w'=>e=.returned (.agg (keptCells (lastR c z)).toArray)∧Below w.heap.size w w':=by
 have hlen:=h.hlen;have hmax:=h.hmax;unfold maxLen at hmax;have H:=Lib.hid h;clear h
 have r0:KeptRow (w.alloc (.cells (keptCells (keptNone 0#8)).toArray 179)) w.heap.size (keptNone 0#8):=heap_alloc_new _ _;have s0:(w.alloc (.cells (keptCells (keptNone 0#8)).toArray 179)).heap.size=w.heap.size+1:=by simp
 have r1:KeptRow ((w.alloc (.cells (keptCells (keptNone 0#8)).toArray 179)).alloc (.cells (keptCells (keptNone c)).toArray 179)) (w.heap.size+1) (keptNone c):=by rw [← s0];exact heap_alloc_new _ _
 have r00:=r0.below ((Below.refl _ _).alloc (Nat.le_refl _) (.cells (keptCells (keptNone c)).toArray 179));have hb:=((Below.refl w.heap.size w).alloc (Nat.le_refl _) (.cells (keptCells (keptNone 0#8)).toArray 179)).alloc (by simp) (.cells (keptCells (keptNone c)).toArray 179);go_enter Tryz.func121,Tryz.ntmps121
 go_upto_region 2 with fail;change Code.wp _ _ _ _ ((w.alloc (.cells (keptCells (keptNone 0#8)).toArray 179)).alloc (.cells (keptCells (keptNone c)).toArray 179));generalize (w.alloc (.cells (keptCells (keptNone 0#8)).toArray 179)).alloc (.cells (keptCells (keptNone c)).toArray 179)=w1 at *;clear r0 s0;have R0:=Lib.hid r00;clear r00
 have R1:=Lib.hid r1;clear r1
 have HB:=Lib.hid hb;clear hb
 have Hlen:=Lib.hid hlen;clear hlen
 go_wp2_with fail;go_loopw [6] (fun s6 wr=>∃ i:Nat,i≤n∧s6=.int .i64 (i:Int)∧KeptRow wr w.heap.size (keptNone 0#8)∧KeptRow wr (w.heap.size+1) (lastR c (z.take i))∧Below w.heap.size w wr) (fun s6 _=>n - (intOf s6).toNat)
 case atStart=>exact ⟨0,by omega,rfl,R0.out,R1.out,HB.out⟩
 case round =>
  clear R0 R1 HB;obtain ⟨i,hi,rfl,hr0,hr1,hb⟩:=hrel;have R0:=Lib.hid hr0;clear hr0
  have R1:=Lib.hid hr1;clear hr1
  have HB:=Lib.hid hb;clear hb
  by_cases hlt:i<n
  ·
   have hlt':(i:Int)<(n:Int):=by omega
   obtain ⟨b,o,rfl,hbl,c0,c1,c2,c3⟩:=kept_cells (H.out.below HB.out) hlt;have hst:=lastR_step c z (i:=i) (by have:=Hlen.out;omega);generalize z.getD i default=x at *;have hsucc:=tsucc (n:=i) (by omega);have Hst:=Lib.hid hst;clear hst
   by_cases hx:x.client=c
   ·
    subst hx;obtain ⟨d0,d1,d2,d3⟩:=R1.out.cells;have z0:=R1.out.thawed 0;have z1:=R1.out.thawed 1;have z2:=R1.out.thawed 2;have z3:=R1.out.thawed 3;have RS:=Lib.hid (R1.out.set x);have R0S:=Lib.hid (show KeptRow (rowSt wr (w.heap.size+1) 0 (keptCells x)) w.heap.size (keptNone 0#8) from (rowSt_other (by omega) _ _ _).trans R0.out);have HBS:=Lib.hid (rowSt_below (g:=w.heap.size+1) (by omega) (keptCells x) 0 _ HB.out);go_wp2_with fail;clear d0 d1 d2 d3 z0 z1 z2 z3;go_roundw
    case rel=>exact ⟨i+1,hlt,rfl,R0S.out,by rw [Hst.out,if_pos rfl];exact RS.out,HBS.out⟩
    case measure=>simp [intOf];omega
   ·
    have hx':((x.client.toNat:Int) == (c.toNat:Int))=false:=by
     rw [beq_eq_false_iff_ne];intro e;exact hx (BitVec.eq_of_toNat_eq (by omega))
    have Hx:=Lib.hid hx;clear hx
    go_wp2_with fail;go_roundw
    case rel=>exact ⟨i+1,hlt,rfl,R0.out,by rw [Hst.out,if_neg Hx.out];exact R1.out,HB.out⟩
    case measure=>simp [intOf];omega
  ·
   have hlt' : ¬ (i:Int)<(n:Int):=by omega
   have hin:i=n:=by omega
   subst hin;have hz:z.take i=z:=by rw [← Hlen.out,List.take_length]
   rw [hz] at R1;clear hz;obtain ⟨x,hx⟩:∃ x,lastR c z=x:=⟨_,rfl⟩;rw [hx] at R1;have Hx:=Lib.hid hx;clear hx
   obtain ⟨c0,c1,c2,c3⟩:=R1.out.cells;obtain ⟨d0,d1,d2,d3⟩:=R0.out.cells;have z0:=R0.out.thawed 0;have z1:=R0.out.thawed 1;have z2:=R0.out.thawed 2;have z3:=R0.out.thawed 3;have RS:=Lib.hid (R0.out.set x);have HBS:=Lib.hid (rowSt_below (Nat.le_refl w.heap.size) (keptCells x) 0 _ HB.out);go_wp2_with fail;change bodyPost _ _ _ _ _ (rowSt wr w.heap.size 0 (keptCells x));clear c0 c1 c2 c3 d0 d1 d2 d3 z0 z1 z2 z3;generalize rowSt wr w.heap.size 0 (keptCells x)=w9 at *;obtain ⟨c0,c1,c2,c3⟩:=RS.out.cells;refine bodyPost_ret (v:=.agg (keptCells x).toArray) (by simp [results,Tryz.results121,go_sem,c0,c1,c2,c3,keptCells] <;> rfl) rfl ?_;exact ⟨by rw [Hx.out],HBS.out⟩
section
variable {α : Type} {enc : α → List Value} {k : Nat}
def flat (enc:α→List Value) (z:List α):List Value:=z.flatMap enc
theorem flat_len (hk:∀ x,(enc x).length=k):∀ z:List α,(flat enc z).length=z.length*k
 | []=>by simp [flat]
 | x::r=>by
  have h:=flat_len hk r;unfold flat at *
  rw [List.flatMap_cons,List.length_append,hk,h,List.length_cons,Nat.succ_mul];omega
theorem flat_app (z y:List α):flat enc (z++y)=flat enc z++flat enc y:=by simp [flat]
theorem flat_at (hk:∀ x,(enc x).length=k):∀ (z:List α) (i r:Nat) (x:α) (u:Value),z[i]?=some x→(enc x)[r]?=some u→(flat enc z)[i*k+r]?=some u
 | [],_,_,_,_,h,_=>by simp at h
 | y::l,0,r,x,u,h,hu=>by
  simp at h;subst h;have hr:r<(enc y).length:=(List.getElem?_eq_some_iff.1 hu).1;unfold flat;rw [List.flatMap_cons,Nat.zero_mul,Nat.zero_add,List.getElem?_append_left hr,hu]
 | y::l,i+1,r,x,u,h,hu=>by
  simp at h;have ih:=flat_at hk l i r x u h hu;unfold flat at *
  rw [List.flatMap_cons,List.getElem?_append_right (by rw [hk,Nat.succ_mul];omega),hk,Nat.succ_mul,show i*k+k+r - k=i*k+r by omega];exact ih
theorem flat_get (hk:∀ x,(enc x).length=k) (hk0:0<k) {z:List α} {j:Nat} {u:Value} (h:(flat enc z)[j]?=some u):∃ x,z[j / k]?=some x∧(enc x)[j % k]?=some u:=by
 have hj:j<z.length*k:=by
  have:=(List.getElem?_eq_some_iff.1 h).1;rwa [flat_len hk] at this
 have hi:j / k<z.length:=Nat.div_lt_of_lt_mul (by rw [Nat.mul_comm];exact hj);have hr:j % k<(enc z[j / k]).length:=by rw [hk];exact Nat.mod_lt _ hk0
 have e:=flat_at hk z (j / k) (j % k) z[j / k] _ (List.getElem?_eq_getElem hi) (List.getElem?_eq_getElem hr);rw [show j / k*k+j % k=j by rw [Nat.mul_comm];exact Nat.div_add_mod j k,h] at e;cases e
 exact ⟨_,List.getElem?_eq_getElem hi,List.getElem?_eq_getElem hr⟩
theorem flat_one (h1:∀ x,∀ u ∈ enc x,u.oneCell'=true) (z:List α):∀ u ∈ flat enc z,u.oneCell'=true:=by
 intro u hu;obtain ⟨x,_,hx⟩:=List.mem_flatMap.1 hu;exact h1 x u hx
theorem own_slice {w:World} {base:Nat} {e:TypeId} {A:Option Addr} {n c:Nat} {z:List α} (hk:∀ x,(enc x).length=k) (h:w.ownsRow base e k (.slice A n c) n (flat enc z)) (hz:z.length=n) (hm:n≤maxLen):SliceAt k enc w A n z:=by
 obtain ⟨h1,h2⟩:=h;refine ⟨hz,hm,fun i x hx=>?_⟩;have hi:i<z.length:=(List.getElem?_eq_some_iff.1 hx).1;rcases h2 with ⟨_,h3⟩ | ⟨g,cap,cur,e1,_,hg,_,_,_,ht⟩
 ·
  omega
 ·
  cases e1
  refine ⟨g,0,rfl,(Array.getElem?_eq_some_iff.1 hg).1,fun j v hj=>?_⟩;have e:=flat_at hk z i j x v hx hj;have hlt:i*k+j<n*k:=by
   have:=(List.getElem?_eq_some_iff.1 e).1;rwa [flat_len hk,hz] at this
  rw [← ht,List.getElem?_take,if_pos hlt,Array.getElem?_toList] at e;simp only [World.cell?,hg,Nat.zero_add];simpa using e
theorem own_nil {w:World} {base:Nat} {e:TypeId} {A:Option Addr} {n c:Nat} {xs:List Value} (h:w.ownsRow base e k (.slice A n c) n xs):A=none→n=0∧c=0:=by
 rintro rfl;rcases h.2 with ⟨e1,_⟩ | ⟨g,cap,cur,e1,_⟩
 ·
  cases e1;exact ⟨rfl,rfl⟩
 ·
  cases e1
theorem own_slice_of {w:World} {base:Nat} {e:TypeId} {v:Value} {n:Nat} {xs:List Value} (h:w.ownsRow base e k v n xs):∃ A c,v=.slice A n c:=by
 rcases h.2 with ⟨rfl,rfl⟩ | ⟨g,cap,cur,rfl,_⟩
 ·
  exact ⟨none,0,rfl⟩
 ·
  exact ⟨_,_,rfl⟩
theorem wp_append_slice {P:Program} {w:World} {o:Oper} {a:Act} {K:Act→World→Prop} {Q:Exit→Act→World→Prop} (s x:Operand) (t:TypeId)
  (ho:o.op=.call { callee:=.builtin .append,args:=#[s,x],argTypes:=#[t,t] })
  (base:Nat) (e:TypeId) (i:TypeInfo) (z0:Value) (bytes:Nat) (ht:P.underlying t=some (.slice e)) (hi:P.info? e=some i) (hz:i.zero=some z0)
  (hsize:i.size=k) (hby:i.bytes=bytes) (hzs:z0.cells.size=k) (hk0:0<k) (hk:∀ x,(enc x).length=k) (h1:∀ x,∀ u ∈ enc x,u.oneCell'=true)
  (v:Value) (n:Nat) (xs:List Value) (hs:a.eval s=v) (hown:w.ownsRow base e k v n xs) (A:Option Addr) (m c:Nat) (z:List α) (hx:a.eval x=.slice A m c) (hsrc:SliceAt k enc w A m z) (hnil:A=none→m=0∧c=0)
  (h63:n+m≤maxLen) (hbytes:(n+m)*bytes≤140737488355328) (hbase:base≤w.heap.size)
  (h:∀ v' w',w'.ownsRow base e k v' (n+m) (xs++flat enc z)→w.grownBy w' v.ownBlock→K (a.put o.dst v') w'):o.wp P a w K Q:=by
 cases A with
 | none =>
  obtain ⟨rfl,rfl⟩:=hnil rfl;have hz0:z=[]:=List.eq_nil_of_length_eq_zero hsrc.hlen;subst hz0;have hrun:=run_append_owned_none (P:=P) (w:=w) base t o.type e i k ht hi v n xs hown;have hh:=h v w (by simpa [flat] using hown) (World.grownBy.refl w _);unfold Oper.wp;simp [execOp,ho,resolve,invoke,builtin,hs,hx,hrun,Result.andThen];exact hh
 | some ad =>
  refine wp_append_own w s x t ho base e i z0 k bytes ht hi hz hsize hby hzs hk0 v n xs hs hown ad m c (flat enc z) hx (by rw [flat_len hk,hsrc.hlen]) (fun j u hj=>?_) (flat_one h1 z) h63 hbytes hbase (fun v' w' h3 h4 _=>h v' w' h3 h4);obtain ⟨y,hy,hu⟩:=flat_get hk hk0 hj;obtain ⟨b,o',e1,_,e3⟩:=hsrc.cells _ y hy;cases e1
  rw [Addr.add_lit, ← e3 _ u hu,show j / k*k+j % k=j by rw [Nat.mul_comm];exact Nat.div_add_mod j k]
end
def KeptV.last (k:KeptV):LastV:=⟨k.seq,k.code,k.text⟩
def KeptTab (t:TabV) (z:List KeptV):Prop:=∀ c:BitVec 8,c.toNat<4→(lastR c z).last=t.at_ c.toNat
theorem keptTab_nil:KeptTab tabNone []:=by
 intro c hc;unfold TabV.at_ tabNone;repeat' split
 all_goals rfl
theorem keptTab_put {t:TabV} {z:List KeptV} (h:KeptTab t z) (k:KeptV) (hk:k.client.toNat<4):KeptTab (t.put k.client.toNat k.last) (z++[k]):=by
 intro c hc;rw [TabV.put_at hk hc];unfold lastR;rw [List.foldl_append];show (if k.client=c then k else lastR c z).last=_;by_cases e:k.client=c
 ·
  rw [if_pos e,if_pos (by rw [e])]
 ·
  rw [if_neg e,if_neg (fun h=>e (BitVec.eq_of_toNat_eq h.symm))];exact h c hc
theorem layRep2 (w:World):RepAt (w.alloc (.cells (repCells 0 ByteArray.empty).toArray 27)) w.heap.size 0 ByteArray.empty:=heap_alloc_new _ _
set_option maxHeartbeats 4000000 in
theorem rlook_any (A:Option Addr) (n cap:Nat) (z:List KeptV) (t:TabV) (hT:KeptTab t z) (cl:BitVec 8) (hcl:cl.toNat<4) (sq:BitVec 32) (hsq:sq.toNat≠0) (w:World) (h:KeptsAt w A n z) :
  Calls Tryz.prog 83 #[.slice A n cap,.int .u8 (cl.toNat:Int),.int .u32 (sq.toNat:Int)] w fun e w'=>e=.returned (.tuple #[repV (lookT t cl.toNat sq).2.1 (lookT t cl.toNat sq).2.2,.int .u8 ((lookT t cl.toNat sq).1:Int)])∧Below w.heap.size w w':=by
 have hr0:=layRep2 w;have hb0:=(Below.refl w.heap.size w).alloc (Nat.le_refl _) (.cells (repCells 0 ByteArray.empty).toArray 27);have hl:=fun (y:World) (hy:Below w.heap.size w y)=>rlast_any A n cap z cl y (h.below hy)
 have hx:=hT cl hcl;obtain ⟨x,hxe⟩:∃ x,lastR cl z=x:=⟨_,rfl⟩;rw [hxe] at hl hx;obtain ⟨⟨q1,q2,q3⟩,hq⟩:∃ q,lookT t cl.toNat sq=q:=⟨_,rfl⟩;have hq0:=hq;rw [hq];unfold lookT at hq0;rw [← hx] at hq0;obtain ⟨xc,xs,xo,xt⟩:=x;change (if xs.toNat<sq.toNat then (1,0,ByteArray.empty) else if sq.toNat=xs.toNat then (2,xo,xt) else (3,3,ByteArray.empty))=(q1,q2,q3) at hq0;clear hx hxe hT hq;have Hq:=Lib.hid hq0;clear hq0
 rw [kept_eta] at hl;have Hl:=Lib.hid hl;clear hl h
 have hcl' : ¬ (3:Int)<(cl.toNat:Int):=by omega
 have hsq':((sq.toNat:Int) == 0)=false:=by rw [beq_eq_false_iff_ne];omega
 have Hsq:=Lib.hid hsq;clear hsq
 go_enter Tryz.func83,Tryz.ntmps83
 go_upto_region 1 with fail;change Code.wp _ _ _ _ (w.alloc (.cells (repCells 0 ByteArray.empty).toArray 27));generalize w.alloc (.cells (repCells 0 ByteArray.empty).toArray 27)=w1 at *;have Hr0:=Lib.hid hr0;clear hr0
 have Hb0:=Lib.hid hb0;clear hb0
 go_upto_region 4 with ((with_reducible refine (Hl.out _ Hb0.out).mono ?_);rintro e w2 ⟨rfl,hb2⟩;have Hb2:=Lib.hid hb2;clear hb2)
 change Code.wp _ _ _ _ (w2.alloc (.cells (keptCells ⟨xc,xs,xo,xt⟩).toArray 179));have hk3:KeptRow (w2.alloc (.cells (keptCells ⟨xc,xs,xo,xt⟩).toArray 179)) w2.heap.size ⟨xc,xs,xo,xt⟩:=heap_alloc_new _ _;have hb3:=Hb2.out.alloc Hb2.out.size (.cells (keptCells ⟨xc,xs,xo,xt⟩).toArray 179);have hr3:=Hr0.out.below hb3;have hbw:=Hb0.out.trans (hb3.mono Hb0.out.size);have hne:w2.heap.size≠w.heap.size:=by have:=Hr0.out.lt;have:=Hb2.out.size;omega
 generalize w2.alloc (.cells (keptCells ⟨xc,xs,xo,xt⟩).toArray 179)=w3 at *;generalize w2.heap.size=g at *;clear hb3 Hb2 Hr0 Hb0 Hl;obtain ⟨k0,k1,k2,k3⟩:=hk3.cells;dsimp only at k0 k1 k2 k3;obtain ⟨r0,r1⟩:=hr3.cells;have z0:=hr3.thawed 0;have z1:=hr3.thawed 1;have Hr3:=Lib.hid hr3;clear hr3
 have Hbw:=Lib.hid hbw;clear hbw
 clear hk3;by_cases h1:xs.toNat<sq.toNat
 ·
  have h1':(xs.toNat:Int)<(sq.toNat:Int):=by omega
  have hq0:=Hq.out;rw [if_pos h1] at hq0;have Hq1:=Lib.hid hq0;clear hq0
  have H1:=Lib.hid h1;clear h1
  have HR:=Lib.hid (repSt_at Hr3.out 0 ByteArray.empty);have HB:=Lib.hid (repSt_below Hbw.out (Nat.le_refl _) 0 ByteArray.empty);go_wp2_with fail;change bodyPost _ _ _ _ _ (repSt w3 w.heap.size 0 ByteArray.empty);clear r0 r1 z0 z1 k0 k1 k2 k3;generalize repSt w3 w.heap.size 0 ByteArray.empty=w4 at *;obtain ⟨r0,r1⟩:=HR.out.cells;refine bodyPost_ret (v:=.tuple #[.agg #[.int .u8 0,.string ByteArray.empty],.int .u8 1]) (by simp [results,Tryz.results83,go_sem,r0,r1] <;> rfl) rfl ?_;have e:=Hq1.out;simp only [Prod.mk.injEq] at e;obtain ⟨rfl,rfl,rfl⟩:=e;exact ⟨rfl,HB.out⟩
 ·
  have h1' : ¬ (xs.toNat:Int)<(sq.toNat:Int):=by omega
  have hq0:=Hq.out;rw [if_neg h1] at hq0;have H1:=Lib.hid h1;clear h1
  by_cases h2:sq.toNat=xs.toNat
  ·
   have h2':((sq.toNat:Int) == (xs.toNat:Int))=true:=by rw [beq_iff_eq];omega
   rw [if_pos h2] at hq0;have Hq1:=Lib.hid hq0;clear hq0
   have H2:=Lib.hid h2;clear h2
   have HR:=Lib.hid (repSt_at Hr3.out xo xt);have HB:=Lib.hid (repSt_below Hbw.out (Nat.le_refl _) xo xt);go_wp2_with fail;change bodyPost _ _ _ _ _ (repSt w3 w.heap.size xo xt);clear r0 r1 z0 z1 k0 k1 k2 k3;generalize repSt w3 w.heap.size xo xt=w4 at *;obtain ⟨r0,r1⟩:=HR.out.cells;refine bodyPost_ret (v:=.tuple #[.agg #[.int .u8 (xo:Int),.string xt],.int .u8 2]) (by simp [results,Tryz.results83,go_sem,r0,r1] <;> rfl) rfl ?_;have e:=Hq1.out;simp only [Prod.mk.injEq] at e;obtain ⟨rfl,rfl,rfl⟩:=e;exact ⟨rfl,HB.out⟩
  ·
   have h2':((sq.toNat:Int) == (xs.toNat:Int))=false:=by rw [beq_eq_false_iff_ne];omega
   rw [if_neg h2] at hq0;have Hq1:=Lib.hid hq0;clear hq0
   have H2:=Lib.hid h2;clear h2
   have HR:=Lib.hid (repSt_at Hr3.out 3 ByteArray.empty);have HB:=Lib.hid (repSt_below Hbw.out (Nat.le_refl _) 3 ByteArray.empty);go_wp2_with fail;change bodyPost _ _ _ _ _ (repSt w3 w.heap.size 3 ByteArray.empty);clear r0 r1 z0 z1 k0 k1 k2 k3;generalize repSt w3 w.heap.size 3 ByteArray.empty=w4 at *;obtain ⟨r0,r1⟩:=HR.out.cells;refine bodyPost_ret (v:=.tuple #[.agg #[.int .u8 3,.string ByteArray.empty],.int .u8 3]) (by simp [results,Tryz.results83,go_sem,r0,r1] <;> rfl) rfl ?_;have e:=Hq1.out;simp only [Prod.mk.injEq] at e;obtain ⟨rfl,rfl,rfl⟩:=e;exact ⟨rfl,HB.out⟩
theorem infoKept:(Tryz.prog.info? 179).map (fun i=>(i.zero,i.size,i.bytes))=some (some (.agg #[.int .u8 0,.int .u32 0,.int .u8 0,.string ByteArray.empty]),4,32):=by kernel_rfl
theorem kept_len (k:KeptV):(keptCells k).length=4:=rfl
theorem kept_one (k:KeptV):∀ u ∈ keptCells k,u.oneCell'=true:=by simp [keptCells,Value.oneCell']
theorem kept_new (w:World) (k:KeptV):KeptsAt (w.alloc (.cells (keptCells k).toArray 179)) (some ⟨w.heap.size,0,none⟩) 1 [k]:=by
 refine ⟨rfl,by unfold maxLen;omega,fun i x hx=>?_⟩;match i,hx with
 | 0,hx =>
  simp at hx;subst hx;refine ⟨w.heap.size,0,rfl,by simp,fun j v hj=>?_⟩;have h:=heap_alloc_new w (.cells (keptCells k).toArray 179);simp only [World.cell?,h,Nat.zero_mul,Nat.zero_add];simpa using hj
def STy (w:World) (t:TypeId) (A:Option Addr):Prop:=∀ b o,A=some ⟨b,o,none⟩→∃ cs,w.heap[b]?=some (.cells cs t (0,0))
theorem STy.stay {w w':World} {t:TypeId} {A:Option Addr} (h:STy w t A) (hb:∀ b o,A=some ⟨b,o,none⟩→w'.heap[b]?=w.heap[b]?):STy w' t A:=fun b o e=>by
 obtain ⟨cs,hc⟩:=h b o e;exact ⟨cs,(hb b o e).trans hc⟩
theorem STy.below {w w':World} {t:TypeId} {A:Option Addr} (h:STy w t A) (hb:Below w.heap.size w w'):STy w' t A:=fun b o e=>by
 obtain ⟨cs,h1⟩:=h b o e;exact ⟨cs,(hb.block b (Array.getElem?_eq_some_iff.1 h1).1).trans h1⟩
theorem sty_none (w:World) (t:TypeId):STy w t none:=fun b o e=>by cases e
theorem own_sty {w:World} {base:Nat} {t:TypeId} {size:Nat} {A:Option Addr} {n c:Nat} {xs:List Value} (h:w.ownsRow base t size (.slice A n c) n xs):STy w t A:=by
 rcases h.2 with ⟨e1,e2⟩ | ⟨g,cap,cur,e1,h2,h3,h4,h5,_,_⟩
 ·
  simp only [Value.slice.injEq] at e1;rw [e1.1];exact sty_none w t
 ·
  simp only [Value.slice.injEq] at e1;rw [e1.1];intro b o e;cases e
  exact ⟨_,h3⟩
set_option maxHeartbeats 4000000 in
theorem rkeep_any (A:Option Addr) (n cap:Nat) (z:List KeptV) (t:TabV) (hT:KeptTab t z) (hnil:A=none→n=0∧cap=0) (hn:n≤1000000) (k:KeptV) (hcl:k.client.toNat<4) (hsq:k.seq.toNat≠0) (hf:(lookT t k.client.toNat k.seq).1=1) (w:World) (h:KeptsAt w A n z) :
  Calls Tryz.prog 86 #[.slice A n cap,.agg (keptCells k).toArray] w fun e w'=>∃ A' c',e=.returned (.slice A' (n+1) c')∧KeptsAt w' A' (n+1) (z++[k])∧(A'≠none∧STy w' 179 A')∧Below w.heap.size w w':=by
 obtain ⟨i0,hi0,hz0,hs0,hb0⟩:=info_parts infoKept;have hk0:KeptRow (w.alloc (.cells (keptCells k).toArray 179)) w.heap.size k:=heap_alloc_new _ _;have hb1:=(Below.refl w.heap.size w).alloc (Nat.le_refl _) (.cells (keptCells k).toArray 179);have hl:=fun (y:World) (hy:Below w.heap.size w y)=>rlook_any A n cap z t hT k.client hcl k.seq hsq y (h.below hy)
 rw [hf] at hl;obtain ⟨q2,hq2⟩:∃ q,(lookT t k.client.toNat k.seq).2.1=q:=⟨_,rfl⟩;obtain ⟨q3,hq3⟩:∃ q,(lookT t k.client.toNat k.seq).2.2=q:=⟨_,rfl⟩;rw [hq2,hq3] at hl;unfold repV repCells at hl;have Hl:=Lib.hid hl;clear hl hq2 hq3
 have Hnil:=Lib.hid hnil;clear hnil
 have H:=Lib.hid h;clear h
 clear hf hT hsq;rw [kept_eta];go_enter Tryz.func86,Tryz.ntmps86
 go_upto_region 1 with fail;change Code.wp _ _ _ _ (w.alloc (.cells (keptCells k).toArray 179));generalize w.alloc (.cells (keptCells k).toArray 179)=w1 at *;have Hk0:=Lib.hid hk0;have Hb1:=Lib.hid hb1;clear hb1
 obtain ⟨k0,k1,k2,k3⟩:=hk0.cells;clear hk0;go_upto_region 4 with ((with_reducible refine (Hl.out _ Hb1.out).mono ?_);rintro e w2 ⟨rfl,hb2⟩;have Hb2:=Lib.hid hb2;clear hb2)
 clear k0 k1 k2 k3 Hl;have hb3:=Hb2.out.alloc Hb2.out.size (.cells (repCells q2 q3).toArray 27);change Code.wp _ _ _ _ (w2.alloc (.cells (repCells q2 q3).toArray 27));generalize w2.alloc (.cells (repCells q2 q3).toArray 27)=w3 at *;have Hk3:=Lib.hid (Hk0.out.below hb3);have Hbw:=Lib.hid (Hb1.out.trans (hb3.mono Hb1.out.size));clear hb3 Hb2 Hb1 Hk0;have Hlw:=Lib.hid (show w.heap.size<w3.heap.size from Hk3.out.lt);refine (wpIn_wide (n:=1)).1 ?_;refine RegJ.wpIn_region_plan (F:=Fence.wide) (KeptW w3) (.step 0 0 (.step 2 0 (.fork 1 (.step 3 1 (.step 4 1 (.step 5 0 .nil))) 3 (.step 1 1 (.step 4 1 (.step 5 0 .nil)))))) (by kernel_rfl) (by kernel_rfl) (by kernel_rfl) (fun _ _ d _ _ h=>by cases d <;> exact h) ⟨rfl,rfl,rfl,Nat.le_refl _,fun _ _=>rfl⟩ ?_;dsimp only [RegJ.pickJ,List.getElem?_cons_zero,List.getElem?_cons_succ];change RegJ.Can _ _ _ _ _ _ _ _ w3.drew;have hkd:KeptW w3 w3.drew:=⟨rfl,rfl,rfl,Nat.le_refl _,fun _ _=>rfl⟩;generalize w3.drew=w4 at *;refine RegJ.reads ?_;intro K hK;go_simp;refine ⟨_,fun _ _=>rfl,hK _ ?_⟩;clear hK K;refine RegJ.reads ?_;intro K hK;go_simp;refine ⟨.agg #[.int .u8 (k.client.toNat:Int),.int .u32 (k.seq.toNat:Int),.int .u8 (k.code:Int),.string k.text],fun y hy=>?_,hK _ ?_⟩
 ·
  obtain ⟨f0,f1,f2,f3⟩:=(Hk3.out.below (KeptW.bel hy)).cells;go_simp
 clear hK K;refine RegJ.forks ?_ ?_
 ·
  skip
  refine RegJ.turns (fun _=>trivial) ?_;intro K K0 hK hK0;rw [if_pos (by simp [Region.wanted])];refine RegK.op_wide rfl ?_;refine wp_append_slice (enc:=keptCells) _ _ 41 rfl w3.heap.size 179 i0 _ 32 Tryz.underlying41 hi0 hz0 hs0 hb0 rfl (by omega) kept_len kept_one (.slice none 0 0) 0 [] rfl (World.ownsRow_nil _ _ _ _) A n cap z rfl (H.out.below (Hbw.out.trans ((KeptW.bel hkd).mono Hbw.out.size))) Hnil.out (by unfold maxLen;omega) (by omega) (KeptW.bel hkd).size ?_;intro v5 w5 ho5 hg5;have hb5:Below w4.heap.size w4 w5:=⟨hg5.os,hg5.tape,hg5.output,hg5.size,fun q hq=>hg5.block q hq (fun e=>by cases e)⟩;have hk5:KeptW w3 w5:=KeptW.mono hkd hb5;refine hK _ _ _ (fun _ h=>h) hk5 ?_;clear hK K hK0 K0 hg5;rw [Nat.zero_add,List.nil_append] at ho5;refine RegJ.turns (fun _=>trivial) ?_;intro K K0 hK hK0;go_simp;have hb6:=(Below.refl w5.heap.size w5).alloc (Nat.le_refl _) (.cells (keptCells k).toArray 179);have qk:KeptW w3 (w5.alloc (.cells (keptCells k).toArray 179)):=KeptW.mono hk5 hb6;have qn:=kept_new w5 k;have ho6:(w5.alloc (.cells (keptCells k).toArray 179)).ownsRow w3.heap.size 179 4 v5 n (flat keptCells z):=ho5.alloc _;refine hK _ _ (w5.alloc (.cells (keptCells k).toArray 179)) (fun _ h=>h) qk ?_;have hk6:=qk;have hn6:=qn;clear hK K hK0 K0 hb6 ho5 hk5 qk qn;generalize w5.alloc (.cells (keptCells k).toArray 179)=w6 at *;generalize w5.heap.size=g5 at *;refine RegJ.turns (fun _=>trivial) ?_;intro K K0 hK hK0;rw [if_pos (by simp [Region.wanted])];refine RegK.op_wide rfl ?_;refine wp_append_slice (enc:=keptCells) _ _ 41 rfl w3.heap.size 179 i0 _ 32 Tryz.underlying41 hi0 hz0 hs0 hb0 rfl (by omega) kept_len kept_one v5 n (flat keptCells z) rfl ho6 (some ⟨g5,0,none⟩) 1 1 [k] rfl hn6 (fun e=>by cases e) (by unfold maxLen;omega) (by omega) (KeptW.bel hk6).size ?_;intro v7 w7 ho7 hg7;have hv5:∀ q,v5.ownBlock=some q→w3.heap.size≤q:=fun q hq=>(World.ownsRow.lt ho6 q hq).1
  have hk7:KeptW w3 w7:=(KeptW.bel hk6).trans ⟨hg7.os,hg7.tape,hg7.output,hg7.size,fun q hq=>hg7.block q (Nat.lt_of_lt_of_le hq (KeptW.bel hk6).size) (fun e=>by have:=hv5 q e.symm;omega)⟩;refine hK _ _ _ (fun _ h=>h) hk7 ?_;clear hK K hK0 K0;obtain ⟨A',c',rfl⟩:=own_slice_of ho7;have hne:A'≠none∧STy w7 179 A':=⟨fun e=>by have:=(own_nil ho7 e).1;omega,own_sty ho7⟩;rw [← flat_app] at ho7;have hs7:KeptsAt w7 A' (n+1) (z++[k]):=own_slice kept_len ho7 (by rw [List.length_append,H.out.hlen];rfl) (by unfold maxLen;omega);have hbel:=Hbw.out.trans ((KeptW.bel hk7).mono Hbw.out.size);have HF:=Lib.hid (And.intro hs7 (And.intro hne hbel));clear hs7 hne hbel ho7 hg7 hv5 hk7 hk6 hn6 ho6;refine RegJ.reads ?_;intro K hK;go_simp;refine ⟨_,fun _ _=>rfl,hK _ ?_⟩;clear hK K;refine RegJ.nil ?_;go_wp2_with fail;go_ret;exact ⟨A',c',rfl,HF.out.1,HF.out.2.1,HF.out.2.2⟩
 ·
  skip
  refine RegJ.turns (fun _=>trivial) ?_;intro K K0 hK hK0;go_simp;have hb6:=(Below.refl w4.heap.size w4).alloc (Nat.le_refl _) (.cells (keptCells k).toArray 179);have qk:KeptW w3 (w4.alloc (.cells (keptCells k).toArray 179)):=KeptW.mono hkd hb6;have qn:=kept_new w4 k;refine hK _ _ (w4.alloc (.cells (keptCells k).toArray 179)) (fun _ h=>h) qk ?_;clear hK K hK0 K0 hb6;generalize w4.alloc (.cells (keptCells k).toArray 179)=wq at *;generalize w4.heap.size=g5 at *;refine RegJ.turns (fun _=>trivial) ?_;intro K K0 hK hK0;rw [if_pos (by simp [Region.wanted])];refine RegK.op_wide rfl ?_;refine wp_append_slice (enc:=keptCells) _ _ 41 rfl w3.heap.size 179 i0 _ 32 Tryz.underlying41 hi0 hz0 hs0 hb0 rfl (by omega) kept_len kept_one (.slice none 0 0) 0 [] rfl (World.ownsRow_nil _ _ _ _) A n cap z rfl (H.out.below (Hbw.out.trans ((KeptW.bel qk).mono Hbw.out.size))) Hnil.out (by unfold maxLen;omega) (by omega) (KeptW.bel qk).size ?_;intro v5 w5 ho5 hg5;have hb5:Below wq.heap.size wq w5:=⟨hg5.os,hg5.tape,hg5.output,hg5.size,fun q hq=>hg5.block q hq (fun e=>by cases e)⟩;have hk5:KeptW w3 w5:=KeptW.mono qk hb5;refine hK _ _ _ (fun _ h=>h) hk5 ?_;clear hK K hK0 K0 hg5;rw [Nat.zero_add,List.nil_append] at ho5;have ho6:=ho5;have hk6:=hk5;have hn6:=qn.below hb5;clear ho5 hk5 hb5 qn qk;refine RegJ.turns (fun _=>trivial) ?_;intro K K0 hK hK0;rw [if_pos (by simp [Region.wanted])];refine RegK.op_wide rfl ?_;refine wp_append_slice (enc:=keptCells) _ _ 41 rfl w3.heap.size 179 i0 _ 32 Tryz.underlying41 hi0 hz0 hs0 hb0 rfl (by omega) kept_len kept_one v5 n (flat keptCells z) rfl ho6 (some ⟨g5,0,none⟩) 1 1 [k] rfl hn6 (fun e=>by cases e) (by unfold maxLen;omega) (by omega) (KeptW.bel hk6).size ?_;intro v7 w7 ho7 hg7;have hv5:∀ q,v5.ownBlock=some q→w3.heap.size≤q:=fun q hq=>(World.ownsRow.lt ho6 q hq).1
  have hk7:KeptW w3 w7:=(KeptW.bel hk6).trans ⟨hg7.os,hg7.tape,hg7.output,hg7.size,fun q hq=>hg7.block q (Nat.lt_of_lt_of_le hq (KeptW.bel hk6).size) (fun e=>by have:=hv5 q e.symm;omega)⟩;refine hK _ _ _ (fun _ h=>h) hk7 ?_;clear hK K hK0 K0;obtain ⟨A',c',rfl⟩:=own_slice_of ho7;have hne:A'≠none∧STy w7 179 A':=⟨fun e=>by have:=(own_nil ho7 e).1;omega,own_sty ho7⟩;rw [← flat_app] at ho7;have hs7:KeptsAt w7 A' (n+1) (z++[k]):=own_slice kept_len ho7 (by rw [List.length_append,H.out.hlen];rfl) (by unfold maxLen;omega);have hbel:=Hbw.out.trans ((KeptW.bel hk7).mono Hbw.out.size);have HF:=Lib.hid (And.intro hs7 (And.intro hne hbel));clear hs7 hne hbel ho7 hg7 hv5 hk7 hk6 hn6 ho6;refine RegJ.reads ?_;intro K hK;go_simp;refine ⟨_,fun _ _=>rfl,hK _ ?_⟩;clear hK K;refine RegJ.nil ?_;go_wp2_with fail;go_ret;exact ⟨A',c',rfl,HF.out.1,HF.out.2.1,HF.out.2.2⟩
theorem str_app2 (l k:List UInt8):(⟨l.toArray⟩:ByteArray)++⟨k.toArray⟩=⟨(l++k).toArray⟩:=str_app l ⟨k.toArray⟩
set_option maxHeartbeats 8000000 in
theorem rtab_any (A:Option Addr) (n cap:Nat) (z:List KeptV) (t:TabV) (hT:KeptTab t z) (ht:TabOk t) (w:World) (h:KeptsAt w A n z) :
  Calls Tryz.prog 120 #[.slice A n cap] w fun e w'=>e=.returned (.string ⟨(tabB t 4).toArray⟩)∧Below w.heap.size w w':=by
 have H:=Lib.hid h;clear h
 go_enter Tryz.func120,Tryz.ntmps120
 go_wp2_with fail;go_loopw [3,4] (fun s3 s4 wr=>∃ i:Nat,i≤4∧s4=.int .i64 (i:Int)∧s3=.string ⟨(tabB t i).toArray⟩∧Below w.heap.size w wr) (fun _ s4 _=>4 - (intOf s4).toNat)
 case atStart=>exact ⟨0,by omega,rfl,rfl,Below.refl _ _⟩
 case round =>
  obtain ⟨i,hi,rfl,rfl,hb⟩:=hrel;have Hb:=Lib.hid hb;clear hb
  by_cases h4:i<4
  ·
   have h4':(i:Int)<4:=by omega
   have hsucc:=tsucc (n:=i) (by omega);have hlen:=tabB_len ht i;have hS:(⟨(tabB t i).toArray⟩:ByteArray).size≤17000:=by rw [bs_size];omega
   have hc8:(BitVec.ofNat 8 i).toNat=i:=by simp;omega
   have hlast:=rlast_any A n cap z (BitVec.ofNat 8 i) wr (H.out.below Hb.out);have hx:=hT (BitVec.ofNat 8 i) (by omega);rw [hc8] at hlast hx;have hok:=ht.at_ i;have hstep:tabB t (i+1)=tabB t i++lastB (t.at_ i):=rfl;rw [← hx] at hok hstep;obtain ⟨⟨xc,xs,xo,xt⟩,hxe⟩:∃ x,lastR (BitVec.ofNat 8 i) z=x:=⟨_,rfl⟩;rw [hxe] at hlast hok hstep;change LastOk ⟨xs,xo,xt⟩ at hok;change tabB t (i+1)=tabB t i++lastB ⟨xs,xo,xt⟩ at hstep;clear hx hxe hlen hc8;rw [kept_eta] at hlast;have Hl:=Lib.hid hlast;clear hlast
   have hcode:xo<256:=hok.code;have htext:xt.size≤4096:=hok.text;clear hok;generalize hn:xs.toNat=m at Hl;have hm:m<4294967296:=by rw [← hn];exact xs.isLt
   have hm':(m:Int)<4294967296:=by omega
   have Hn:=Lib.hid hn;clear hn
   have hmod:(i:Int) % 256=(i:Int):=by omega
   have Hst:=Lib.hid hstep;clear hstep
   have Hnum:=Lib.hid (fun y:World=>rnum_any m (by omega) y);have hX:(⟨(numL m).toArray⟩:ByteArray).size≤9:=by rw [bs_size];exact (numL_len m).1
   obtain ⟨S,hSe⟩:∃ S:ByteArray,(⟨(tabB t i).toArray⟩:ByteArray)=S:=⟨_,rfl⟩;obtain ⟨X,hXe⟩:∃ S:ByteArray,(⟨(numL m).toArray⟩:ByteArray)=S:=⟨_,rfl⟩;rw [hSe] at hS ⊢;rw [hXe] at Hnum hX;have HS:=Lib.hid (And.intro hSe hXe);clear hSe hXe
   go_upto_region 6 with ((with_reducible refine Hl.out.mono ?_);rintro e w2 ⟨rfl,hb2⟩;have Hb2:=Lib.hid hb2;clear hb2)
   change Code.wp _ _ _ _ (w2.alloc (.cells #[.int .u8 (xc.toNat:Int),.int .u32 (m:Int),.int .u8 (xo:Int),.string xt] 179));have hk3:=heap_alloc_new w2 (.cells #[.int .u8 (xc.toNat:Int),.int .u32 (m:Int),.int .u8 (xo:Int),.string xt] 179);have hb3:=Hb2.out.alloc Hb2.out.size (.cells #[.int .u8 (xc.toNat:Int),.int .u32 (m:Int),.int .u8 (xo:Int),.string xt] 179);have hbw:=Hb.out.trans (hb3.mono Hb.out.size);have hlt3:w2.heap.size<(w2.alloc (.cells #[.int .u8 (xc.toNat:Int),.int .u32 (m:Int),.int .u8 (xo:Int),.string xt] 179)).heap.size:=by simp
   generalize w2.alloc (.cells #[.int .u8 (xc.toNat:Int),.int .u32 (m:Int),.int .u8 (xo:Int),.string xt] 179)=w3 at *
   generalize w2.heap.size=g at *;clear hb3 Hb2 Hb Hl;have k1:w3.cell? ⟨g,1,none⟩=some (.int .u32 (m:Int)):=cell_of_row _ _ _ _ _ _ hk3;have Hk3:=Lib.hid hk3;clear hk3
   have Hbw:=Lib.hid hbw;clear hbw
   have Hlt3:=Lib.hid hlt3;clear hlt3
   go_upto_region 7 with ((with_reducible refine (Hnum.out _).mono ?_);rintro e w4 ⟨rfl,hb4⟩;have Hb4:=Lib.hid hb4;clear hb4)
   clear k1 Hnum;have hk4:=(Hb4.out.block g Hlt3.out).trans Hk3.out;have k1:w4.cell? ⟨g,1,none⟩=some (.int .u32 (m:Int)):=cell_of_row _ _ _ _ _ _ hk4;have Hk4:=Lib.hid hk4;clear hk4
   have Hbw4:=Lib.hid (Hbw.out.trans (Hb4.out.mono Hbw.out.size));have Hg4:=Lib.hid (show g<w4.heap.size from Nat.lt_of_lt_of_le Hlt3.out Hb4.out.size);clear Hbw Hb4 Hk3 Hlt3;have hSX:(S++X).size≤17009:=by rw [ByteArray.size_append];omega
   obtain ⟨Y,hY⟩:∃ Y,S++X=Y:=⟨_,rfl⟩;rw [hY] at hSX ⊢;have HY:=Lib.hid hY;clear hY
   have Hm:=Lib.hid hm;clear hm hm'
   by_cases hz:m=0
   ·
    have hz' : ¬ (0:Int)<(m:Int):=by omega
    have Hz:=Lib.hid hz;clear hz
    go_wp2_with fail;go_roundw
    case rel =>
     refine ⟨i+1,h4,rfl,?_,Hbw4.out⟩;rw [Hst.out,show lastB ⟨xs,xo,xt⟩=numL m by unfold lastB;simp only [Hn.out];rw [if_pos Hz.out,List.append_nil], ← str_app2,HS.out.1,HS.out.2,HY.out]
    case measure=>simp [intOf];omega
   ·
    have hz':(0:Int)<(m:Int):=by omega
    have Hz:=Lib.hid hz;clear hz
    go_upto_region 8 with fail;clear k1;refine (wpIn_wide (n:=1)).1 ?_;refine RegJ.wpIn_region_plan (F:=Fence.wide) (KeptW w4) (.step 0 0 (.step 1 0 (.step 2 0 (.step 3 0 (.step 7 0 (.step 8 0 (.step 9 0 (.fork 4 (.step 5 0 (.step 6 0 (.step 10 1 (.step 11 0 (.step 12 0 .nil))))) 10 (.step 4 1 (.step 5 0 (.step 6 0 (.step 11 0 (.step 12 0 .nil)))))))))))) ) (by kernel_rfl) (by kernel_rfl) (by kernel_rfl) (fun _ _ d _ _ h=>by cases d <;> exact h) ⟨rfl,rfl,rfl,Nat.le_refl _,fun _ _=>rfl⟩ ?_;dsimp only [RegJ.pickJ,List.getElem?_cons_zero,List.getElem?_cons_succ];change RegJ.Can _ _ _ _ _ _ _ _ w4.drew;have hkd:KeptW w4 w4.drew:=⟨rfl,rfl,rfl,Nat.le_refl _,fun _ _=>rfl⟩;generalize w4.drew=w5 at *;iterate 3 (refine RegJ.reads ?_;intro K hK;go_simp;(first | (refine ⟨_,fun _ _=>rfl,hK _ ?_⟩) | (refine hK _ ?_));clear hK K)
    refine RegJ.reads ?_;intro K hK;go_simp;refine ⟨.int .u8 (xo:Int),fun y hy=>?_,hK _ ?_⟩
    ·
     have f0:y.cell? ⟨g,2,none⟩=some (.int .u8 (xo:Int)):=cell_of_row _ _ _ _ _ _ (((KeptW.bel hy).block g Hg4.out).trans Hk4.out);go_simp
    clear hK K;iterate 2 (refine RegJ.reads ?_;intro K hK;go_simp;(first | (refine ⟨_,fun _ _=>rfl,hK _ ?_⟩) | (refine hK _ ?_));clear hK K)
    refine RegJ.reads ?_;intro K hK;go_simp;refine ⟨.string xt,fun y hy=>?_,hK _ ?_⟩
    ·
     have f0:y.cell? ⟨g,3,none⟩=some (.string xt):=cell_of_row _ _ _ _ _ _ (((KeptW.bel hy).block g Hg4.out).trans Hk4.out);go_simp
    clear hK K;have hc8:((UInt8.ofNat xo).toNat:Int)=(xo:Int):=by simp;omega
    have Hone:=Lib.hid (fun y:World=>(show ReadB (y.alloc (.cells #[.int .u8 (xo:Int)] 5)) (.slice (some ⟨y.heap.size,0,none⟩) 1 1) [UInt8.ofNat xo] by have h:=ReadB.one y (UInt8.ofNat xo) 5;rwa [hc8] at h));clear hc8;have Hstr:=Lib.hid (fun y:World=>rstr_any xt (by omega) y);have hT1:(⟨(strL xt).toArray⟩:ByteArray).size≤4200:=by rw [bs_size];have:=strL_len xt;omega
    have hC1:(⟨[UInt8.ofNat xo].toArray⟩:ByteArray).size=1:=rfl;obtain ⟨T1,hTe⟩:∃ S:ByteArray,(⟨(strL xt).toArray⟩:ByteArray)=S:=⟨_,rfl⟩;obtain ⟨C1,hCe⟩:∃ S:ByteArray,(⟨[UInt8.ofNat xo].toArray⟩:ByteArray)=S:=⟨_,rfl⟩;rw [hTe] at Hstr hT1;rw [hCe] at hC1;have HTC:=Lib.hid (And.intro hTe hCe);clear hTe hCe
    have hYC:(Y++C1).size≤17010:=by rw [ByteArray.size_append];omega
    have Hend:=Lib.hid (show (⟨(tabB t (i+1)).toArray⟩:ByteArray)=Y++C1++T1 by
     rw [Hst.out,show lastB ⟨xs,xo,xt⟩=numL m++([UInt8.ofNat xo]++strL xt) by unfold lastB;simp only [Hn.out];rw [if_neg Hz.out];rfl, ← List.append_assoc, ← List.append_assoc, ← str_app2, ← str_app2, ← str_app2,HS.out.1,HS.out.2,HY.out,HTC.out.1,HTC.out.2])
    refine RegJ.forks ?_ ?_
    ·
     skip
     refine RegJ.turns (fun _=>trivial) ?_;intro K K0 hK hK0;go_simp;have hbq:=(Below.refl w5.heap.size w5).alloc (Nat.le_refl _) (.cells #[.int .u8 (xo:Int)] 5);have hkq:KeptW w4 (w5.alloc (.cells #[.int .u8 (xo:Int)] 5)):=KeptW.mono hkd hbq;have hone:=Hone.out w5;refine hK (KeptW (w5.alloc (.cells #[.int .u8 (xo:Int)] 5))) _ (w5.alloc (.cells #[.int .u8 (xo:Int)] 5)) (fun y hy=>KeptW.mono hkq (KeptW.bel hy)) (Below.refl _ _) ?_;clear hK K hK0 K0 hbq;generalize w5.alloc (.cells #[.int .u8 (xo:Int)] 5)=wq at *
     generalize w5.heap.size=gq at *;refine RegJ.reads ?_;intro K hK;go_simp;refine ⟨.string C1,fun y hy=>?_,hK _ ?_⟩
     ·
      have hcv:=(hone.below (KeptW.bel hy)).conv Tryz.underlying44 Tryz.underlying5 Tryz.underlying9;rw [HTC.out.2] at hcv;rw [hcv];rfl
     clear hK K;refine RegJ.reads ?_;intro K hK;go_simp;refine ⟨.string (Y++C1),fun _ _=>?_,hK _ ?_⟩
     ·
      first | rfl | (rw [if_neg (by omega)])
     clear hK K;clear hone;refine RegJ.turns (fun _=>trivial) ?_;intro K K0 hK hK0;go_simp;refine ⟨trivial,?_⟩;refine (callsIn_wide.2 (Hstr.out wq)).mono ?_;rintro e w7 ⟨rfl,hb7⟩;have hk7:KeptW w4 w7:=KeptW.mono hkq hb7;refine hK _ _ _ (fun _ h=>h) (show KeptW wq w7 from hb7) ?_;clear hK K hK0 K0;have Hbe:=Lib.hid (Hbw4.out.trans ((KeptW.bel hk7).mono Hbw4.out.size));refine RegJ.reads ?_;intro K hK;go_simp;refine ⟨.string (Y++C1++T1),fun _ _=>?_,hK _ ?_⟩
     ·
      first | rfl | (rw [if_neg (by omega)]) | (rw [if_neg (by rw [ByteArray.size_append] at hYC;omega)])
     clear hK K;refine RegJ.reads ?_;intro K hK;go_simp;refine ⟨_,fun _ _=>rfl,hK _ ?_⟩;clear hK K;refine RegJ.nil ?_;go_wp2_with fail;go_roundw
     case rel=>exact ⟨i+1,h4,rfl,by rw [Hend.out],Hbe.out⟩
     case measure=>simp [intOf];omega
    ·
     skip
     refine RegJ.turns (fun _=>trivial) ?_;intro K K0 hK hK0;go_simp;refine ⟨trivial,?_⟩;refine (callsIn_wide.2 (Hstr.out w5)).mono ?_;rintro e w7 ⟨rfl,hb7⟩;have hk7:KeptW w4 w7:=KeptW.mono hkd hb7;refine hK _ _ _ (fun _ h=>h) hk7 ?_;clear hK K hK0 K0;refine RegJ.turns (fun _=>trivial) ?_;intro K K0 hK hK0;go_simp;have hbq:=(Below.refl w7.heap.size w7).alloc (Nat.le_refl _) (.cells #[.int .u8 (xo:Int)] 5);have hkq:KeptW w4 (w7.alloc (.cells #[.int .u8 (xo:Int)] 5)):=KeptW.mono hk7 hbq;have hone:=Hone.out w7;refine hK (KeptW (w7.alloc (.cells #[.int .u8 (xo:Int)] 5))) _ (w7.alloc (.cells #[.int .u8 (xo:Int)] 5)) (fun y hy=>KeptW.mono hkq (KeptW.bel hy)) (Below.refl _ _) ?_;clear hK K hK0 K0 hbq;generalize w7.alloc (.cells #[.int .u8 (xo:Int)] 5)=wq at *
     generalize w7.heap.size=gq at *;refine RegJ.reads ?_;intro K hK;go_simp;refine ⟨.string C1,fun y hy=>?_,hK _ ?_⟩
     ·
      have hcv:=(hone.below (KeptW.bel hy)).conv Tryz.underlying44 Tryz.underlying5 Tryz.underlying9;rw [HTC.out.2] at hcv;rw [hcv];rfl
     clear hK K;refine RegJ.reads ?_;intro K hK;go_simp;refine ⟨.string (Y++C1),fun _ _=>?_,hK _ ?_⟩
     ·
      first | rfl | (rw [if_neg (by omega)])
     clear hK K;clear hone;have Hbe:=Lib.hid (Hbw4.out.trans ((KeptW.bel hkq).mono Hbw4.out.size));refine RegJ.reads ?_;intro K hK;go_simp;refine ⟨.string (Y++C1++T1),fun _ _=>?_,hK _ ?_⟩
     ·
      first | rfl | (rw [if_neg (by omega)]) | (rw [if_neg (by rw [ByteArray.size_append] at hYC;omega)])
     clear hK K;refine RegJ.reads ?_;intro K hK;go_simp;refine ⟨_,fun _ _=>rfl,hK _ ?_⟩;clear hK K;refine RegJ.nil ?_;go_wp2_with fail;go_roundw
     case rel=>exact ⟨i+1,h4,rfl,by rw [Hend.out],Hbe.out⟩
     case measure=>simp [intOf];omega
  ·
   have h4' : ¬ (i:Int)<4:=by omega
   have hi4:i=4:=by omega
   subst hi4;go_wp2_with fail;go_ret;exact ⟨rfl,Hb.out⟩
end Go.Proofs.YtbckjgageofldaaGreat
