/- The document's machine: ref13.Do. Condition: few pairs, few kept. -/
import Derived.Deep.DeepCutAuto
import Derived.Test.YtbckjgageofldaaGreatZLearnPlays17
import Derived.Test.YtbckjgageofldaaGreatZLearnPlays13
import Derived.Test.YtbckjgageofldaaGreatZLearnPlays8
import Derived.Test.YtbckjgageofldaaGreatZLearnPlays3
import Derived.Test.YtbckjgageofldaaGreatZLearnPlays12
import Derived.Test.YtbckjgageofldaaGreatZLearnPlays11
import Derived.Test.YtbckjgageofldaaGreatZLearnPlays2
import Derived.Test.YtbckjgageofldaaGreatZLearnPlays9
import Derived.Test.YtbckjgageofldaaGreatZLearnPlays14
import Derived.Test.YtbckjgageofldaaGreatZLearnPlays15
import Derived.Deep.MidRow
import Derived.Test.YtbckjgageofldaaGreatZLearnPlays7
import Derived.Test.YtbckjgageofldaaGreatZLearnPlays16
set_option maxRecDepth 100000
set_option maxHeartbeats 16000000
namespace Go.Proofs.YtbckjgageofldaaGreat
open Go.RowKit
def refNone:RefM:=⟨none,0,0,0,0,none,0,0⟩
theorem RefRow.set {w:World} {g:Nat} {r:RefM} (h:RefRow w g r) (x:RefM):RefRow (rowSt w g 0 (refCells x)) g x:=rowSt_row (refCells x) [] (refCells r) w h rfl
theorem may_seq {c:CmdV} (h:mayC c=true):c.seq.toNat≠0:=by
 unfold mayC at h;simp only [Bool.and_eq_true,decide_eq_true_eq] at h;have:=h.1.1.1.1.1.2;omega
structure RDoI (w0:World) (r:RefM) (c:CmdV) (w:World):Prop where
 r:RefRow w w0.heap.size r
 c:CmdAt w (w0.heap.size+1) c
 z:RefRow w (w0.heap.size+2) refNone
 p:RepAt w (w0.heap.size+3) 0 ByteArray.empty
 bel:Below w0.heap.size w0 w
theorem RDoI.below {w0 w w':World} {r:RefM} {c:CmdV} (h:RDoI w0 r c w) (hb:Below w.heap.size w w'):RDoI w0 r c w':=⟨h.r.below hb,h.c.below hb,h.z.below hb,h.p.below hb,h.bel.trans (hb.mono h.bel.size)⟩
def rdoW (w:World) (r:RefM) (c:CmdV):World :=
 (((w.alloc (.cells (refCells r).toArray 43)).alloc (.cells (cmdCells c).toArray 56)).alloc (.cells (refCells refNone).toArray 43)).alloc (.cells (repCells 0 ByteArray.empty).toArray 27)
theorem rdo_start (w:World) (r:RefM) (c:CmdV):RDoI w r c (rdoW w r c):=by
 unfold rdoW;obtain ⟨w1,e1⟩:∃ x,w.alloc (.cells (refCells r).toArray 43)=x:=⟨_,rfl⟩;have s1:w1.heap.size=w.heap.size+1:=by rw [← e1];simp
 have r1:RefRow w1 w.heap.size r:=by rw [← e1];exact heap_alloc_new _ _
 have b1:Below w.heap.size w w1:=by rw [← e1];exact (Below.refl _ _).alloc (Nat.le_refl _) _
 rw [e1];obtain ⟨w2,e2⟩:∃ x,w1.alloc (.cells (cmdCells c).toArray 56)=x:=⟨_,rfl⟩;have s2:w2.heap.size=w.heap.size+2:=by rw [← e2];simp [s1]
 have c2:CmdAt w2 (w.heap.size+1) c:=by rw [← e2, ← s1];exact CmdAt.new w1 c
 have b2:Below w1.heap.size w1 w2:=by rw [← e2];exact (Below.refl _ _).alloc (Nat.le_refl _) _
 rw [e2];obtain ⟨w3,e3⟩:∃ x,w2.alloc (.cells (refCells refNone).toArray 43)=x:=⟨_,rfl⟩;have s3:w3.heap.size=w.heap.size+3:=by rw [← e3];simp [s2]
 have z3:RefRow w3 (w.heap.size+2) refNone:=by rw [← e3, ← s2];exact heap_alloc_new _ _
 have b3:Below w2.heap.size w2 w3:=by rw [← e3];exact (Below.refl _ _).alloc (Nat.le_refl _) _
 rw [e3];have p4:RepAt (w3.alloc (.cells (repCells 0 ByteArray.empty).toArray 27)) (w.heap.size+3) 0 ByteArray.empty:=by rw [← s3];exact heap_alloc_new _ _
 have b4:Below w3.heap.size w3 (w3.alloc (.cells (repCells 0 ByteArray.empty).toArray 27)):=(Below.refl _ _).alloc (Nat.le_refl _) _;exact ⟨((r1.below b2).below b3).below b4,(c2.below b3).below b4,z3.below b4,p4,b1.trans ((b2.mono b1.size).trans ((b3.mono (by omega)).trans (b4.mono (by omega))))⟩
def rdoE (W:World) (g:Nat) (x:RefM) (code:Nat) (text:ByteArray):World:=repSt (rowSt W (g+2) 0 (refCells x)) (g+3) code text
theorem rdo_end {W w0:World} {g:Nat} {z0:RefM} {c0:Nat} {t0:ByteArray} (hz:RefRow W (g+2) z0) (hp:RepAt W (g+3) c0 t0) (hb:Below g w0 W) (x:RefM) (code:Nat) (text:ByteArray) :
  RefRow (rdoE W g x code text) (g+2) x∧RepAt (rdoE W g x code text) (g+3) code text∧Below g w0 (rdoE W g x code text):=by
 have h1:=hz.set x;have h2:RepAt (rowSt W (g+2) 0 (refCells x)) (g+3) c0 t0:=(rowSt_other (by omega) _ _ _).trans hp;have h3:=rowSt_below (g:=g+2) (by omega) (refCells x) 0 _ hb;refine ⟨?_,repSt_at h2 code text,repSt_below h3 (by omega) code text⟩;exact (Below.heap_setCell _ _ _ _ (by show g+2≠g+3;omega)).trans ((Below.heap_setCell _ _ _ _ (by show g+2≠g+3;omega)).trans h1)
def RDoPost (O:MacOut) (r:RefM) (w:World) (e:Ending) (w':World):Prop:=∃ r' z',e=.returned (.tuple #[.agg (refCells r').toArray,repV O.code O.text,.bool O.fresh])∧RefAt w' r' O.m z'∧r'.k≤r.k+1∧Below w.heap.size w w'
def RDoR (g g4:Nat) (r:RefM) (q2:Nat) (q3:ByteArray) (y:World):Prop:=RefRow y g r∧RepAt y g4 q2 q3
theorem RDoR.same {g g4:Nat} {r:RefM} {q2:Nat} {q3:ByteArray} {y y':World} (h:RDoR g g4 r q2 q3 y) (h1:y'.heap[g]?=y.heap[g]?) (h2:y'.heap[g4]?=y.heap[g4]?):RDoR g g4 r q2 q3 y':=⟨h1.trans h.1,h2.trans h.2⟩
theorem rdoI_rep {w0 w:World} {r:RefM} {c:CmdV} {g4 c0:Nat} {t0:ByteArray} (h:RDoI w0 r c w) (hp:RepAt w g4 c0 t0) (hg:w0.heap.size+3<g4) (code:Nat) (text:ByteArray):RDoI w0 r c (repSt w g4 code text)∧RepAt (repSt w g4 code text) g4 code text:=by
 have ho:∀ q,q≠g4→(repSt w g4 code text).heap[q]?=w.heap[q]?:=fun q hq=>(Below.heap_setCell _ _ _ _ (by exact hq)).trans (Below.heap_setCell _ _ _ _ (by exact hq))
 exact ⟨⟨(ho _ (by omega)).trans h.r,(ho _ (by omega)).trans h.c,(ho _ (by omega)).trans h.z,(ho _ (by omega)).trans h.p,repSt_below h.bel (by omega) code text⟩,repSt_at hp code text⟩
theorem rdoI_mem {w0 w:World} {r:RefM} {c:CmdV} (h:RDoI w0 r c w) (n:Nat):RDoI w0 { r with mem:=n } c (w.setCell ⟨w0.heap.size,2,none⟩ (.int .u8 (n:Int))):=by
 have ho:∀ q,q≠w0.heap.size→(w.setCell ⟨w0.heap.size,2,none⟩ (.int .u8 (n:Int))).heap[q]?=w.heap[q]?:=fun q hq=>Below.heap_setCell _ _ _ _ (by exact hq)
 refine ⟨?_,(ho _ (by omega)).trans h.c,(ho _ (by omega)).trans h.z,(ho _ (by omega)).trans h.p,below_setV h.bel (Nat.le_refl _)⟩;have h1:=h.r;unfold RefRow at *
 rw [heap_setCell_same _ _ _ _ _ _ h1];rfl
theorem rep_mem {w:World} {g g4 c0:Nat} {t0:ByteArray} {v:Value} (hp:RepAt w g4 c0 t0) (hne:g4≠g):RepAt (w.setCell ⟨g,2,none⟩ v) g4 c0 t0:=(Below.heap_setCell _ _ _ _ (by exact hne)).trans hp
theorem look_fresh {t:TabV} {cl:Nat} {sq:BitVec 32} {q2:Nat} {q3:ByteArray} (h:lookT t cl sq=(1,q2,q3)):q2=0∧q3=ByteArray.empty:=by
 unfold lookT at h;split at h
 ·
  cases h;exact ⟨rfl,rfl⟩
 ·
  split at h <;> cases h
theorem both_self (s:Nat):bothS s s=s % 128:=by
 unfold bothS;rw [Nat.and_self,show (127:Nat)=2 ^ 7 - 1 by rfl,Nat.and_two_pow_sub_one_eq_mod]
theorem kvDo_asc {S:Sh} (h:Asc S.kv) (c:CmdV):Asc (kvDo S c).sh.kv:=by
 unfold kvDo;by_cases hm:mayC c=true
 ·
  rw [if_pos hm];by_cases h1:c.kind=1
  ·
   rw [if_pos h1];unfold kvGet;split <;> exact h
  rw [if_neg h1];by_cases h2:c.kind=2
  ·
   rw [if_pos h2];unfold kvPut;cases S.look c.key with
   | none =>
    by_cases hf:256≤S.cnt
    ·
     simp only [hf,if_true];exact h
    ·
     simp only [hf,if_false];exact asc_put h c.key c.fresh none
   | some v=>exact asc_put h c.key c.fresh (some v)
  rw [if_neg h2];by_cases h3:c.kind=3
  ·
   rw [if_pos h3];unfold kvDel;cases S.look c.key with
   | none=>exact h
   | some v=>exact asc_del h c.key (some v)
  rw [if_neg h3];by_cases h4:c.kind=4
  ·
   rw [if_pos h4];unfold kvCas;cases S.look c.key with
   | none=>exact h
   | some v =>
    by_cases hf:v=c.old
    ·
     simp only [hf,if_true];exact asc_put h c.key c.fresh (some c.old)
    ·
     simp only [hf,if_false];exact h
  rw [if_neg h4];exact h
 ·
  rw [if_neg hm];exact h
theorem slice_stay {α:Type} {k:Nat} {enc:α→List Value} {w w':World} {a:Option Addr} {len:Nat} {z:List α} (h:SliceAt k enc w a len z) (hs:w.heap.size≤w'.heap.size) (hb:∀ b o,a=some ⟨b,o,none⟩→w'.heap[b]?=w.heap[b]?):SliceAt k enc w' a len z:=by
 refine ⟨h.hlen,h.hmax,fun i x hi=>?_⟩;obtain ⟨b,o,h1,h2,h3⟩:=h.cells i x hi;refine ⟨b,o,h1,Nat.lt_of_lt_of_le h2 hs,fun j v hj=>?_⟩;rw [← h3 j v hj];simp only [World.cell?,hb b o h1]
theorem PTy.stay {w w':World} {A:Option Addr} (h:PTy w A) (hb:∀ b o,A=some ⟨b,o,none⟩→w'.heap[b]?=w.heap[b]?):PTy w' A:=fun b o e=>by
 obtain ⟨cs,hc⟩:=h b o e;exact ⟨cs,(hb b o e).trans hc⟩
theorem RefAt.stay {w w':World} {r:RefM} {M:MacV} {z:List KeptV} (h:RefAt w r M z) (hs:w.heap.size≤w'.heap.size) (ha:∀ b o,r.A=some ⟨b,o,none⟩→w'.heap[b]?=w.heap[b]?) (hb:∀ b o,r.B=some ⟨b,o,none⟩→w'.heap[b]?=w.heap[b]?):RefAt w' r M z :=
 ⟨slice_stay h.pairs hs ha,slice_stay h.keeps hs hb,h.all,h.mem,h.tab,h.ok,h.ty.stay ha,h.asc,h.nilB,h.kty.stay hb⟩
theorem STy.ne {w:World} {t t':TypeId} {A:Option Addr} {g:Nat} {cs:Array Value} (h:STy w t A) (hg:w.heap[g]?=some (.cells cs t' (0,0))) (ht:t≠t'):∀ b o,A=some ⟨b,o,none⟩→b≠g:=by
 rintro b o e rfl;obtain ⟨c2,hc⟩:=h b o e;rw [hg] at hc;simp only [Option.some.injEq,Obj.cells.injEq] at hc;exact ht hc.2.1.symm
theorem RefAt.ne {w:World} {r:RefM} {M:MacV} {z:List KeptV} {g:Nat} {cs:Array Value} (h:RefAt w r M z) (hg:w.heap[g]?=some (.cells cs 43 (0,0))):(∀ b o,r.A=some ⟨b,o,none⟩→b≠g)∧∀ b o,r.B=some ⟨b,o,none⟩→b≠g :=
 ⟨STy.ne (t:=204) h.ty hg (by decide),STy.ne h.kty hg (by decide)⟩
theorem RefAt.ne2 {w:World} {r:RefM} {M:MacV} {z:List KeptV} {g:Nat} {cs:Array Value} (h:RefAt w r M z) (hg:w.heap[g]?=some (.cells cs 27 (0,0))):(∀ b o,r.A=some ⟨b,o,none⟩→b≠g)∧∀ b o,r.B=some ⟨b,o,none⟩→b≠g :=
 ⟨STy.ne (t:=204) h.ty hg (by decide),STy.ne h.kty hg (by decide)⟩
theorem rdoI_prs {w0 w:World} {r:RefM} {c:CmdV} (h:RDoI w0 r c w) (A:Option Addr) (n d:Nat):RDoI w0 { r with A:=A,n:=n,c:=d } c (w.setCell ⟨w0.heap.size,0,none⟩ (.slice A n d)):=by
 have ho:∀ q,q≠w0.heap.size→(w.setCell ⟨w0.heap.size,0,none⟩ (.slice A n d)).heap[q]?=w.heap[q]?:=fun q hq=>Below.heap_setCell _ _ _ _ (by exact hq)
 refine ⟨?_,(ho _ (by omega)).trans h.c,(ho _ (by omega)).trans h.z,(ho _ (by omega)).trans h.p,below_setV h.bel (Nat.le_refl _)⟩;have h1:=h.r;unfold RefRow at *
 rw [heap_setCell_same _ _ _ _ _ _ h1];rfl
theorem rdoI_kept {w0 w:World} {r:RefM} {c:CmdV} (h:RDoI w0 r c w) (A:Option Addr) (n d:Nat):RDoI w0 { r with B:=A,k:=n,d:=d } c (w.setCell ⟨w0.heap.size,3,none⟩ (.slice A n d)):=by
 have ho:∀ q,q≠w0.heap.size→(w.setCell ⟨w0.heap.size,3,none⟩ (.slice A n d)).heap[q]?=w.heap[q]?:=fun q hq=>Below.heap_setCell _ _ _ _ (by exact hq)
 refine ⟨?_,(ho _ (by omega)).trans h.c,(ho _ (by omega)).trans h.z,(ho _ (by omega)).trans h.p,below_setV h.bel (Nat.le_refl _)⟩;have h1:=h.r;unfold RefRow at *
 rw [heap_setCell_same _ _ _ _ _ _ h1];rfl
theorem rep_set0 {w:World} {g g4 i c0:Nat} {t0:ByteArray} {v:Value} (hp:RepAt w g4 c0 t0) (hne:g4≠g):RepAt (w.setCell ⟨g,i,none⟩ v) g4 c0 t0:=(Below.heap_setCell _ _ _ _ (by exact hne)).trans hp
theorem repSt_other (w:World) {g q:Nat} (hq:q≠g) (code:Nat) (text:ByteArray):(repSt w g code text).heap[q]?=w.heap[q]?:=(Below.heap_setCell _ _ _ _ (by exact hq)).trans (Below.heap_setCell _ _ _ _ (by exact hq))
theorem repSt_size (w:World) (g:Nat) (code:Nat) (text:ByteArray):w.heap.size≤(repSt w g code text).heap.size:=(repSt_below (Below.refl 0 w) (Nat.zero_le _) code text).size
theorem rdoE_other (w:World) {g q:Nat} (h1:q≠g+2) (h2:q≠g+3) (x:RefM) (code:Nat) (text:ByteArray):(rdoE w g x code text).heap[q]?=w.heap[q]?:=(repSt_other _ h2 code text).trans (rowSt_other h1 _ _ _)
theorem rdoE_size (w:World) (g:Nat) (x:RefM) (code:Nat) (text:ByteArray):w.heap.size≤(rdoE w g x code text).heap.size :=
 Nat.le_trans (rowSt_below (Nat.zero_le _) (refCells x) 0 _ (Below.refl 0 w)).size (repSt_size _ _ _ _)
theorem rdo_any (r:RefM) (M:MacV) (z:List KeptV) (c:CmdV) (hn:r.n≤1000000) (hk:r.k≤1000000) (hal:M.all<256) (w:World) (h:RefAt w r M z) :
  Calls Tryz.prog 46 #[.agg (refCells r).toArray,.agg (cmdCells c).toArray] w (RDoPost (macDo M c) r w):=by
 have hI:=rdo_start w r c;have H:=Lib.hid h;clear h
 have hmay:=fun y:World=>may09_any c y
 rw [ref_eta,cmd_eta];rw [cmd_eta] at hmay;obtain ⟨O,hO⟩:∃ O,macDo M c=O:=⟨_,rfl⟩;rw [hO];have HO:=Lib.hid hO;clear hO
 obtain ⟨b,hbm⟩:∃ b,mayC c=b:=⟨_,rfl⟩;rw [hbm] at hmay;have Hbm:=Lib.hid hbm;clear hbm
 have Hmay:=Lib.hid hmay;clear hmay
 have Hn:=Lib.hid (And.intro hn hk);clear hn hk
 go_enter Tryz.func46,Tryz.ntmps46
 go_upto_region 1 with fail;rw [show w.heap.size+1+1+1=w.heap.size+3 by omega,show w.heap.size+1+1=w.heap.size+2 by omega];change Code.wp _ _ _ _ (rdoW w r c);generalize rdoW w r c=w1 at *;have HI:=Lib.hid hI;clear hI
 obtain ⟨c0,c1,c2,c3,c4,c5,c6⟩:=HI.out.c.cells;go_upto_if 11 with ((with_reducible refine (Hmay.out _).mono ?_);rintro e w2 ⟨rfl,hb2⟩;have Hb2:=Lib.hid hb2;clear hb2)
 clear c0 c1 c2 c3 c4 c5 c6 Hmay;have HJ:=Lib.hid (HI.out.below Hb2.out);clear HI Hb2;cases b with
 | false =>
  have hout:O=⟨M,2,ByteArray.empty,false⟩:=by rw [← HO.out];unfold macDo;rw [if_neg (by rw [Hbm.out];decide)]
  subst hout;obtain ⟨r0,r1,r2,r3⟩:=HJ.out.r.cells;obtain ⟨z0,z1,z2,z3⟩:=HJ.out.z.cells;have y0:=HJ.out.z.thawed 0;have y1:=HJ.out.z.thawed 1;have y2:=HJ.out.z.thawed 2;have y3:=HJ.out.z.thawed 3;obtain ⟨p0,p1⟩:=HJ.out.p.cells;have x0:=HJ.out.p.thawed 0;have x1:=HJ.out.p.thawed 1;have HE:=Lib.hid (rdo_end HJ.out.z HJ.out.p HJ.out.bel r 2 ByteArray.empty);go_wp2_with fail;change bodyPost _ _ _ _ _ (rdoE w2 w.heap.size r 2 ByteArray.empty);clear r0 r1 r2 r3 z0 z1 z2 z3 y0 y1 y2 y3 p0 p1 x0 x1;have hba:=Lib.hid HJ.out.bel;clear HJ;generalize rdoE w2 w.heap.size r 2 ByteArray.empty=w9 at *;obtain ⟨r0,r1,r2,r3⟩:=HE.out.1.cells;obtain ⟨p0,p1⟩:=HE.out.2.1.cells;refine bodyPost_ret (v:=.tuple #[.agg #[.slice r.A r.n r.c,.int .u8 (r.all:Int),.int .u8 (r.mem:Int),.slice r.B r.k r.d],.agg #[.int .u8 2,.string ByteArray.empty],.bool false]) (by simp [results,Tryz.results46,go_sem,r0,r1,r2,r3,p0,p1] <;> rfl) rfl ?_;exact ⟨r,z,rfl,H.out.below HE.out.2.2,by omega,HE.out.2.2⟩
 | true =>
  obtain ⟨⟨q1,q2,q3⟩,hq⟩:∃ q,lookT M.tab c.client.toNat c.seq=q:=⟨_,rfl⟩;have hcl:c.client.toNat<4:=may_client Hbm.out;have hsq:c.seq.toNat≠0:=may_seq Hbm.out;have hlk:=fun (y:World) (hy:Below w.heap.size w y)=>rlook_any r.B r.k r.d z M.tab H.out.tab c.client hcl c.seq hsq y (H.out.keeps.below hy)
  rw [hq] at hlk;unfold repV repCells at hlk;have Hlk:=Lib.hid hlk;clear hlk
  have Hq:=Lib.hid hq;clear hq
  obtain ⟨r0,r1,r2,r3⟩:=HJ.out.r.cells;obtain ⟨c0,c1,c2,c3,c4,c5,c6⟩:=HJ.out.c.cells;go_upto_if 25 with ((with_reducible refine (Hlk.out _ HJ.out.bel).mono ?_);rintro e w3 ⟨rfl,hb3⟩;have Hb3:=Lib.hid hb3;clear hb3)
  clear r0 r1 r2 r3 c0 c1 c2 c3 c4 c5 c6 Hlk;have hp4:RepAt (w3.alloc (.cells (repCells q2 q3).toArray 27)) w3.heap.size q2 q3:=heap_alloc_new _ _;have HK:=Lib.hid (HJ.out.below (Hb3.out.alloc Hb3.out.size (.cells (repCells q2 q3).toArray 27)));have hg4:w.heap.size+3<w3.heap.size:=(HJ.out.p.below Hb3.out).lt;change Code.wp _ _ _ _ (w3.alloc (.cells (repCells q2 q3).toArray 27));generalize w3.alloc (.cells (repCells q2 q3).toArray 27)=w4 at *;generalize w3.heap.size=g4 at *;clear HJ Hb3;have Hp:=Lib.hid hp4;clear hp4
  have Hg:=Lib.hid hg4;clear hg4
  by_cases h1:q1=1
  ·
   subst h1;obtain ⟨rfl,rfl⟩:=look_fresh Hq.out;obtain ⟨⟨F1,F2,F3⟩,hF⟩:∃ F,macFresh M c=F:=⟨_,rfl⟩;have HF:=Lib.hid hF;clear hF
   obtain ⟨c0,c1,c2,c3,c4,c5,c6⟩:=HK.out.c.cells;have hset:=c.set.isLt;go_upto_if 30 with fail
   go_cut [30] (fun _ wx=>∃ x:RefM,RDoI w x c wx∧RepAt wx g4 F2 F3∧RefAt wx x F1 z∧x.B=r.B∧x.k=r.k∧x.d=r.d)
   case first =>
    obtain ⟨r0,r1,r2,r3⟩:=HK.out.r.cells;obtain ⟨p0,p1⟩:=Hp.out.cells;have x0:=Hp.out.thawed 0;have x1:=Hp.out.thawed 1;by_cases hk5:c.kind=5
    ·
     have hk5':((c.kind.toNat:Int) == 5)=true:=by rw [hk5];rfl
     have H5:=Lib.hid hk5;clear hk5
     have Hm:=Lib.hid (fun y:World=>(show Calls Tryz.prog 84 #[.int .u8 (c.set.toNat:Int),.int .u8 (r.all:Int)] y fun e w'=>e=.returned (.bool (mayS c.set.toNat M.all))∧Below y.heap.size y w' by
      have hh:=rmay_any c.set.toNat r.all hset (by rw [H.out.all];exact hal) y;have e:rmayS c.set.toNat r.all=mayS c.set.toNat M.all:=by rw [rmay_eq hset (by rw [H.out.all];exact hal),H.out.all]
      rw [e] at hh;exact hh))
     obtain ⟨hr1,hr2⟩:=rdoI_rep HK.out Hp.out Hg.out 2 ByteArray.empty;have HK5:=Lib.hid hr1;clear hr1
     have Hp5:=Lib.hid hr2;clear hr2
     go_upto_region 8 with fail;change Code.wp _ _ _ _ (repSt w4 g4 2 ByteArray.empty);clear c0 c1 c2 c3 c4 c5 c6 r0 r1 r2 r3 p0 p1 x0 x1 HK Hp;generalize repSt w4 g4 2 ByteArray.empty=w5 at *;obtain ⟨r0,r1,r2,r3⟩:=HK5.out.r.cells;obtain ⟨c0,c1,c2,c3,c4,c5,c6⟩:=HK5.out.c.cells;obtain ⟨b2,hb2⟩:∃ b,mayS c.set.toNat M.all=b:=⟨_,rfl⟩;rw [hb2] at Hm;have Hb2:=Lib.hid hb2;clear hb2
     cases b2 with
     | true =>
      have hF:=HF.out;unfold macFresh at hF;rw [if_pos H5.out,if_pos Hb2.out] at hF;simp only [Prod.mk.injEq] at hF;obtain ⟨rfl,rfl,rfl⟩:=hF;clear r0 r2 r3;go_upto_region 9 with ((with_reducible refine (Hm.out _).mono ?_);rintro e w6 ⟨rfl,hb6⟩;have Hb6:=Lib.hid hb6;clear hb6)
      clear r1 c0 c1 c2 c3 c4 c5 c6;have HK6:=Lib.hid (HK5.out.below Hb6.out);have Hp6:=Lib.hid (Hp5.out.below Hb6.out);clear HK5 Hp5 Hb6;obtain ⟨r0,r1,r2,r3⟩:=HK6.out.r.cells;obtain ⟨c0,c1,c2,c3,c4,c5,c6⟩:=HK6.out.c.cells;have y2:=HK6.out.r.thawed 2;have hr7:=rdoI_mem HK6.out (c.set.toNat % 128);rw [show ((c.set.toNat % 128:Nat):Int)=(c.set.toNat:Int) % 128 by omega] at hr7;have hp7:=rep_mem (g:=w.heap.size) (v:=.int .u8 ((c.set.toNat:Int) % 128)) Hp6.out (by have:=Hg.out;omega);have HK7:=Lib.hid hr7;clear hr7
      have Hp7:=Lib.hid hp7;clear hp7
      go_upto_region 10 with fail;change Code.wp _ _ _ _ (w6.setCell ⟨w.heap.size,2,none⟩ (.int .u8 ((c.set.toNat:Int) % 128)));clear r0 r1 r2 r3 c0 c1 c2 c3 c4 c5 c6 y2 HK6 Hp6;generalize w6.setCell ⟨w.heap.size,2,none⟩ (.int .u8 ((c.set.toNat:Int) % 128))=w7 at *
      obtain ⟨p0,p1⟩:=Hp7.out.cells;have x0:=Hp7.out.thawed 0;have x1:=Hp7.out.thawed 1;obtain ⟨hr8,hp8⟩:=rdoI_rep HK7.out Hp7.out Hg.out 0 ByteArray.empty;have HK8:=Lib.hid hr8;clear hr8
      have Hp8:=Lib.hid hp8;clear hp8
      go_wp2_with fail;go_meet
      have hH:=H.out.below HK8.out.bel;exact ⟨_,HK8.out,Hp8.out,⟨hH.pairs,hH.keeps,hH.all,(both_self _).symm,hH.tab,hH.ok,hH.ty,hH.asc,hH.nilB,hH.kty⟩,rfl,rfl,rfl⟩
     | false =>
      have hF:=HF.out;unfold macFresh at hF;rw [if_pos H5.out,if_neg (by rw [Hb2.out];decide)] at hF;simp only [Prod.mk.injEq] at hF;obtain ⟨rfl,rfl,rfl⟩:=hF;clear r0 r2 r3;go_wp2_with ((with_reducible refine (Hm.out _).mono ?_);rintro e w6 ⟨rfl,hb6⟩;have Hb6:=Lib.hid hb6;clear hb6);go_meet
      exact ⟨r,HK5.out.below Hb6.out,Hp5.out.below Hb6.out,H.out.below (HK5.out.below Hb6.out).bel,rfl,rfl,rfl⟩
    ·
     have hk5':((c.kind.toNat:Int) == 5)=false:=by
      simp only [beq_eq_false_iff_ne,ne_eq];intro e;exact hk5 (UInt8.toNat_inj.1 (show c.kind.toNat=(5:UInt8).toNat by show c.kind.toNat=5;omega))
     have hF:=HF.out;unfold macFresh at hF;rw [if_neg hk5] at hF;simp only [Prod.mk.injEq] at hF;obtain ⟨rfl,hK2,hK3⟩:=hF;clear hk5;have hd:=do11_any c M.sh r.A r.n r.c w4 (H.out.below HK.out.bel).pairs (H.out.below HK.out.bel).ok (H.out.below HK.out.bel).ty (H.out.below HK.out.bel).asc Hn.out.1;unfold RefPostD at hd;rw [hK2,hK3] at hd;unfold repV repCells at hd;rw [cmd_eta] at hd;have Hd:=Lib.hid hd;clear hd hK2 hK3
     have y0:=HK.out.r.thawed 0;go_wp2_with ((with_reducible refine Hd.out.mono ?_);rintro e w6 ⟨A',n',d',rfl,hpa,hb6,hpo,hpt⟩;have HA:=Lib.hid (And.intro hpa (And.intro hpo hpt));clear hpa hpo hpt;have HK6:=Lib.hid (HK.out.below hb6);have Hp6:=Lib.hid (Hp.out.below hb6);clear hb6 r0 r1 r2 r3 p0 p1 x0 x1 y0 c0 c1 c2 c3 c4 c5 c6;obtain ⟨r0,r1,r2,r3⟩:=HK6.out.r.cells;obtain ⟨p0,p1⟩:=Hp6.out.cells;have x0:=Hp6.out.thawed 0;have x1:=Hp6.out.thawed 1;have y0:=HK6.out.r.thawed 0;have n1:w.heap.size≠g4:=(by have:=Hg.out;omega);have n2:g4≠w.heap.size:=Ne.symm n1);go_meet
     have HK7:=rdoI_prs HK6.out A' n' d';have Hp7:=rep_set0 (i:=0) (v:=.slice A' n' d') Hp6.out (show g4≠w.heap.size by have:=Hg.out;omega);obtain ⟨HK8,Hp8⟩:=rdoI_rep HK7 Hp7 Hg.out F2 F3;have hsz:w6.heap.size≤(repSt (w6.setCell ⟨w.heap.size,0,none⟩ (.slice A' n' d')) g4 F2 F3).heap.size:=Nat.le_trans (below_setV (Below.refl 0 w6) (Nat.zero_le _)).size (repSt_size _ _ _ _);have hsa:∀ b o,A'=some ⟨b,o,none⟩→(repSt (w6.setCell ⟨w.heap.size,0,none⟩ (.slice A' n' d')) g4 F2 F3).heap[b]?=w6.heap[b]?:=fun b o e =>
      (repSt_other _ (STy.ne (t:=204) HA.out.2.2 Hp6.out (by decide) b o e) _ _).trans (Below.heap_setCell _ _ _ _ (STy.ne (t:=204) HA.out.2.2 HK6.out.r (by decide) b o e))
     have hH:=H.out.below HK8.bel;exact ⟨_,HK8,Hp8,⟨slice_stay HA.out.1 hsz hsa,hH.keeps,hH.all,hH.mem,hH.tab,HA.out.2.1,HA.out.2.2.stay hsa,kvDo_asc hH.asc c,hH.nilB,hH.kty⟩,rfl,rfl,rfl⟩
   case rest =>
    obtain ⟨x,hx1,hx2,hx3,hx4,hx5,hx6⟩:=hcut;generalize wc=w5 at *;clear c0 c1 c2 c3 c4 c5 c6 HK Hp;have HK5:=Lib.hid hx1;clear hx1
    have Hp5:=Lib.hid hx2;clear hx2
    have HX:=Lib.hid hx3;clear hx3
    have Hx:=Lib.hid (And.intro hx5 hx4);clear hx4 hx5 hx6
    have hF1:F1.tab=M.tab:=by have h:=macFresh_tab M c;rw [HF.out] at h;exact h
    have hkp:=rkeep_any x.B x.k x.d z F1.tab HX.out.tab HX.out.nilB (by rw [Hx.out.1];exact Hn.out.2) ⟨c.client,c.seq,F2,F3⟩ hcl hsq (by rw [hF1,Hq.out]) w5 HX.out.keeps;rw [kept_eta] at hkp;dsimp only at hkp;have hout:O=⟨{ F1 with tab:=F1.tab.put c.client.toNat ⟨c.seq,F2,F3⟩ },F2,F3,true⟩:=by
     rw [← HO.out,hF1];unfold macDo;rw [if_pos Hbm.out,Hq.out,if_pos rfl,HF.out]
    subst hout;have Hkp:=Lib.hid hkp;clear hkp hF1
    obtain ⟨c0,c1,c2,c3,c4,c5,c6⟩:=HK5.out.c.cells;obtain ⟨r0,r1,r2,r3⟩:=HK5.out.r.cells;obtain ⟨p0,p1⟩:=Hp5.out.cells;go_upto_region 13 with ((with_reducible refine Hkp.out.mono ?_);rintro e w6 ⟨A',d',rfl,hka,⟨hne,hst⟩,hb6⟩;have HA:=Lib.hid (And.intro hka (And.intro hne hst));clear hka hne hst;have HK6:=Lib.hid (HK5.out.below hb6);have Hp6:=Lib.hid (Hp5.out.below hb6);have HX6:=Lib.hid (HX.out.below hb6);clear hb6 r0 r1 r2 r3 p0 p1 c0 c1 c2 c3 c4 c5 c6;obtain ⟨r0,r1,r2,r3⟩:=HK6.out.r.cells;have y3:=HK6.out.r.thawed 3)
    change Code.wp _ _ _ _ (w6.setCell ⟨w.heap.size,3,none⟩ (.slice A' (x.k+1) d'));have hsz:w6.heap.size≤(w6.setCell ⟨w.heap.size,3,none⟩ (.slice A' (x.k+1) d')).heap.size:=(below_setV (Below.refl 0 w6) (Nat.zero_le _)).size;have hsa:∀ b o,x.A=some ⟨b,o,none⟩→(w6.setCell ⟨w.heap.size,3,none⟩ (.slice A' (x.k+1) d')).heap[b]?=w6.heap[b]?:=fun b o e=>Below.heap_setCell _ _ _ _ ((HX6.out.ne HK6.out.r).1 b o e)
    have hsb:∀ b o,A'=some ⟨b,o,none⟩→(w6.setCell ⟨w.heap.size,3,none⟩ (.slice A' (x.k+1) d')).heap[b]?=w6.heap[b]?:=fun b o e=>Below.heap_setCell _ _ _ _ (STy.ne HA.out.2.2 HK6.out.r (by decide) b o e)
    have HX7:=Lib.hid (show RefAt (w6.setCell ⟨w.heap.size,3,none⟩ (.slice A' (x.k+1) d')) { x with B:=A',k:=x.k+1,d:=d' } { F1 with tab:=F1.tab.put c.client.toNat ⟨c.seq,F2,F3⟩ } (z++[⟨c.client,c.seq,F2,F3⟩]) from
     ⟨slice_stay HX6.out.pairs hsz hsa,slice_stay HA.out.1 hsz hsb,HX6.out.all,HX6.out.mem,keptTab_put HX6.out.tab ⟨c.client,c.seq,F2,F3⟩ hcl,HX6.out.ok,HX6.out.ty.stay hsa,HX6.out.asc,fun e=>absurd e HA.out.2.1,HA.out.2.2.stay hsb⟩)
    have HK7:=Lib.hid (rdoI_kept HK6.out A' (x.k+1) d');have Hp7:=Lib.hid (rep_set0 (i:=3) (v:=.slice A' (x.k+1) d') Hp6.out (show g4≠w.heap.size by have:=Hg.out;omega));clear hsz hsa hsb HK6 Hp6 HX6 HA r0 r1 r2 r3 y3;generalize w6.setCell ⟨w.heap.size,3,none⟩ (.slice A' (x.k+1) d')=w7 at *;obtain ⟨y,hy⟩:∃ y:RefM,{ x with B:=A',k:=x.k+1,d:=d' }=y:=⟨_,rfl⟩;have hyk:y.k≤r.k+1:=by rw [← hy, ← Hx.out.1];exact Nat.le_refl _
    rw [hy] at HX7 HK7;have Hyk:=Lib.hid hyk;clear hyk hy
    refine (wpIn_wide (n:=1)).1 ?_;refine RegJ.wpIn_region_plan (F:=Fence.wide) (RDoR w.heap.size g4 y F2 F3) (.step 0 0 (.step 1 0 (.step 2 1 (.step 3 1 (.step 4 0 .nil))))) (by kernel_rfl) (by kernel_rfl) (by kernel_rfl) (fun _ _ d _ _ h=>by cases d <;> exact h) ⟨HK7.out.r,Hp7.out⟩ ?_;dsimp only [RegJ.pickJ,List.getElem?_cons_zero,List.getElem?_cons_succ];change RegJ.Can _ _ _ _ _ _ _ _ w7.drew;have HD:=Lib.hid (HK7.out.below (show Below w7.heap.size w7 w7.drew from ⟨rfl,rfl,rfl,Nat.le_refl _,fun _ _=>rfl⟩));have HpD:=Lib.hid (show RepAt w7.drew g4 F2 F3 from Hp7.out);have HXD:=Lib.hid (HX7.out.below (show Below w7.heap.size w7 w7.drew from ⟨rfl,rfl,rfl,Nat.le_refl _,fun _ _=>rfl⟩));generalize w7.drew=w8 at *;clear HK7 Hp7;refine RegJ.reads ?_;intro K hK;go_simp;refine ⟨.agg #[.slice y.A y.n y.c,.int .u8 (y.all:Int),.int .u8 (y.mem:Int),.slice y.B y.k y.d],fun v hy=>?_,hK _ ?_⟩
    ·
     obtain ⟨f0,f1,f2,f3⟩:=hy.1.cells;go_simp
    clear hK K;refine RegJ.reads ?_;intro K hK;go_simp;refine ⟨.agg #[.int .u8 (F2:Int),.string F3],fun v hy=>?_,hK _ ?_⟩
    ·
     obtain ⟨f0,f1⟩:=hy.2.cells;go_simp
    clear hK K;have hHE:=rdo_end HD.out.z HD.out.p HD.out.bel y F2 F3;have HE:=Lib.hid hHE;clear hHE
    obtain ⟨z0,z1,z2,z3⟩:=HD.out.z.cells;have y0:=HD.out.z.thawed 0;have y1:=HD.out.z.thawed 1;have y2:=HD.out.z.thawed 2;have y3:=HD.out.z.thawed 3;have HR:=Lib.hid (show RDoR w.heap.size g4 y F2 F3 w8 from ⟨HD.out.r,HpD.out⟩);have hq1:RDoR w.heap.size g4 y F2 F3 (rowSt w8 (w.heap.size+2) 0 (refCells y)):=HR.out.same (rowSt_other (by omega) _ _ _) (rowSt_other (by have:=Hg.out;omega) _ _ _);have hp1:RepAt (rowSt w8 (w.heap.size+2) 0 (refCells y)) (w.heap.size+3) 0 ByteArray.empty:=(rowSt_other (by omega) _ _ _).trans HD.out.p;have hq2:RDoR w.heap.size g4 y F2 F3 (rdoE w8 w.heap.size y F2 F3):=hq1.same ((Below.heap_setCell _ _ _ _ (by show w.heap.size≠w.heap.size+3;omega)).trans (Below.heap_setCell _ _ _ _ (by show w.heap.size≠w.heap.size+3;omega))) ((Below.heap_setCell _ _ _ _ (by show g4≠w.heap.size+3;have:=Hg.out;omega)).trans (Below.heap_setCell _ _ _ _ (by show g4≠w.heap.size+3;have:=Hg.out;omega)));have HQ1:=Lib.hid hq1;clear hq1
    have HQ2:=Lib.hid hq2;clear hq2
    have HP1:=Lib.hid hp1;clear hp1
    refine RegJ.turns (fun _=>trivial) ?_;intro K K0 hK hK0;go_simp;refine hK (RDoR w.heap.size g4 y F2 F3) _ (rowSt w8 (w.heap.size+2) 0 (refCells y)) (fun _ h=>h) HQ1.out ?_;clear hK K hK0 K0 z0 z1 z2 z3 y0 y1 y2 y3;obtain ⟨p0,p1⟩:=HP1.out.cells;have x0:=HP1.out.thawed 0;have x1:=HP1.out.thawed 1;refine RegJ.turns (fun _=>trivial) ?_;intro K K0 hK hK0;go_simp;refine hK (RDoR w.heap.size g4 y F2 F3) _ (rdoE w8 w.heap.size y F2 F3) (fun _ h=>h) HQ2.out ?_;clear hK K hK0 K0 p0 p1 x0 x1;have HXE:=Lib.hid (HXD.out.stay (rdoE_size w8 w.heap.size y F2 F3) (fun b o e=>rdoE_other _ ((HXD.out.ne HD.out.z).1 b o e) ((HXD.out.ne2 HD.out.p).1 b o e) _ _ _) (fun b o e=>rdoE_other _ ((HXD.out.ne HD.out.z).2 b o e) ((HXD.out.ne2 HD.out.p).2 b o e) _ _ _));generalize rdoE w8 w.heap.size y F2 F3=w9 at *;refine RegJ.reads ?_;intro K hK;go_simp;refine ⟨_,fun _ _=>rfl,hK _ ?_⟩;clear hK K;refine RegJ.nil ?_;go_wp2_with fail;obtain ⟨r0,r1,r2,r3⟩:=HE.out.1.cells;obtain ⟨p0,p1⟩:=HE.out.2.1.cells;refine bodyPost_ret (v:=.tuple #[.agg #[.slice y.A y.n y.c,.int .u8 (y.all:Int),.int .u8 (y.mem:Int),.slice y.B y.k y.d],.agg #[.int .u8 (F2:Int),.string F3],.bool true]) (by simp [results,Tryz.results46,go_sem,r0,r1,r2,r3,p0,p1] <;> rfl) rfl ?_;exact ⟨y,z++[⟨c.client,c.seq,F2,F3⟩],rfl,HXE.out,Hyk.out,HE.out.2.2⟩
  ·
   have h1':((q1:Int) != 1)=true:=by rw [bne_iff_ne];omega
   have hout:O=⟨M,q2,q3,false⟩:=by rw [← HO.out];unfold macDo;rw [if_pos Hbm.out,Hq.out,if_neg (by simpa using h1)]
   subst hout;have H1:=Lib.hid h1;clear h1
   go_upto_region 5 with fail;refine (wpIn_wide (n:=1)).1 ?_;refine RegJ.wpIn_region_plan (F:=Fence.wide) (RDoR w.heap.size g4 r q2 q3) (.step 0 0 (.step 1 0 (.step 2 1 (.step 3 1 (.step 4 0 .nil))))) (by kernel_rfl) (by kernel_rfl) (by kernel_rfl) (fun _ _ d _ _ h=>by cases d <;> exact h) ⟨HK.out.r,Hp.out⟩ ?_;dsimp only [RegJ.pickJ,List.getElem?_cons_zero,List.getElem?_cons_succ];change RegJ.Can _ _ _ _ _ _ _ _ w4.drew;have HD:=Lib.hid (HK.out.below (show Below w4.heap.size w4 w4.drew from ⟨rfl,rfl,rfl,Nat.le_refl _,fun _ _=>rfl⟩));have HpD:=Lib.hid (show RepAt w4.drew g4 q2 q3 from Hp.out);generalize w4.drew=w5 at *;clear HK Hp;refine RegJ.reads ?_;intro K hK;go_simp;refine ⟨.agg #[.slice r.A r.n r.c,.int .u8 (r.all:Int),.int .u8 (r.mem:Int),.slice r.B r.k r.d],fun y hy=>?_,hK _ ?_⟩
   ·
    obtain ⟨f0,f1,f2,f3⟩:=hy.1.cells;go_simp
   clear hK K;refine RegJ.reads ?_;intro K hK;go_simp;refine ⟨.agg #[.int .u8 (q2:Int),.string q3],fun y hy=>?_,hK _ ?_⟩
   ·
    obtain ⟨f0,f1⟩:=hy.2.cells;go_simp
   clear hK K;have hHE:=rdo_end HD.out.z HD.out.p HD.out.bel r q2 q3;have HE:=Lib.hid hHE;clear hHE
   obtain ⟨z0,z1,z2,z3⟩:=HD.out.z.cells;have y0:=HD.out.z.thawed 0;have y1:=HD.out.z.thawed 1;have y2:=HD.out.z.thawed 2;have y3:=HD.out.z.thawed 3;have HR:=Lib.hid (show RDoR w.heap.size g4 r q2 q3 w5 from ⟨HD.out.r,HpD.out⟩);have hq1:RDoR w.heap.size g4 r q2 q3 (rowSt w5 (w.heap.size+2) 0 (refCells r)):=HR.out.same (rowSt_other (by omega) _ _ _) (rowSt_other (by have:=Hg.out;omega) _ _ _);have hp1:RepAt (rowSt w5 (w.heap.size+2) 0 (refCells r)) (w.heap.size+3) 0 ByteArray.empty:=(rowSt_other (by omega) _ _ _).trans HD.out.p;have hq2:RDoR w.heap.size g4 r q2 q3 (rdoE w5 w.heap.size r q2 q3):=hq1.same ((Below.heap_setCell _ _ _ _ (by show w.heap.size≠w.heap.size+3;omega)).trans (Below.heap_setCell _ _ _ _ (by show w.heap.size≠w.heap.size+3;omega))) ((Below.heap_setCell _ _ _ _ (by show g4≠w.heap.size+3;have:=Hg.out;omega)).trans (Below.heap_setCell _ _ _ _ (by show g4≠w.heap.size+3;have:=Hg.out;omega)));have HQ1:=Lib.hid hq1;clear hq1
   have HQ2:=Lib.hid hq2;clear hq2
   have HP1:=Lib.hid hp1;clear hp1
   refine RegJ.turns (fun _=>trivial) ?_;intro K K0 hK hK0;go_simp;refine hK (RDoR w.heap.size g4 r q2 q3) _ (rowSt w5 (w.heap.size+2) 0 (refCells r)) (fun _ h=>h) HQ1.out ?_;clear hK K hK0 K0 z0 z1 z2 z3 y0 y1 y2 y3;obtain ⟨p0,p1⟩:=HP1.out.cells;have x0:=HP1.out.thawed 0;have x1:=HP1.out.thawed 1;refine RegJ.turns (fun _=>trivial) ?_;intro K K0 hK hK0;go_simp;refine hK (RDoR w.heap.size g4 r q2 q3) _ (rdoE w5 w.heap.size r q2 q3) (fun _ h=>h) HQ2.out ?_;clear hK K hK0 K0 p0 p1 x0 x1;generalize rdoE w5 w.heap.size r q2 q3=w9 at *;refine RegJ.reads ?_;intro K hK;go_simp;refine ⟨_,fun _ _=>rfl,hK _ ?_⟩;clear hK K;refine RegJ.nil ?_;go_wp2_with fail;obtain ⟨r0,r1,r2,r3⟩:=HE.out.1.cells;obtain ⟨p0,p1⟩:=HE.out.2.1.cells;refine bodyPost_ret (v:=.tuple #[.agg #[.slice r.A r.n r.c,.int .u8 (r.all:Int),.int .u8 (r.mem:Int),.slice r.B r.k r.d],.agg #[.int .u8 (q2:Int),.string q3],.bool false]) (by simp [results,Tryz.results46,go_sem,r0,r1,r2,r3,p0,p1] <;> rfl) rfl ?_;exact ⟨r,z,rfl,H.out.below HE.out.2.2,by omega,HE.out.2.2⟩
theorem layRef (ρ:Operand→Value) (x:World) (o:Oper) (h:o.op=.alloc 43):(execOp ρ o).run Tryz.prog x=.ok (.value (RegL.ptr x.heap.size)) (x.alloc (.cells (refCells refNone).toArray 43 (0,0))):=by
 simp only [execOp,h];go_simp;exact ⟨rfl,rfl⟩
theorem RefAt.row {w:World} {r:RefM} {M:MacV} {z:List KeptV} {g:Nat} {r0:RefM} (h:RefAt w r M z) (hg:RefRow w g r0) (x:RefM):RefAt (rowSt w g 0 (refCells x)) r M z :=
 h.stay (rowSt_below (Nat.zero_le _) (refCells x) 0 _ (Below.refl 0 w)).size (fun b o e=>rowSt_other ((h.ne hg).1 b o e) _ _ _) (fun b o e=>rowSt_other ((h.ne hg).2 b o e) _ _ _)
theorem RefAt.repSt {w:World} {r:RefM} {M:MacV} {z:List KeptV} {g c0:Nat} {t0:ByteArray} (h:RefAt w r M z) (hg:RepAt w g c0 t0) (code:Nat) (text:ByteArray):RefAt (repSt w g code text) r M z :=
 h.stay (repSt_size _ _ _ _) (fun b o e=>repSt_other _ ((h.ne2 hg).1 b o e) _ _) (fun b o e=>repSt_other _ ((h.ne2 hg).2 b o e) _ _)
def ref0 (M:MacV):RefM:=⟨none,0,0,M.all,M.mem,none,0,0⟩
theorem refAt0 (M:MacV) (ht:M.tab=tabNone) (hs:M.sh=.nil) (w:World):RefAt w (ref0 M) M [] :=
 ⟨by rw [hs];exact pairs_none,⟨rfl,Nat.zero_le _,fun i x hx=>by simp at hx⟩,rfl,rfl,by rw [ht];exact keptTab_nil,.inl ⟨rfl,rfl,rfl⟩,sty_none _ _,by rw [hs];exact List.Pairwise.nil,fun _=>⟨rfl,rfl⟩,sty_none _ _⟩
theorem rdir_eq (x:Nat) (hx:x<256):dirOk (UInt8.ofNat x)=(decide (x<128) && decide (0<x)):=by
 have e:(UInt8.ofNat x).toNat=x:=by simp;omega
 unfold dirOk;rw [e,Bool.and_comm]
set_option maxHeartbeats 4000000 in
theorem rdir_any (x:Nat) (hx:x<256) (w:World):Calls Tryz.prog 75 #[.int .u8 (x:Int)] w fun e w'=>e=.returned (.bool (dirOk (UInt8.ofNat x)))∧w'=w:=by
 rw [rdir_eq x hx];clear hx;by_cases h1:x<128
 ·
  have h1':(x:Int)<128:=by omega
  rw [decide_eq_true h1,Bool.true_and];clear h1;go_enter Tryz.func75,Tryz.ntmps75
  go_wp2_with fail;go_ret;exact ⟨rfl,rfl⟩
 ·
  have h1' : ¬ (x:Int)<128:=by omega
  rw [decide_eq_false h1,Bool.false_and];clear h1;go_enter Tryz.func75,Tryz.ntmps75
  go_wp2_with fail;go_ret;exact ⟨rfl,rfl⟩
theorem row2_loadVar {y:World} {g:Nat} {a b:Value} (h:y.heap[g]?=some (.cells #[a,b] 46 (0,0))):(loadVar 46 ⟨g,0,none⟩).run Tryz.prog y=.ok (.agg #[a,b]) y :=
 run_loadVar_row y g _ _ #[a,b] (0,0) _ h Tryz.underlying46 rfl (by kernel_rfl)
set_option maxHeartbeats 8000000 in
theorem rnew_any (x:Nat) (hx:x<256) (hok:dirOk (UInt8.ofNat x)=true) (w:World):Calls Tryz.prog 38 #[.int .u8 (x:Int)] w fun e w'=>∃ v,e=.returned (.tuple #[.agg #[.int .u64 0,v],.int .i64 0])∧OwnB w' w.heap.size 5 v [UInt8.ofNat x]∧Below w.heap.size w w':=by
 have hd:=fun y:World=>rdir_any x hx y
 rw [hok] at hd;have Hd:=Lib.hid hd;clear hd hok
 have hb1:=(Below.refl w.heap.size w).alloc (Nat.le_refl _) (.cells #[.int .u64 0,.slice none 0 0] 46);have hr1:=heap_alloc_new w (.cells #[.int .u64 0,.slice none 0 0] 46);go_enter Tryz.func38,Tryz.ntmps38
 go_upto_region 3 with ((with_reducible refine (Hd.out _).mono ?_);rintro e w2 ⟨rfl,rfl⟩)
 have Hr1:=Lib.hid hr1;have Hb1:=Lib.hid hb1;have Hlt:=Lib.hid (show w.heap.size<(w.alloc (.cells #[.int .u64 0,.slice none 0 0] 46)).heap.size by simp);clear hr1 hb1 Hd;generalize w.alloc (.cells #[.int .u64 0,.slice none 0 0] 46)=w1 at *;have hone:=OwnB.one w1 (UInt8.ofNat x) 5;have hx8:((UInt8.ofNat x).toNat:Int)=(x:Int):=by simp;omega
 rw [hx8] at hone;have hb2:=(Below.refl w1.heap.size w1).alloc (Nat.le_refl _) (.cells #[.int .u8 (x:Int)] 5);have hr2:=(hb2.block _ Hlt.out).trans Hr1.out;have f0:=cell_of_row _ _ 0 _ _ _ hr2;have f1:=cell_of_row _ _ 1 _ _ _ hr2;have e0:=thawed_row 0 hr2;have e1:=thawed_row 1 hr2;have Hr2:=Lib.hid hr2;have Hone:=Lib.hid hone;have Hb2:=Lib.hid (Hb1.out.trans (hb2.mono Hb1.out.size));have Hsz:=Lib.hid Hb1.out.size;clear hr2 hone hb2 hx8;go_wp2_with fail;generalize w1.alloc (.cells #[.int .u8 (x:Int)] 5)=w4 at *
 have hne:∀ k,(Value.slice (some ⟨w1.heap.size,0,none⟩) 1 1).ownBlock=some k→k≠w.heap.size:=by
  intro k hk e;have e2:w1.heap.size=k:=Option.some.inj hk;have:=Hlt.out;omega
 have HZ:=Lib.hid (show ((w4.setCell ⟨w.heap.size,0,none⟩ (.int .u64 0)).setCell ⟨w.heap.size,1,none⟩ (.slice (some ⟨w1.heap.size,0,none⟩) 1 1)).heap[w.heap.size]?=some (.cells #[.int .u64 0,.slice (some ⟨w1.heap.size,0,none⟩) 1 1] 46 (0,0)) by
  rw [heap_setCell_same _ _ _ _ _ _ (heap_setCell_same _ _ _ _ _ _ Hr2.out)];rfl)
 refine bodyPost_ret (v:=.tuple #[.agg #[.int .u64 0,.slice (some ⟨w1.heap.size,0,none⟩) 1 1],.int .i64 0]) (by simp [results,Tryz.results38,show (asAddr (Value.pointer (some ⟨w.heap.size,0,none⟩))).run Tryz.prog ((w4.setCell ⟨w.heap.size,0,none⟩ (.int .u64 0)).setCell ⟨w.heap.size,1,none⟩ (.slice (some ⟨w1.heap.size,0,none⟩) 1 1))=.ok ⟨w.heap.size,0,none⟩ _ from rfl,row2_loadVar HZ.out]) rfl ?_;exact ⟨_,rfl,((Hone.out.mono Hsz.out).setNe hne).setNe hne,below_setV (below_setV Hb2.out (Nat.le_refl _)) (Nat.le_refl _)⟩
theorem st_eq {g:Nat}:∀ (vs:List Value) (i:Nat) (y:World),y.setCells g i vs=rowSt y g i vs
 | [],_,_=>rfl
 | _::r,i,_=>st_eq r (i+1) _
theorem range_row {y:World} {g:Nat} {cs:List Value} {t:TypeId} (h:y.heap[g]?=some (.cells cs.toArray t (0,0))):y.rangeAt g 0 cs:=fun j v hv=>by
 rw [Nat.zero_add];simp only [World.cell?,h];simpa using hv
theorem there_row {y:World} {g:Nat} {cs:List Value} {t:TypeId} (h:y.heap[g]?=some (.cells cs.toArray t (0,0))):y.there g 0 cs.length:=fun j hj=>⟨by
 rw [Nat.zero_add];simp only [World.cell?,h];simp [hj],by
 rw [Nat.zero_add];unfold World.frozen?;rw [h];rfl⟩
theorem row_loadAt {P:Program} {y:World} {g:Nat} {cs:List Value} {t:TypeId} {d:TypeDesc} (h:y.heap[g]?=some (.cells cs.toArray t (0,0))) (hu:P.underlying t=some d) (hd:d.isRow=true) (hs:(P.info? t).map (·.size)=some cs.length) :
  (Instr.loadAt t (.pointer (some ⟨g,0,none⟩))).run P y=.ok (.agg cs.toArray) y:=run_loadAt_mid y g 0 t cs d (range_row h) hu hd hs
theorem mid_row {g:Nat} {t:TypeId}:∀ (vs pre old post:List Value) (y:World),y.heap[g]?=some (.cells (pre++old++post).toArray t (0,0))→old.length=vs.length→(rowSt y g pre.length vs).heap[g]?=some (.cells (pre++vs++post).toArray t (0,0))
 | [],pre,old,post,y,h,hl=>by
  have:old=[]:=List.length_eq_zero_iff.1 hl;subst this;exact h
 | v::r,pre,[],post,y,h,hl=>by simp at hl
 | v::r,pre,o::old,post,y,h,hl=>by
  have e:=mid_row r (pre++[v]) old post (y.setCell ⟨g,pre.length,none⟩ v) (by
   rw [heap_setCell_same _ _ _ _ _ _ h];congr 2
   simp) (by simpa using hl)
  rw [List.length_append,List.length_singleton] at e;show (rowSt (y.setCell ⟨g,pre.length,none⟩ v) g (pre.length+1) r).heap[g]?=_;rw [e];simp
theorem mid_loadAt {P:Program} {y:World} {g:Nat} {pre cs post:List Value} {t e:TypeId} {d:TypeDesc} (h:y.heap[g]?=some (.cells (pre++cs++post).toArray t (0,0))) (hu:P.underlying e=some d) (hd:d.isRow=true) (hs:(P.info? e).map (·.size)=some cs.length) :
  (Instr.loadAt e (.pointer (some ⟨g,pre.length,none⟩))).run P y=.ok (.agg cs.toArray) y :=
 run_loadAt_mid y g pre.length e cs d (fun j v hv=>by
  have k:=range_row h (pre.length+j) v (by
   rw [List.append_assoc,List.getElem?_append_right (by omega),Nat.add_sub_cancel_left,List.getElem?_append_left (List.getElem?_eq_some_iff.1 hv).1];exact hv)
  rwa [Nat.zero_add] at k) hu hd hs
theorem exec_load {P:Program} {ρ:Operand→Value} {o:Oper} {t:TypeId} {a:Operand} (h:o.op=.load t a) {p:Value} (ha:ρ a=p) {y:World} {V:Value} (hr:(Instr.loadAt t p).run P y=.ok V y):(execOp ρ o).run P y=.ok (.value V) y:=by
 simp only [execOp,h,ha,Sem.run_bind,hr,Result.andThen_ok,Sem.run_pure]
theorem box_row (y:World) (cs0 cs:List Value) (t:TypeId) (hl:cs0.length=cs.length):((y.alloc (.cells cs0.toArray t)).setCells y.heap.size 0 cs).heap[y.heap.size]?=some (.cells cs.toArray t (0,0)):=by
 rw [st_eq];exact rowSt_row cs [] cs0 _ (heap_alloc_new _ _) hl
theorem box_below (y:World) (cs0 cs:List Value) (t:TypeId):Below y.heap.size y ((y.alloc (.cells cs0.toArray t)).setCells y.heap.size 0 cs):=by
 rw [st_eq];exact rowSt_below (Nat.le_refl _) cs 0 _ ((Below.refl _ _).alloc (Nat.le_refl _) _)
def enc1 (b:UInt8):List Value:=[.int .u8 (b.toNat:Int)]
theorem enc1_len (b:UInt8):(enc1 b).length=1:=rfl
theorem enc1_one (b:UInt8):∀ u ∈ enc1 b,u.oneCell'=true:=by simp [enc1,Value.oneCell']
theorem flat1:∀ l:List UInt8,flat enc1 l=bcells l
 | []=>rfl
 | b::r=>by
  have h:=flat1 r;unfold flat bcells at *
  rw [List.flatMap_cons,h];rfl
theorem own_slice1 {w:World} {base:Nat} {t:TypeId} {A:Option Addr} {n c:Nat} {l:List UInt8} (h:OwnB w base t (.slice A n c) l) (hm:n≤maxLen):SliceAt 1 enc1 w A n l∧(A=none→n=0∧c=0):=by
 have hn:=h.len;subst hn;have h2:w.ownsRow base t 1 (.slice A l.length c) l.length (flat enc1 l):=by rw [flat1];exact h
 exact ⟨own_slice enc1_len h2 rfl hm,own_nil h2⟩
theorem rc_size:(Tryz.prog.info? 46).map (·.size)=some 2:=by kernel_rfl
set_option maxHeartbeats 4000000 in
theorem rtop_any (D:List UInt8) (v:Value) (hD:0<D.length) (hl:D.length≤1000000) (base:Nat) (w:World) (h:OwnB w base 5 v D) :
  Calls Tryz.prog 59 #[.agg #[.int .u64 0,v]] w fun e w'=>e=.returned (.int .u64 ((D.length - 1:Nat):Int))∧Below w.heap.size w w':=by
 obtain ⟨a,n,c,rfl⟩:=h.read.slice;have hn:=h.len;have hb1:=(Below.refl w.heap.size w).alloc (Nat.le_refl _) (.cells #[.int .u64 0,.slice a n c] 46);have hw1:IntKind.u64.wrap (n:Int)=(n:Int):=by rw [IntKind.wrap_u64];omega
 have hw3:IntKind.u64.wrap ((n:Int) - 1)=((D.length - 1:Nat):Int):=by rw [IntKind.wrap_u64];omega
 have Hb1:=Lib.hid hb1;clear hb1 hn hD hl h;go_enter Tryz.func59,Tryz.ntmps59
 go_wp2_with fail;go_ret;exact ⟨rfl,Hb1.out⟩
structure PuC (w:World) (g:Nat) (v:Value) (y:World):Prop where
 bel:Below w.heap.size w y
 row:y.heap[g]?=some (.cells #[.int .u64 0,v] 46 (0,0))
 res:∃ p q,y.heap[g+1]?=some (.cells #[p,q] 46 (0,0))
theorem PuC.below {w y y':World} {g:Nat} {v:Value} (h:PuC w g v y) (hb:Below y.heap.size y y'):PuC w g v y' :=
 ⟨h.bel.trans (hb.mono h.bel.size),(hb.block _ (Array.getElem?_eq_some_iff.1 h.row).1).trans h.row,by obtain ⟨p,q,e⟩:=h.res;exact ⟨p,q,(hb.block _ (Array.getElem?_eq_some_iff.1 e).1).trans e⟩⟩
theorem own_ne1 {w:World} {base p:Nat} {v:Value} {l:List UInt8} {cs:Array Value} (ho:OwnB w base 5 v l) (hr:w.heap[p]?=some (.cells cs 46 (0,0))):∀ k,v.ownBlock=some k→k≠p:=by
 rintro k hk rfl;rcases ho.2 with ⟨rfl,_⟩ | ⟨g,cap,cur,rfl,_,hg,_⟩
 ·
  cases hk
 ·
  have e:g=k:=Option.some.inj hk;subst e;rw [hr] at hg;simp at hg
theorem rpush_any (D:List UInt8) (v:Value) (x:Nat) (hx:x<256) (hok:dirOk (UInt8.ofNat x)=true) (hD:0<D.length) (hl:D.length≤1000000) (base:Nat) (w:World) (h:OwnB w base 5 v D) :
  Calls Tryz.prog 47 #[.agg #[.int .u64 0,v],.int .u8 (x:Int)] w fun e w'=>∃ v',e=.returned (.tuple #[.agg #[.int .u64 0,v'],.int .i64 0])∧OwnB w' w.heap.size 5 v' (D++[UInt8.ofNat x])∧Below w.heap.size w w':=by
 obtain ⟨i0,hi0,hz0,hs0,hb0⟩:=info_parts info8;have hd:=fun y:World=>rdir_any x hx y
 rw [hok] at hd;have ht:=fun (y:World) (hy:Below w.heap.size w y)=>rtop_any D v hD hl base y (h.below hy)
 obtain ⟨a,n,c,rfl⟩:=h.read.slice;have hn:=h.len;have hone:=fun y:World=>OwnB.one y (UInt8.ofNat x) 5
 have hx8:((UInt8.ofNat x).toNat:Int)=(x:Int):=by simp;omega
 rw [hx8] at hone;have Hone:=Lib.hid hone;have Hv:=Lib.hid h;have Hd:=Lib.hid hd;have Ht:=Lib.hid ht;have hge:((4611686018427387904:Int)≤((D.length - 1:Nat):Int))=False:=by rw [eq_iff_iff,iff_false];omega
 have hnl:n≤1000000:=by omega
 have Hn:=Lib.hid (And.intro hn hnl);clear hone hx8 hd ht hn hD hl h hnl hok;generalize hT:D.length - 1=T at *
 clear hT;obtain ⟨g,hg⟩:∃ g,w.heap.size=g:=⟨_,rfl⟩;have hb1:=(Below.refl w.heap.size w).alloc (Nat.le_refl _) (.cells #[.int .u64 0,.slice a n c] 46);have hb2:=hb1.alloc hb1.size (.cells #[.int .u64 0,.slice none 0 0] 46);have hr1:=heap_alloc_new w (.cells #[.int .u64 0,.slice a n c] 46);have hr2:=heap_alloc_new (w.alloc (.cells #[.int .u64 0,.slice a n c] 46)) (.cells #[.int .u64 0,.slice none 0 0] 46);have hr1b:=(((Below.refl (w.heap.size+1) (w.alloc (.cells #[.int .u64 0,.slice a n c] 46))).alloc (by simp) (.cells #[.int .u64 0,.slice none 0 0] 46)).block w.heap.size (by omega)).trans hr1;rw [World.size_alloc] at hr2;have hc0:PuC w w.heap.size (.slice a n c) ((w.alloc (.cells #[.int .u64 0,.slice a n c] 46)).alloc (.cells #[.int .u64 0,.slice none 0 0] 46)):=⟨hb2,hr1b,⟨_,_,hr2⟩⟩;rw [hg] at hc0;have Hc0:=Lib.hid hc0;clear hb1 hb2 hr1 hr2 hr1b hc0;go_enter Tryz.func47,Tryz.ntmps47
 go_upto_region 1 with fail;change Code.wp _ _ _ _ ((w.alloc (.cells #[.int .u64 0,.slice a n c] 46)).alloc (.cells #[.int .u64 0,.slice none 0 0] 46));generalize (w.alloc (.cells #[.int .u64 0,.slice a n c] 46)).alloc (.cells #[.int .u64 0,.slice none 0 0] 46)=w1 at *;have Hg:=Lib.hid hg;have f0:=cell_of_row _ _ 0 _ _ _ Hc0.out.row;have f1:=cell_of_row _ _ 1 _ _ _ Hc0.out.row;go_upto_region 5 with (first
  | ((with_reducible refine (Hd.out _).mono ?_);rintro e w2 ⟨rfl,rfl⟩)
  | ((with_reducible refine (Ht.out _ Hc0.out.bel).mono ?_);rintro e w3 ⟨rfl,h3⟩;have H3:=Lib.hid h3;clear h3))
 have Hc3:=Lib.hid (Hc0.out.below H3.out);clear f0 f1 H3 Hc0 hg;refine (wpIn_wide (n:=1)).1 ?_;refine RegJ.wpIn_region_plan (F:=Fence.wide) (PuC w g (.slice a n c)) (.step 0 0 (.step 1 0 (.step 2 0 (.step 3 0 (.step 5 0 (.fork 4 (.step 6 1 (.step 7 1 (.step 8 0 (.step 9 1 (.step 10 0 .nil))))) 6 (.step 4 1 (.step 7 1 (.step 8 0 (.step 9 1 (.step 10 0 .nil))))))))))) (by kernel_rfl) (by kernel_rfl) (by kernel_rfl) (fun _ _ d _ _ h=>by cases d <;> exact h) (Hc3.out.below ⟨rfl,rfl,rfl,Nat.le_refl _,fun _ _=>rfl⟩) ?_;dsimp only [RegJ.pickJ,List.getElem?_cons_zero,List.getElem?_cons_succ];change RegJ.Can _ _ _ _ _ _ _ _ w3.drew;have hkd:PuC w g (.slice a n c) w3.drew:=Hc3.out.below ⟨rfl,rfl,rfl,Nat.le_refl _,fun _ _=>rfl⟩;generalize w3.drew=w4 at *;refine RegJ.reads ?_;intro K hK;go_simp;refine ⟨_,fun _ _=>rfl,hK _ ?_⟩;clear hK K;refine RegJ.reads ?_;intro K hK;go_simp;refine ⟨.int .u64 0,fun y hy=>?_,hK _ ?_⟩
 ·
  have f0:=cell_of_row _ _ 0 _ _ _ hy.row;go_simp
 clear hK K;refine RegJ.reads ?_;intro K hK;go_simp;refine ⟨_,fun _ _=>rfl,hK _ ?_⟩;clear hK K;refine RegJ.reads ?_;intro K hK;go_simp;refine ⟨.slice a n c,fun y hy=>?_,hK _ ?_⟩
 ·
  have f0:=cell_of_row _ _ 1 _ _ _ hy.row;go_simp
 clear hK K;refine RegJ.reads ?_;intro K hK;go_simp;refine ⟨_,fun _ _=>rfl,hK _ ?_⟩;clear hK K;refine RegJ.forks ?_ ?_
 ·
  skip
  refine RegJ.turns (fun _=>trivial) ?_;intro K K0 hK hK0;rw [if_pos (by simp [Region.wanted])];refine RegK.op_wide rfl ?_;obtain ⟨hsl,hnil⟩:=own_slice1 (Hv.out.below hkd.bel) (by unfold maxLen;have:=Hn.out.2;omega);refine wp_append_slice (k:=1) (enc:=enc1) _ _ 44 rfl w.heap.size 5 i0 _ 1 Tryz.underlying44 hi0 hz0 hs0 hb0 rfl (by omega) enc1_len enc1_one (.slice none 0 0) 0 [] rfl (World.ownsRow_nil _ _ _ _) a n c D rfl hsl hnil (by unfold maxLen;have:=Hn.out.2;omega) (by have:=Hn.out.2;omega) hkd.bel.size ?_;intro v5 w5 ho5 hg5;have hb5:Below w4.heap.size w4 w5:=⟨hg5.os,hg5.tape,hg5.output,hg5.size,fun q hq=>hg5.block q hq (fun e=>by cases e)⟩;have hk5:=hkd.below hb5;refine hK _ _ _ (fun _ h=>h) hk5 ?_;clear hK K hK0 K0 hg5 hsl hnil;rw [Nat.zero_add,List.nil_append] at ho5;refine RegJ.turns (fun _=>trivial) ?_;intro K K0 hK hK0;go_simp;have hb6:=(Below.refl w5.heap.size w5).alloc (Nat.le_refl _) (.cells #[.int .u8 (x:Int)] 5);have qk:=hk5.below hb6;have qn:=Hone.out w5;have hq6:=qn;have ho6:=(show w5.ownsRow w.heap.size 5 1 v5 n (flat enc1 D) from ho5).alloc (.cells #[.int .u8 (x:Int)] 5);have hk6:=qk;refine hK _ _ (w5.alloc (.cells #[.int .u8 (x:Int)] 5)) (fun _ h=>h) qk ?_;clear hK K hK0 K0;generalize w5.alloc (.cells #[.int .u8 (x:Int)] 5)=w6 at *
  generalize w5.heap.size=g5 at *;obtain ⟨hs6,hn6⟩:=own_slice1 hq6 (by unfold maxLen;omega);refine RegJ.turns (fun _=>trivial) ?_;intro K K0 hK hK0;rw [if_pos (by simp [Region.wanted])];refine RegK.op_wide rfl ?_;refine wp_append_slice (k:=1) (enc:=enc1) _ _ 44 rfl w.heap.size 5 i0 _ 1 Tryz.underlying44 hi0 hz0 hs0 hb0 rfl (by omega) enc1_len enc1_one v5 n (flat enc1 D) rfl ho6 (some ⟨g5,0,none⟩) 1 1 [UInt8.ofNat x] rfl hs6 hn6 (by unfold maxLen;have:=Hn.out.2;omega) (by have:=Hn.out.2;omega) hk6.bel.size ?_;intro v7 w7 ho7 hg7;have hv5:∀ q,v5.ownBlock=some q→g≤q:=fun q hq=>by have:=(World.ownsRow.lt ho6 q hq).1;rw [Hg.out] at this;exact this
  have hk7:Below w.heap.size w w7:=hk6.bel.trans ⟨hg7.os,hg7.tape,hg7.output,hg7.size,fun q hq=>hg7.block q (Nat.lt_of_lt_of_le hq hk6.bel.size) (fun e=>by have:=hv5 q e.symm;rw [Hg.out] at hq;omega)⟩;have hne:∀ q,v5.ownBlock=some q→q≠g∧q≠g+1:=fun q hq=>by
   rcases ho6.2 with ⟨e1,_⟩ | ⟨q1,c1,u1,e1,_,hh,_⟩
   ·
    rw [e1] at hq;cases hq
   ·
    rw [e1] at hq;have e2:q1=q:=Option.some.inj hq;subst e2;refine ⟨fun e=>?_,fun e=>?_⟩
    ·
     subst e;rw [hk6.row] at hh;simp at hh
    ·
     subst e;obtain ⟨_,_,he⟩:=hk6.res;rw [he] at hh;simp at hh
  have hk8:PuC w g (.slice a n c) w7:=⟨hk7,(hg7.block g (Array.getElem?_eq_some_iff.1 hk6.row).1 (fun e=>(hne g e.symm).1 rfl)).trans hk6.row,by obtain ⟨p,q,e⟩:=hk6.res;exact ⟨p,q,(hg7.block (g+1) (Array.getElem?_eq_some_iff.1 e).1 (fun e=>(hne (g+1) e.symm).2 rfl)).trans e⟩⟩;refine hK _ _ _ (fun _ h=>h) hk8 ?_;clear hK K hK0 K0;have ho8:OwnB w7 w.heap.size 5 v7 (D++[UInt8.ofNat x]):=OwnB.of ho7 (by have:=Hn.out.1;simp;omega) (by rw [flat1,flat1]);obtain ⟨a7,n7,c7,rfl⟩:=ho8.read.slice;have HF:=Lib.hid (And.intro ho8 hk8);clear ho7 ho8 hk7 hk8 hg7 hv5 hne hk6 ho6 hs6 hn6 hq6;refine RegJ.reads ?_;intro K hK;go_simp;refine ⟨_,fun _ _=>rfl,hK _ ?_⟩;clear hK K;obtain ⟨p,q,hres⟩:=HF.out.2.res;have f0:=cell_of_row _ _ 0 _ _ _ hres;have f1:=cell_of_row _ _ 1 _ _ _ hres;have e0:=thawed_row 0 hres;have e1:=thawed_row 1 hres;have hz:=rowSt_row [.int .u64 0,.slice a7 n7 c7] [] [p,q] w7 hres rfl;have hb9:=rowSt_below (w0:=w) (n:=w.heap.size) (g:=g+1) (by rw [Hg.out];omega) [.int .u64 0,.slice a7 n7 c7] 0 _ HF.out.2.bel;have ho9:OwnB (rowSt w7 (g+1) 0 [.int .u64 0,.slice a7 n7 c7]) w.heap.size 5 (.slice a7 n7 c7) (D++[UInt8.ofNat x]):=(HF.out.1.setNe (own_ne1 HF.out.1 hres)).setNe (own_ne1 HF.out.1 hres);have hr9:=(rowSt_other (g:=g+1) (y:=w7) (show g≠g+1 by omega) [.int .u64 0,.slice a7 n7 c7] 0).trans HF.out.2.row;have HZ:=Lib.hid hz;have HE:=Lib.hid (And.intro hb9 (And.intro ho9 hr9));clear hz hb9 ho9 hr9 hres;refine RegJ.turns (fun _=>trivial) ?_;intro K K0 hK hK0;go_simp;refine hK (PuC w g (.slice a n c)) _ (rowSt w7 (g+1) 0 [.int .u64 0,.slice a7 n7 c7]) (fun _ h=>h) ⟨HE.out.1,HE.out.2.2,⟨_,_,HZ.out⟩⟩ ?_;clear hK K hK0 K0 f0 f1 e0 e1;generalize rowSt w7 (g+1) 0 [.int .u64 0,.slice a7 n7 c7]=w9 at *;refine RegJ.reads ?_;intro K hK;go_simp;refine ⟨_,fun _ _=>rfl,hK _ ?_⟩;clear hK K;refine RegJ.nil ?_;go_wp2_with fail;refine bodyPost_ret (v:=.tuple #[.agg #[.int .u64 0,.slice a7 n7 c7],.int .i64 0]) (by simp [results,Tryz.results47,show (asAddr (Value.pointer (some ⟨g+1,0,none⟩))).run Tryz.prog w9=.ok ⟨g+1,0,none⟩ w9 from rfl,row2_loadVar HZ.out]) rfl ?_;exact ⟨_,rfl,HE.out.2.1,HE.out.1⟩
 ·
  skip
  refine RegJ.turns (fun _=>trivial) ?_;intro K K0 hK hK0;go_simp;have hb6:=(Below.refl w4.heap.size w4).alloc (Nat.le_refl _) (.cells #[.int .u8 (x:Int)] 5);have qk:=hkd.below hb6;have qn:=Hone.out w4;refine hK _ _ (w4.alloc (.cells #[.int .u8 (x:Int)] 5)) (fun _ h=>h) qk ?_;clear hK K hK0 K0;generalize w4.alloc (.cells #[.int .u8 (x:Int)] 5)=wq at *
  generalize w4.heap.size=g5 at *;refine RegJ.turns (fun _=>trivial) ?_;intro K K0 hK hK0;rw [if_pos (by simp [Region.wanted])];refine RegK.op_wide rfl ?_;obtain ⟨hsl,hnil⟩:=own_slice1 (Hv.out.below qk.bel) (by unfold maxLen;have:=Hn.out.2;omega);refine wp_append_slice (k:=1) (enc:=enc1) _ _ 44 rfl w.heap.size 5 i0 _ 1 Tryz.underlying44 hi0 hz0 hs0 hb0 rfl (by omega) enc1_len enc1_one (.slice none 0 0) 0 [] rfl (World.ownsRow_nil _ _ _ _) a n c D rfl hsl hnil (by unfold maxLen;have:=Hn.out.2;omega) (by have:=Hn.out.2;omega) qk.bel.size ?_;intro v5 w6 ho5 hg5;have hb5:Below wq.heap.size wq w6:=⟨hg5.os,hg5.tape,hg5.output,hg5.size,fun q hq=>hg5.block q hq (fun e=>by cases e)⟩;have hk5:=qk.below hb5;refine hK _ _ _ (fun _ h=>h) hk5 ?_;clear hK K hK0 K0 hg5 hsl hnil;rw [Nat.zero_add,List.nil_append] at ho5;have hq6:=qn.below hb5;have ho6:=ho5;have hk6:=hk5;obtain ⟨hs6,hn6⟩:=own_slice1 hq6 (by unfold maxLen;omega);refine RegJ.turns (fun _=>trivial) ?_;intro K K0 hK hK0;rw [if_pos (by simp [Region.wanted])];refine RegK.op_wide rfl ?_;refine wp_append_slice (k:=1) (enc:=enc1) _ _ 44 rfl w.heap.size 5 i0 _ 1 Tryz.underlying44 hi0 hz0 hs0 hb0 rfl (by omega) enc1_len enc1_one v5 n (flat enc1 D) rfl ho6 (some ⟨g5,0,none⟩) 1 1 [UInt8.ofNat x] rfl hs6 hn6 (by unfold maxLen;have:=Hn.out.2;omega) (by have:=Hn.out.2;omega) hk6.bel.size ?_;intro v7 w7 ho7 hg7;have hv5:∀ q,v5.ownBlock=some q→g≤q:=fun q hq=>by have:=(World.ownsRow.lt ho6 q hq).1;rw [Hg.out] at this;exact this
  have hk7:Below w.heap.size w w7:=hk6.bel.trans ⟨hg7.os,hg7.tape,hg7.output,hg7.size,fun q hq=>hg7.block q (Nat.lt_of_lt_of_le hq hk6.bel.size) (fun e=>by have:=hv5 q e.symm;rw [Hg.out] at hq;omega)⟩;have hne:∀ q,v5.ownBlock=some q→q≠g∧q≠g+1:=fun q hq=>by
   rcases ho6.2 with ⟨e1,_⟩ | ⟨q1,c1,u1,e1,_,hh,_⟩
   ·
    rw [e1] at hq;cases hq
   ·
    rw [e1] at hq;have e2:q1=q:=Option.some.inj hq;subst e2;refine ⟨fun e=>?_,fun e=>?_⟩
    ·
     subst e;rw [hk6.row] at hh;simp at hh
    ·
     subst e;obtain ⟨_,_,he⟩:=hk6.res;rw [he] at hh;simp at hh
  have hk8:PuC w g (.slice a n c) w7:=⟨hk7,(hg7.block g (Array.getElem?_eq_some_iff.1 hk6.row).1 (fun e=>(hne g e.symm).1 rfl)).trans hk6.row,by obtain ⟨p,q,e⟩:=hk6.res;exact ⟨p,q,(hg7.block (g+1) (Array.getElem?_eq_some_iff.1 e).1 (fun e=>(hne (g+1) e.symm).2 rfl)).trans e⟩⟩;refine hK _ _ _ (fun _ h=>h) hk8 ?_;clear hK K hK0 K0;have ho8:OwnB w7 w.heap.size 5 v7 (D++[UInt8.ofNat x]):=OwnB.of ho7 (by have:=Hn.out.1;simp;omega) (by rw [flat1,flat1]);obtain ⟨a7,n7,c7,rfl⟩:=ho8.read.slice;have HF:=Lib.hid (And.intro ho8 hk8);clear ho7 ho8 hk7 hk8 hg7 hv5 hne hk6 ho6 hs6 hn6 hq6;refine RegJ.reads ?_;intro K hK;go_simp;refine ⟨_,fun _ _=>rfl,hK _ ?_⟩;clear hK K;obtain ⟨p,q,hres⟩:=HF.out.2.res;have f0:=cell_of_row _ _ 0 _ _ _ hres;have f1:=cell_of_row _ _ 1 _ _ _ hres;have e0:=thawed_row 0 hres;have e1:=thawed_row 1 hres;have hz:=rowSt_row [.int .u64 0,.slice a7 n7 c7] [] [p,q] w7 hres rfl;have hb9:=rowSt_below (w0:=w) (n:=w.heap.size) (g:=g+1) (by rw [Hg.out];omega) [.int .u64 0,.slice a7 n7 c7] 0 _ HF.out.2.bel;have ho9:OwnB (rowSt w7 (g+1) 0 [.int .u64 0,.slice a7 n7 c7]) w.heap.size 5 (.slice a7 n7 c7) (D++[UInt8.ofNat x]):=(HF.out.1.setNe (own_ne1 HF.out.1 hres)).setNe (own_ne1 HF.out.1 hres);have hr9:=(rowSt_other (g:=g+1) (y:=w7) (show g≠g+1 by omega) [.int .u64 0,.slice a7 n7 c7] 0).trans HF.out.2.row;have HZ:=Lib.hid hz;have HE:=Lib.hid (And.intro hb9 (And.intro ho9 hr9));clear hz hb9 ho9 hr9 hres;refine RegJ.turns (fun _=>trivial) ?_;intro K K0 hK hK0;go_simp;refine hK (PuC w g (.slice a n c)) _ (rowSt w7 (g+1) 0 [.int .u64 0,.slice a7 n7 c7]) (fun _ h=>h) ⟨HE.out.1,HE.out.2.2,⟨_,_,HZ.out⟩⟩ ?_;clear hK K hK0 K0 f0 f1 e0 e1;generalize rowSt w7 (g+1) 0 [.int .u64 0,.slice a7 n7 c7]=w9 at *;refine RegJ.reads ?_;intro K hK;go_simp;refine ⟨_,fun _ _=>rfl,hK _ ?_⟩;clear hK K;refine RegJ.nil ?_;go_wp2_with fail;refine bodyPost_ret (v:=.tuple #[.agg #[.int .u64 0,.slice a7 n7 c7],.int .i64 0]) (by simp [results,Tryz.results47,show (asAddr (Value.pointer (some ⟨g+1,0,none⟩))).run Tryz.prog w9=.ok ⟨g+1,0,none⟩ w9 from rfl,row2_loadVar HZ.out]) rfl ?_;exact ⟨_,rfl,HE.out.2.1,HE.out.1⟩
end Go.Proofs.YtbckjgageofldaaGreat
