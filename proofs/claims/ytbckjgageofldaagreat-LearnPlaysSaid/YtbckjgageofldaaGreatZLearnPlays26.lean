/- The document's Diff of two lists of pairs. Condition: at most 1000000 pairs each. -/
import Derived.Maps.AppendAt
import Derived.Test.YtbckjgageofldaaGreatZLearnPlays9
import Derived.Test.YtbckjgageofldaaGreatZLearnPlays11
import Derived.Deep.DeepCutAuto
import Derived.Test.YtbckjgageofldaaGreatZLearnPlays25
import Derived.Test.YtbckjgageofldaaGreatZLearnPlays23
set_option maxRecDepth 100000
namespace Go.Proofs.YtbckjgageofldaaGreat
open Go.RowKit
def chg5 (c:Chg):List Value:=[.string c.key,.string c.old,.string c.new,.bool c.had,.bool c.has]
def flat5 (L:List Chg):List Value:=L.flatMap chg5
theorem flat5_len (L:List Chg):(flat5 L).length=L.length*5:=by
 induction L with
 | nil=>rfl
 | cons a L ih=>simp only [flat5,List.flatMap_cons,List.length_append,List.length_cons] at ih ⊢; rw [ih];simp [chg5];omega
theorem flat5_at:∀ (l:List Chg) (i:Nat) (x:Chg) (j:Nat) (v:Value),l[i]?=some x→(chg5 x)[j]?=some v→(flat5 l)[i*5+j]?=some v
 | [],i,_,_,_,h,_=>by simp at h
 | a::l,0,x,j,v,h,hv=>by
  simp only [List.getElem?_cons_zero,Option.some.injEq] at h;subst h;have hj:j<(chg5 a).length:=(List.getElem?_eq_some_iff.1 hv).1;simp only [flat5,List.flatMap_cons,Nat.zero_mul,Nat.zero_add];rw [List.getElem?_append_left hj];exact hv
 | a::l,i+1,x,j,v,h,hv=>by
  have ih:=flat5_at l i x j v (by simpa using h) hv;have hl:(chg5 a).length=5:=rfl;simp only [flat5,List.flatMap_cons];rw [List.getElem?_append_right (by rw [hl];omega),hl,show (i+1)*5+j - 5=i*5+j by omega];exact ih
abbrev ChgsAt:=SliceAt 5 chg5
theorem info5:(Tryz.prog.info? 209).map (fun i=>(i.zero,i.size,i.bytes))=some (some (.agg #[.string ByteArray.empty,.string ByteArray.empty,.string ByteArray.empty,.bool false,.bool false]),5,56):=by kernel_rfl
theorem five_cells (w:World) (a b c d e:Value) (t:TypeId):∀ j u,([a,b,c,d,e]:List Value)[j]?=some u→(w.alloc (.cells #[a,b,c,d,e] t)).cell? (Addr.add ⟨w.heap.size,0,none⟩ j)=some u:=by
 intro j u hj;rw [WideShapes.add_plain];have h:=heap_alloc_new w (.cells #[a,b,c,d,e] t);have hj5:j<5:=by
  have:=(List.getElem?_eq_some_iff.1 hj).1;simpa using this
 match j,hj5 with
 | 0,_=>rw [cell_of_row _ _ _ _ _ _ h];simpa using hj
 | 1,_=>rw [cell_of_row _ _ _ _ _ _ h];simpa using hj
 | 2,_=>rw [cell_of_row _ _ _ _ _ _ h];simpa using hj
 | 3,_=>rw [cell_of_row _ _ _ _ _ _ h];simpa using hj
 | 4,_=>rw [cell_of_row _ _ _ _ _ _ h];simpa using hj
theorem drop_del {L M:Prs} {i k:Nat} (hi:i<L.length) (h:k=M.length∨(k<M.length∧slt (L.getD i pdflt).1 (M.getD k pdflt).1=true)) :
  diffL (L.drop i) (M.drop k)=cDel (L.getD i pdflt)::diffL (L.drop (i+1)) (M.drop k):=by
 rw [drop_pair hi];rcases h with rfl | ⟨hk,hs⟩
 ·
  rw [List.drop_length,diff_cons_nil]
 ·
  rw [drop_pair hk,diff_cons_cons,if_pos hs]
theorem drop_add {L M:Prs} {i k:Nat} (hk:k<M.length) (h:i=L.length∨(i<L.length∧slt (L.getD i pdflt).1 (M.getD k pdflt).1=false∧slt (M.getD k pdflt).1 (L.getD i pdflt).1=true)) :
  diffL (L.drop i) (M.drop k)=cAdd (M.getD k pdflt)::diffL (L.drop i) (M.drop (k+1)):=by
 rw [drop_pair hk];rcases h with rfl | ⟨hi,hs,ht⟩
 ·
  rw [List.drop_length,diff_nil_cons]
 ·
  rw [drop_pair hi,diff_cons_cons,if_neg (by rw [hs];exact Bool.false_ne_true),if_pos ht]
theorem drop_both {L M:Prs} {i k:Nat} (hi:i<L.length) (hk:k<M.length) (h1:slt (L.getD i pdflt).1 (M.getD k pdflt).1=false) (h2:slt (M.getD k pdflt).1 (L.getD i pdflt).1=false) :
  diffL (L.drop i) (M.drop k)=if (L.getD i pdflt).2=(M.getD k pdflt).2 then diffL (L.drop (i+1)) (M.drop (k+1)) else ⟨(L.getD i pdflt).1,(L.getD i pdflt).2,(M.getD k pdflt).2,true,true⟩::diffL (L.drop (i+1)) (M.drop (k+1)):=by
 rw [drop_pair hi,drop_pair hk,diff_cons_cons,if_neg (by rw [h1];exact Bool.false_ne_true),if_neg (by rw [h2];exact Bool.false_ne_true)]
theorem flat5_snoc (O:List Chg) (c:Chg):flat5 (O++[c])=flat5 O++chg5 c:=by simp [flat5]
theorem own_sl5 {w:World} {base:Nat} {e:TypeId} {size:Nat} {v:Value} {n:Nat} {xs:List Value} (h:w.ownsRow base e size v n xs):∃ A c,v=.slice A n c:=by
 rcases h.2 with ⟨rfl,e2⟩ | ⟨g,cap,cur,rfl,_⟩
 ·
  exact ⟨none,0,by subst e2;rfl⟩
 ·
  exact ⟨_,_,rfl⟩
theorem below_own5 {w0 w w':World} {t:TypeId} {size n:Nat} {v:Value} {xs:List Value} (h:Below w0.heap.size w0 w) (ho:w.ownsRow w0.heap.size t size v n xs) (hg:w.grownBy w' v.ownBlock):Below w0.heap.size w0 w' :=
 ⟨hg.os.trans h.os,hg.tape.trans h.tape,hg.output.trans h.output,Nat.le_trans h.size hg.size,fun q hq=>(hg.block q (Nat.lt_of_lt_of_le hq h.size) (fun e=>by have:=(ho.lt q e.symm).1;omega)).trans (h.block q hq)⟩
theorem ChgsAt.of_own {w:World} {base:Nat} {t:TypeId} {A:Option Addr} {n c:Nat} {l:List Chg} (h:w.ownsRow base t 5 (.slice A n c) n (flat5 l)):ChgsAt w A n l:=by
 have hl:l.length=n:=by have:=h.1;rw [flat5_len] at this;omega
 rcases h.2 with ⟨e1,e2⟩ | ⟨g,cap,cur,e1,h2,h3,h4,h5,_,_⟩
 ·
  subst e2;exact ⟨hl,Nat.zero_le _,fun i x hi=>by
   have:l=[]:=List.length_eq_zero_iff.1 hl;rw [this] at hi;simp at hi⟩
 ·
  simp only [Value.slice.injEq] at e1;obtain ⟨rfl,_,rfl⟩:=e1;refine ⟨hl,by omega,fun i x hi=>⟨g,0,rfl,(Array.getElem?_eq_some_iff.1 h3).1,fun j v hj=>?_⟩⟩;have:=h.cells (g:=g) rfl (i*5+j) v (flat5_at l i x j v hi hj);rw [WideShapes.add_plain] at this;exact this
structure DiffI (L M:Prs) (w0 wr:World) (i k r:Nat) (v:Value) (O:List Chg):Prop where
 own:wr.ownsRow w0.heap.size 209 5 v r (flat5 O)
 bel:Below w0.heap.size w0 wr
 eqn:O++diffL (L.drop i) (M.drop k)=diffL L M
 few:r≤i+k
set_option maxHeartbeats 4000000 in
theorem diff10_any (A B:Option Addr) (n c m d:Nat) (L M:Prs) (w:World) (hA:PairsAt w A n L) (hB:PairsAt w B m M) (hn:n≤1000000) (hm:m≤1000000) :
  Calls Tryz.prog 122 #[.slice A n c,.slice B m d] w fun e w'=>∃ C r g,e=.returned (.slice C r g)∧ChgsAt w' C r (diffL L M)∧Below w.heap.size w w':=by
 have HA:=Lib.hid hA;clear hA
 have HB:=Lib.hid hB;clear hB
 go_enter Tryz.func122,Tryz.ntmps122
 go_wp2_with fail;go_loopw [5,6,7] (fun s5 s6 s7 wr=>∃ i k r O,i≤n∧k≤m∧s6=.int .i64 (i:Int)∧s7=.int .i64 (k:Int)∧DiffI L M w wr i k r s5 O) (fun _ s6 s7 _=>(n - (intOf s6).toNat)+(m - (intOf s7).toNat))
 case atStart=>exact ⟨0,0,0,[],by omega,by omega,rfl,rfl,⟨World.ownsRow_nil _ _ _ _,Below.refl _ _,rfl,Nat.le_refl _⟩⟩
 case round =>
  obtain ⟨i,k,r,O,hi,hk,rfl,rfl,hI⟩:=hrel;obtain ⟨C,g,rfl⟩:=own_sl5 hI.own;have hlA:=HA.out.hlen;have hlB:=HB.out.hlen;have hAr:=HA.out.below hI.bel;have hBr:=HB.out.below hI.bel;have HI:=Lib.hid hI;clear hI
  obtain ⟨i0,hi0,hz0,hz1,hz2⟩:=info_parts info5;by_cases hkm:k<m
  ·
   have hkm':(k:Int)<(m:Int):=by omega
   have hke:((k:Int) == (m:Int))=false:=by simp;omega
   obtain ⟨b2,o2,rfl,hbl2,f0,f1⟩:=pairs_get hBr hkm;have hsucck:IntKind.i64.wrap ((k:Int)+1)=((k+1:Nat):Int):=by rw [IntKind.wrap_i64] <;> omega
   by_cases hin:i<n
   ·
    have hin':(i:Int)<(n:Int):=by omega
    have hie:((i:Int) == (n:Int))=false:=by simp;omega
    obtain ⟨b,o,rfl,hbl,e0,e1⟩:=pairs_get hAr hin;have hsucc:IntKind.i64.wrap ((i:Int)+1)=((i+1:Nat):Int):=by rw [IntKind.wrap_i64] <;> omega
    have hdel:=drop_del (L:=L) (M:=M) (i:=i) (k:=k) (by omega);have hadd:=drop_add (L:=L) (M:=M) (i:=i) (k:=k) (by omega);have hboth:=drop_both (L:=L) (M:=M) (i:=i) (k:=k) (by omega) (by omega);generalize L.getD i pdflt=p at *;obtain ⟨pk,pv⟩:=p;generalize M.getD k pdflt=q at *;obtain ⟨qk,qv⟩:=q;simp only at e0 e1 f0 f1 hdel hadd hboth;by_cases h1:slt pk qk=true
    ·
     have Hstep:=Lib.hid (hdel (.inr ⟨by omega,h1⟩));have h1':Op.bytesLess pk.toList qk.toList=true:=h1;clear hlA hlB hAr hBr hdel hadd hboth h1;go_upto_region 9 with (go_quiet (fail))
     refine RegS.wp_region (fun y=>Below wr.heap.size wr y) [(0,0),(1,0),(2,0),(3,0),(4,0),(5,0),(6,0),(7,0),(8,0),(9,0),(10,0),(11,0),(12,1),(13,3),(14,0)] (by kernel_rfl) (by kernel_rfl) (fun _ _ d _ _ h=>by cases d <;> exact h) ⟨rfl,rfl,rfl,Nat.le_refl _,fun _ _=>rfl⟩ ?_;dsimp only [RegR.pick,List.getElem?_cons_zero,List.getElem?_cons_succ];iterate 5 (refine RegS.reads ?_;intro K hK;go_simp;(first | (refine ⟨_,fun _ _=>rfl,hK _ ?_⟩) | (refine hK _ ?_));clear hK K)
     refine RegS.reads ?_;intro K hK;go_simp;refine ⟨.string pk,fun y hy=>?_,hK _ ?_⟩
     ·
      have f0:=(hy.cell (p:=⟨b,o+i*2,none⟩) hbl).trans e0;go_simp
     clear hK K;iterate 4 (refine RegS.reads ?_;intro K hK;go_simp;(first | (refine ⟨_,fun _ _=>rfl,hK _ ?_⟩) | (refine hK _ ?_));clear hK K)
     refine RegS.reads ?_;intro K hK;go_simp;refine ⟨.string pv,fun y hy=>?_,hK _ ?_⟩
     ·
      have f0:=(hy.cell (p:=⟨b,o+i*2+1,none⟩) hbl).trans e1;go_simp
     clear hK K;iterate 1 (refine RegS.reads ?_;intro K hK;go_simp;(first | (refine ⟨_,fun _ _=>rfl,hK _ ?_⟩) | (refine hK _ ?_));clear hK K)
     refine RegS.turn rfl ?_;intro K hK;have hbw:=(Below.refl _ wr).alloc (Nat.le_refl _) (.cells #[.string pk,.string pv,.string ByteArray.empty,.bool true,.bool false] 209);go_simp;refine hK _ _ ⟨hbw.os,hbw.tape,hbw.output,hbw.size,hbw.block⟩ ?_;clear hK K;have hcN:=five_cells wr (.string pk) (.string pv) (.string ByteArray.empty) (.bool true) (.bool false) 209;refine RegS.free rfl ?_;intro K hK;refine wp_append_own _ _ _ 206 rfl w.heap.size 209 i0 _ 5 56 Tryz.underlying206 hi0 hz0 hz1 hz2 rfl (by decide) (.slice C r g) r _ rfl (show World.ownsRow _ _ _ _ _ _ _ from HI.out.own.alloc _) ⟨wr.heap.size,0,none⟩ 1 1 [.string pk,.string pv,.string ByteArray.empty,.bool true,.bool false] rfl rfl hcN (by simp [Value.oneCell']) (by unfold maxLen;have:=HI.out.few;omega) (by have:=HI.out.few;omega) (by have:=HI.out.bel.size;show _≤(wr.alloc _).heap.size;simp;omega) ?_;intro v' w' hown' hgr hnil;refine hK _ _ ?_;clear hK K;iterate 1 (refine RegS.reads ?_;intro K hK;go_simp;(first | (refine ⟨_,fun _ _=>rfl,hK _ ?_⟩) | (refine hK _ ?_));clear hK K)
     refine RegS.nil ?_;obtain ⟨C',g',rfl⟩:=own_sl5 hown';have hb':Below w.heap.size w w':=by
      refine below_own5 (t:=209) (size:=5) (n:=r) (xs:=flat5 O) ?_ ?_ hgr;rotate_left
      ·
       exact HI.out.own.alloc _
      ·
       exact HI.out.bel.trans (Below.mono ⟨hbw.os,hbw.tape,hbw.output,hbw.size,hbw.block⟩ HI.out.bel.size)
     have heq:(O++[cDel (pk,pv)])++diffL (L.drop (i+1)) (M.drop (k))=diffL L M:=by
      rw [← HI.out.eqn,Hstep.out,List.append_assoc];rfl
     have hfew:=HI.out.few;have Hb':=Lib.hid hb';clear hb'
     have Heq:=Lib.hid heq;clear heq
     have Hown:=Lib.hid hown';clear hown' hgr hnil
     clear hbw hcN;go_wp2_with fail;go_roundw
     case rel=>exact ⟨i+1,k,r+1,O++[cDel (pk,pv)],by omega,by omega,rfl,rfl,by rw [flat5_snoc];exact Hown.out,Hb'.out,Heq.out,by omega⟩
     case measure=>simp [intOf];omega
    ·
     by_cases h2:slt qk pk=true
     ·
      have Hstep:=Lib.hid (hadd (.inr ⟨by omega,by simpa using h1,h2⟩));have h1':Op.bytesLess pk.toList qk.toList=false:=by simpa [slt] using h1
      have h2':Op.bytesLess qk.toList pk.toList=true:=h2;clear hlA hlB hAr hBr hdel hadd hboth h1 h2;go_upto_region 12 with (go_quiet (fail))
      refine RegS.wp_region (fun y=>Below wr.heap.size wr y) [(0,0),(1,0),(2,0),(3,0),(4,0),(5,0),(6,0),(7,0),(8,0),(9,0),(10,0),(11,0),(12,1),(13,3),(14,0)] (by kernel_rfl) (by kernel_rfl) (fun _ _ d _ _ h=>by cases d <;> exact h) ⟨rfl,rfl,rfl,Nat.le_refl _,fun _ _=>rfl⟩ ?_;dsimp only [RegR.pick,List.getElem?_cons_zero,List.getElem?_cons_succ];iterate 5 (refine RegS.reads ?_;intro K hK;go_simp;(first | (refine ⟨_,fun _ _=>rfl,hK _ ?_⟩) | (refine hK _ ?_));clear hK K)
      refine RegS.reads ?_;intro K hK;go_simp;refine ⟨.string qk,fun y hy=>?_,hK _ ?_⟩
      ·
       have g0:=(hy.cell (p:=⟨b2,o2+k*2,none⟩) hbl2).trans f0;go_simp
      clear hK K;iterate 4 (refine RegS.reads ?_;intro K hK;go_simp;(first | (refine ⟨_,fun _ _=>rfl,hK _ ?_⟩) | (refine hK _ ?_));clear hK K)
      refine RegS.reads ?_;intro K hK;go_simp;refine ⟨.string qv,fun y hy=>?_,hK _ ?_⟩
      ·
       have g0:=(hy.cell (p:=⟨b2,o2+k*2+1,none⟩) hbl2).trans f1;go_simp
      clear hK K;iterate 1 (refine RegS.reads ?_;intro K hK;go_simp;(first | (refine ⟨_,fun _ _=>rfl,hK _ ?_⟩) | (refine hK _ ?_));clear hK K)
      refine RegS.turn rfl ?_;intro K hK;have hbw:=(Below.refl _ wr).alloc (Nat.le_refl _) (.cells #[.string qk,.string ByteArray.empty,.string qv,.bool false,.bool true] 209);go_simp;refine hK _ _ ⟨hbw.os,hbw.tape,hbw.output,hbw.size,hbw.block⟩ ?_;clear hK K;have hcN:=five_cells wr (.string qk) (.string ByteArray.empty) (.string qv) (.bool false) (.bool true) 209;refine RegS.free rfl ?_;intro K hK;refine wp_append_own _ _ _ 206 rfl w.heap.size 209 i0 _ 5 56 Tryz.underlying206 hi0 hz0 hz1 hz2 rfl (by decide) (.slice C r g) r _ rfl (show World.ownsRow _ _ _ _ _ _ _ from HI.out.own.alloc _) ⟨wr.heap.size,0,none⟩ 1 1 [.string qk,.string ByteArray.empty,.string qv,.bool false,.bool true] rfl rfl hcN (by simp [Value.oneCell']) (by unfold maxLen;have:=HI.out.few;omega) (by have:=HI.out.few;omega) (by have:=HI.out.bel.size;show _≤(wr.alloc _).heap.size;simp;omega) ?_;intro v' w' hown' hgr hnil;refine hK _ _ ?_;clear hK K;iterate 1 (refine RegS.reads ?_;intro K hK;go_simp;(first | (refine ⟨_,fun _ _=>rfl,hK _ ?_⟩) | (refine hK _ ?_));clear hK K)
      refine RegS.nil ?_;obtain ⟨C',g',rfl⟩:=own_sl5 hown';have hb':Below w.heap.size w w':=by
       refine below_own5 (t:=209) (size:=5) (n:=r) (xs:=flat5 O) ?_ ?_ hgr;rotate_left
       ·
        exact HI.out.own.alloc _
       ·
        exact HI.out.bel.trans (Below.mono ⟨hbw.os,hbw.tape,hbw.output,hbw.size,hbw.block⟩ HI.out.bel.size)
      have heq:(O++[cAdd (qk,qv)])++diffL (L.drop (i)) (M.drop (k+1))=diffL L M:=by
       rw [← HI.out.eqn,Hstep.out,List.append_assoc];rfl
      have hfew:=HI.out.few;have Hb':=Lib.hid hb';clear hb'
      have Heq:=Lib.hid heq;clear heq
      have Hown:=Lib.hid hown';clear hown' hgr hnil
      clear hbw hcN;go_wp2_with fail;go_roundw
      case rel=>exact ⟨i,k+1,r+1,O++[cAdd (qk,qv)],by omega,by omega,rfl,rfl,by rw [flat5_snoc];exact Hown.out,Hb'.out,Heq.out,by omega⟩
      case measure=>simp [intOf];omega
     ·
      have hst:=hboth (by simpa using h1) (by simpa using h2);have h1':Op.bytesLess pk.toList qk.toList=false:=by simpa [slt] using h1
      have h2':Op.bytesLess qk.toList pk.toList=false:=by simpa [slt] using h2
      by_cases hv:pv=qv
      ·
       subst hv;rw [if_pos rfl] at hst;have heq:O++diffL (L.drop (i+1)) (M.drop (k+1))=diffL L M:=by rw [← HI.out.eqn,hst]
       have Heq:=Lib.hid heq;clear heq hst
       have hfew:=HI.out.few;clear hlA hlB hAr hBr hdel hadd hboth h1 h2;go_wp2_with (go_quiet (fail));go_roundw
       case rel=>exact ⟨i+1,k+1,r,O,by omega,by omega,rfl,rfl,HI.out.own,HI.out.bel.trans ((bel_drewN wr _).mono HI.out.bel.size),Heq.out,by omega⟩
       case measure=>simp [intOf];omega
      ·
       rw [if_neg hv] at hst;have hvt:=txt_ne hv;have Hstep:=Lib.hid hst;clear hst
       clear hlA hlB hAr hBr hdel hadd hboth h1 h2 hv;go_upto_region 5 with (go_quiet (fail))
       refine RegS.wp_region (fun y=>Below wr.heap.size wr y) [(0,0),(1,0),(2,0),(3,0),(4,0),(5,0),(6,0),(7,0),(8,0),(9,0),(10,0),(11,0),(12,0),(13,0),(14,0),(15,0),(16,0),(17,1),(18,3),(19,0)] (by kernel_rfl) (by kernel_rfl) (fun _ _ d _ _ h=>by cases d <;> exact h) ⟨rfl,rfl,rfl,Nat.le_refl _,fun _ _=>rfl⟩ ?_;dsimp only [RegR.pick,List.getElem?_cons_zero,List.getElem?_cons_succ];iterate 5 (refine RegS.reads ?_;intro K hK;go_simp;(first | (refine ⟨_,fun _ _=>rfl,hK _ ?_⟩) | (refine hK _ ?_));clear hK K)
       refine RegS.reads ?_;intro K hK;go_simp;refine ⟨.string pk,fun y hy=>?_,hK _ ?_⟩
       ·
        have f0:=(hy.cell (p:=⟨b,o+i*2,none⟩) hbl).trans e0;go_simp
       clear hK K;iterate 4 (refine RegS.reads ?_;intro K hK;go_simp;(first | (refine ⟨_,fun _ _=>rfl,hK _ ?_⟩) | (refine hK _ ?_));clear hK K)
       refine RegS.reads ?_;intro K hK;go_simp;refine ⟨.string pv,fun y hy=>?_,hK _ ?_⟩
       ·
        have f0:=(hy.cell (p:=⟨b,o+i*2+1,none⟩) hbl).trans e1;go_simp
       clear hK K;iterate 4 (refine RegS.reads ?_;intro K hK;go_simp;(first | (refine ⟨_,fun _ _=>rfl,hK _ ?_⟩) | (refine hK _ ?_));clear hK K)
       refine RegS.reads ?_;intro K hK;go_simp;refine ⟨.string qv,fun y hy=>?_,hK _ ?_⟩
       ·
        have g0:=(hy.cell (p:=⟨b2,o2+k*2+1,none⟩) hbl2).trans f1;go_simp
       clear hK K;iterate 1 (refine RegS.reads ?_;intro K hK;go_simp;(first | (refine ⟨_,fun _ _=>rfl,hK _ ?_⟩) | (refine hK _ ?_));clear hK K)
       refine RegS.turn rfl ?_;intro K hK;have hbw:=(Below.refl _ wr).alloc (Nat.le_refl _) (.cells #[.string pk,.string pv,.string qv,.bool true,.bool true] 209);go_simp;refine hK _ _ ⟨hbw.os,hbw.tape,hbw.output,hbw.size,hbw.block⟩ ?_;clear hK K;have hcN:=five_cells wr (.string pk) (.string pv) (.string qv) (.bool true) (.bool true) 209;refine RegS.free rfl ?_;intro K hK;refine wp_append_own _ _ _ 206 rfl w.heap.size 209 i0 _ 5 56 Tryz.underlying206 hi0 hz0 hz1 hz2 rfl (by decide) (.slice C r g) r _ rfl (show World.ownsRow _ _ _ _ _ _ _ from HI.out.own.alloc _) ⟨wr.heap.size,0,none⟩ 1 1 [.string pk,.string pv,.string qv,.bool true,.bool true] rfl rfl hcN (by simp [Value.oneCell']) (by unfold maxLen;have:=HI.out.few;omega) (by have:=HI.out.few;omega) (by have:=HI.out.bel.size;show _≤(wr.alloc _).heap.size;simp;omega) ?_;intro v' w' hown' hgr hnil;refine hK _ _ ?_;clear hK K;iterate 1 (refine RegS.reads ?_;intro K hK;go_simp;(first | (refine ⟨_,fun _ _=>rfl,hK _ ?_⟩) | (refine hK _ ?_));clear hK K)
       refine RegS.nil ?_;obtain ⟨C',g',rfl⟩:=own_sl5 hown';have hb':Below w.heap.size w w':=by
        refine below_own5 (t:=209) (size:=5) (n:=r) (xs:=flat5 O) ?_ ?_ hgr;rotate_left
        ·
         exact HI.out.own.alloc _
        ·
         exact HI.out.bel.trans (Below.mono ⟨hbw.os,hbw.tape,hbw.output,hbw.size,hbw.block⟩ HI.out.bel.size)
       have heq:(O++[⟨pk,pv,qv,true,true⟩])++diffL (L.drop (i+1)) (M.drop (k+1))=diffL L M:=by
        rw [← HI.out.eqn,Hstep.out,List.append_assoc];rfl
       have hfew:=HI.out.few;have Hb':=Lib.hid hb';clear hb'
       have Heq:=Lib.hid heq;clear heq
       have Hown:=Lib.hid hown';clear hown' hgr hnil
       clear hbw hcN;go_wp2_with fail;go_roundw
       case rel=>exact ⟨i+1,k+1,r+1,O++[⟨pk,pv,qv,true,true⟩],by omega,by omega,rfl,rfl,by rw [flat5_snoc];exact Hown.out,Hb'.out,Heq.out,by omega⟩
       case measure=>simp [intOf];omega
   ·
    obtain rfl:i=n:=by omega
    have Hstep:=Lib.hid (drop_add (L:=L) (M:=M) (i:=i) (k:=k) (by omega) (.inl hlA.symm));generalize M.getD k pdflt=q at *;obtain ⟨qk,qv⟩:=q;simp only at f0 f1;clear hlA hlB hAr hBr;go_upto_region 12 with (go_quiet (fail))
    refine RegS.wp_region (fun y=>Below wr.heap.size wr y) [(0,0),(1,0),(2,0),(3,0),(4,0),(5,0),(6,0),(7,0),(8,0),(9,0),(10,0),(11,0),(12,1),(13,3),(14,0)] (by kernel_rfl) (by kernel_rfl) (fun _ _ d _ _ h=>by cases d <;> exact h) ⟨rfl,rfl,rfl,Nat.le_refl _,fun _ _=>rfl⟩ ?_;dsimp only [RegR.pick,List.getElem?_cons_zero,List.getElem?_cons_succ];iterate 5 (refine RegS.reads ?_;intro K hK;go_simp;(first | (refine ⟨_,fun _ _=>rfl,hK _ ?_⟩) | (refine hK _ ?_));clear hK K)
    refine RegS.reads ?_;intro K hK;go_simp;refine ⟨.string qk,fun y hy=>?_,hK _ ?_⟩
    ·
     have g0:=(hy.cell (p:=⟨b2,o2+k*2,none⟩) hbl2).trans f0;go_simp
    clear hK K;iterate 4 (refine RegS.reads ?_;intro K hK;go_simp;(first | (refine ⟨_,fun _ _=>rfl,hK _ ?_⟩) | (refine hK _ ?_));clear hK K)
    refine RegS.reads ?_;intro K hK;go_simp;refine ⟨.string qv,fun y hy=>?_,hK _ ?_⟩
    ·
     have g0:=(hy.cell (p:=⟨b2,o2+k*2+1,none⟩) hbl2).trans f1;go_simp
    clear hK K;iterate 1 (refine RegS.reads ?_;intro K hK;go_simp;(first | (refine ⟨_,fun _ _=>rfl,hK _ ?_⟩) | (refine hK _ ?_));clear hK K)
    refine RegS.turn rfl ?_;intro K hK;have hbw:=(Below.refl _ wr).alloc (Nat.le_refl _) (.cells #[.string qk,.string ByteArray.empty,.string qv,.bool false,.bool true] 209);go_simp;refine hK _ _ ⟨hbw.os,hbw.tape,hbw.output,hbw.size,hbw.block⟩ ?_;clear hK K;have hcN:=five_cells wr (.string qk) (.string ByteArray.empty) (.string qv) (.bool false) (.bool true) 209;refine RegS.free rfl ?_;intro K hK;refine wp_append_own _ _ _ 206 rfl w.heap.size 209 i0 _ 5 56 Tryz.underlying206 hi0 hz0 hz1 hz2 rfl (by decide) (.slice C r g) r _ rfl (show World.ownsRow _ _ _ _ _ _ _ from HI.out.own.alloc _) ⟨wr.heap.size,0,none⟩ 1 1 [.string qk,.string ByteArray.empty,.string qv,.bool false,.bool true] rfl rfl hcN (by simp [Value.oneCell']) (by unfold maxLen;have:=HI.out.few;omega) (by have:=HI.out.few;omega) (by have:=HI.out.bel.size;show _≤(wr.alloc _).heap.size;simp;omega) ?_;intro v' w' hown' hgr hnil;refine hK _ _ ?_;clear hK K;iterate 1 (refine RegS.reads ?_;intro K hK;go_simp;(first | (refine ⟨_,fun _ _=>rfl,hK _ ?_⟩) | (refine hK _ ?_));clear hK K)
    refine RegS.nil ?_;obtain ⟨C',g',rfl⟩:=own_sl5 hown';have hb':Below w.heap.size w w':=by
     refine below_own5 (t:=209) (size:=5) (n:=r) (xs:=flat5 O) ?_ ?_ hgr;rotate_left
     ·
      exact HI.out.own.alloc _
     ·
      exact HI.out.bel.trans (Below.mono ⟨hbw.os,hbw.tape,hbw.output,hbw.size,hbw.block⟩ HI.out.bel.size)
    have heq:(O++[cAdd (qk,qv)])++diffL (L.drop (i)) (M.drop (k+1))=diffL L M:=by
     rw [← HI.out.eqn,Hstep.out,List.append_assoc];rfl
    have hfew:=HI.out.few;have Hb':=Lib.hid hb';clear hb'
    have Heq:=Lib.hid heq;clear heq
    have Hown:=Lib.hid hown';clear hown' hgr hnil
    clear hbw hcN;go_wp2_with fail;go_roundw
    case rel=>exact ⟨i,k+1,r+1,O++[cAdd (qk,qv)],by omega,by omega,rfl,rfl,by rw [flat5_snoc];exact Hown.out,Hb'.out,Heq.out,by omega⟩
    case measure=>simp [intOf];omega
  ·
   obtain rfl:k=m:=by omega
   by_cases hin:i<n
   ·
    have hin':(i:Int)<(n:Int):=by omega
    have hstep:=drop_del (L:=L) (M:=M) (i:=i) (k:=k) (by omega) (.inl hlB.symm);obtain ⟨b,o,rfl,hbl,e0,e1⟩:=pairs_get hAr hin;have hsucc:IntKind.i64.wrap ((i:Int)+1)=((i+1:Nat):Int):=by rw [IntKind.wrap_i64] <;> omega
    generalize L.getD i pdflt=p at *;obtain ⟨pk,pv⟩:=p;simp only at e0 e1;have Hstep:=Lib.hid hstep;clear hstep
    clear hlA hlB hAr hBr;go_upto_region 9 with (go_quiet (fail))
    refine RegS.wp_region (fun y=>Below wr.heap.size wr y) [(0,0),(1,0),(2,0),(3,0),(4,0),(5,0),(6,0),(7,0),(8,0),(9,0),(10,0),(11,0),(12,1),(13,3),(14,0)] (by kernel_rfl) (by kernel_rfl) (fun _ _ d _ _ h=>by cases d <;> exact h) ⟨rfl,rfl,rfl,Nat.le_refl _,fun _ _=>rfl⟩ ?_;dsimp only [RegR.pick,List.getElem?_cons_zero,List.getElem?_cons_succ];iterate 5 (refine RegS.reads ?_;intro K hK;go_simp;(first | (refine ⟨_,fun _ _=>rfl,hK _ ?_⟩) | (refine hK _ ?_));clear hK K)
    refine RegS.reads ?_;intro K hK;go_simp;refine ⟨.string pk,fun y hy=>?_,hK _ ?_⟩
    ·
     have f0:=(hy.cell (p:=⟨b,o+i*2,none⟩) hbl).trans e0;go_simp
    clear hK K;iterate 4 (refine RegS.reads ?_;intro K hK;go_simp;(first | (refine ⟨_,fun _ _=>rfl,hK _ ?_⟩) | (refine hK _ ?_));clear hK K)
    refine RegS.reads ?_;intro K hK;go_simp;refine ⟨.string pv,fun y hy=>?_,hK _ ?_⟩
    ·
     have f0:=(hy.cell (p:=⟨b,o+i*2+1,none⟩) hbl).trans e1;go_simp
    clear hK K;iterate 1 (refine RegS.reads ?_;intro K hK;go_simp;(first | (refine ⟨_,fun _ _=>rfl,hK _ ?_⟩) | (refine hK _ ?_));clear hK K)
    refine RegS.turn rfl ?_;intro K hK;have hbw:=(Below.refl _ wr).alloc (Nat.le_refl _) (.cells #[.string pk,.string pv,.string ByteArray.empty,.bool true,.bool false] 209);go_simp;refine hK _ _ ⟨hbw.os,hbw.tape,hbw.output,hbw.size,hbw.block⟩ ?_;clear hK K;have hcN:=five_cells wr (.string pk) (.string pv) (.string ByteArray.empty) (.bool true) (.bool false) 209;refine RegS.free rfl ?_;intro K hK;refine wp_append_own _ _ _ 206 rfl w.heap.size 209 i0 _ 5 56 Tryz.underlying206 hi0 hz0 hz1 hz2 rfl (by decide) (.slice C r g) r _ rfl (show World.ownsRow _ _ _ _ _ _ _ from HI.out.own.alloc _) ⟨wr.heap.size,0,none⟩ 1 1 [.string pk,.string pv,.string ByteArray.empty,.bool true,.bool false] rfl rfl hcN (by simp [Value.oneCell']) (by unfold maxLen;have:=HI.out.few;omega) (by have:=HI.out.few;omega) (by have:=HI.out.bel.size;show _≤(wr.alloc _).heap.size;simp;omega) ?_;intro v' w' hown' hgr hnil;refine hK _ _ ?_;clear hK K;iterate 1 (refine RegS.reads ?_;intro K hK;go_simp;(first | (refine ⟨_,fun _ _=>rfl,hK _ ?_⟩) | (refine hK _ ?_));clear hK K)
    refine RegS.nil ?_;obtain ⟨C',g',rfl⟩:=own_sl5 hown';have hb':Below w.heap.size w w':=by
     refine below_own5 (t:=209) (size:=5) (n:=r) (xs:=flat5 O) ?_ ?_ hgr;rotate_left
     ·
      exact HI.out.own.alloc _
     ·
      exact HI.out.bel.trans (Below.mono ⟨hbw.os,hbw.tape,hbw.output,hbw.size,hbw.block⟩ HI.out.bel.size)
    have heq:(O++[cDel (pk,pv)])++diffL (L.drop (i+1)) (M.drop (k))=diffL L M:=by
     rw [← HI.out.eqn,Hstep.out,List.append_assoc];rfl
    have hfew:=HI.out.few;have Hb':=Lib.hid hb';clear hb'
    have Heq:=Lib.hid heq;clear heq
    have Hown:=Lib.hid hown';clear hown' hgr hnil
    clear hbw hcN;go_wp2_with fail;go_roundw
    case rel=>exact ⟨i+1,k,r+1,O++[cDel (pk,pv)],by omega,by omega,rfl,rfl,by rw [flat5_snoc];exact Hown.out,Hb'.out,Heq.out,by omega⟩
    case measure=>simp [intOf];omega
   ·
    obtain rfl:i=n:=by omega
    have hfin:ChgsAt wr C r (diffL L M):=by
     rw [← HI.out.eqn,show i=L.length by omega,show k=M.length by omega,List.drop_length,List.drop_length,diff_nil_nil,List.append_nil];exact ChgsAt.of_own HI.out.own
    have Hfin:=Lib.hid (And.intro hfin HI.out.bel);clear hfin HI
    clear hlA hlB hAr hBr;go_wp2_with fail;go_ret;exact ⟨C,r,g,rfl,Hfin.out.1,Hfin.out.2⟩
theorem chgs5_get {w:World} {A:Option Addr} {n i:Nat} {L:List Chg} {c:Chg} (h:ChgsAt w A n L) (hi:L[i]?=some c) :
  ∃ b o,A=some ⟨b,o,none⟩∧b<w.heap.size∧w.cell? ⟨b,o+i*5,none⟩=some (.string c.key)∧w.cell? ⟨b,o+i*5+1,none⟩=some (.string c.old)∧w.cell? ⟨b,o+i*5+2,none⟩=some (.string c.new) ∧
   w.cell? ⟨b,o+i*5+3,none⟩=some (.bool c.had)∧w.cell? ⟨b,o+i*5+4,none⟩=some (.bool c.has):=by
 obtain ⟨b,o,h1,h2,h3⟩:=h.cells i _ hi;exact ⟨b,o,h1,h2,h3 0 _ rfl,h3 1 _ rfl,h3 2 _ rfl,h3 3 _ rfl,h3 4 _ rfl⟩
structure RdfI (w0:World) (r s:RefM) (A B:MacV) (z y:List KeptV) (w:World):Prop where
 rr:RefRow w w0.heap.size r
 ss:RefRow w (w0.heap.size+1) s
 ra:RefAt w r A z
 sb:RefAt w s B y
 bel:Below w0.heap.size w0 w
theorem RdfI.below {w0 w w':World} {r s:RefM} {A B:MacV} {z y:List KeptV} (h:RdfI w0 r s A B z y w) (hb:Below w.heap.size w w'):RdfI w0 r s A B z y w':=⟨h.rr.below hb,h.ss.below hb,h.ra.below hb,h.sb.below hb,h.bel.trans (hb.mono h.bel.size)⟩
theorem rdf_start (w:World) (r s:RefM) (A B:MacV) (z y:List KeptV) (hr:RefAt w r A z) (hs:RefAt w s B y):RdfI w r s A B z y ((w.alloc (.cells (refCells r).toArray 43)).alloc (.cells (refCells s).toArray 43)):=by
 have b1:=(Below.refl w.heap.size w).alloc (Nat.le_refl _) (.cells (refCells r).toArray 43);have r1:RefRow (w.alloc (.cells (refCells r).toArray 43)) w.heap.size r:=heap_alloc_new _ _;have b2:=(Below.refl _ (w.alloc (.cells (refCells r).toArray 43))).alloc (Nat.le_refl _) (.cells (refCells s).toArray 43);have r2:RefRow ((w.alloc (.cells (refCells r).toArray 43)).alloc (.cells (refCells s).toArray 43)) (w.heap.size+1) s:=by
  have:=heap_alloc_new (w.alloc (.cells (refCells r).toArray 43)) (.cells (refCells s).toArray 43);rw [World.size_alloc] at this;exact this
 have b12:=b1.trans (b2.mono b1.size);exact ⟨r1.below b2,r2,hr.below b12,hs.below b12,b12⟩
theorem cli_fit {t:TabV} (h:∀ n,LastFit (t.at_ n)):TabOk t:=by
 have ht:∀ n,LastOk (t.at_ n):=fun n=>⟨by have:=(h n).code;omega,by have:=(h n).text;omega⟩
 exact ⟨ht 0,ht 1,ht 2,ht 3⟩
set_option maxHeartbeats 32000000 in
theorem rdiff_any (r s:RefM) (A B:MacV) (z y:List KeptV) (hA:MacFit A) (hB:MacFit B) (w:World) (hr:RefAt w r A z) (hs:RefAt w s B y) :
  Calls Tryz.prog 63 #[.agg (refCells r).toArray,.agg (refCells s).toArray] w fun e w'=>e=.returned (.tuple #[.string (if A.all=B.all then ⟨(diffM A B).toArray⟩ else ByteArray.empty),.int .i64 (if A.all=B.all then 0 else 2)])∧Below w.heap.size w w':=by
 have hI:=rdf_start w r s A B z y hr hs;have Hal:=Lib.hid (And.intro hr.all hs.all);clear hr hs;obtain ⟨R0,hR0⟩:∃ R:ByteArray,(if A.all=B.all then (⟨(diffM A B).toArray⟩:ByteArray) else ByteArray.empty)=R:=⟨_,rfl⟩;obtain ⟨rc,hrc⟩:∃ c:Int,(if A.all=B.all then 0 else 2:Int)=c:=⟨_,rfl⟩;rw [hR0,hrc];have HR0:=Lib.hid (And.intro hR0 hrc);clear hR0 hrc
 rw [ref_eta,ref_eta];go_enter Tryz.func63,Tryz.ntmps63
 go_upto_region 1 with fail;change Code.wp _ _ _ _ ((w.alloc (.cells (refCells r).toArray 43)).alloc (.cells (refCells s).toArray 43));generalize (w.alloc (.cells (refCells r).toArray 43)).alloc (.cells (refCells s).toArray 43)=w1 at *;have HI:=Lib.hid hI;clear hI
 obtain ⟨c0,c1,c2,c3⟩:=HI.out.rr.cells;obtain ⟨d0,d1,d2,d3⟩:=HI.out.ss.cells;by_cases hall:A.all=B.all
 case neg =>
  have hne:((r.all:Int) != (s.all:Int))=true:=by rw [bne_iff_ne,Hal.out.1,Hal.out.2];omega
  have hq:=HR0.out;rw [if_neg hall,if_neg hall] at hq;go_wp2_with fail;refine bodyPost_ret (v:=.tuple #[.string ⟨#[]⟩,.int .i64 2]) (by simp [results,Tryz.results63,go_sem] <;> rfl) rfl ?_;exact ⟨by rw [← hq.1, ← hq.2];rfl,HI.out.bel⟩
 have hne:((r.all:Int) != (s.all:Int))=false:=by rw [bne_eq_false_iff_eq,Hal.out.1,Hal.out.2];omega
 have hq:=HR0.out;rw [if_pos hall,if_pos hall] at hq;have HQ:=Lib.hid hq;clear hq HR0 Hal
 go_wp2_with fail;clear c0 c1 c2 c3 d0 d1 d2 d3 hne;go_loopw [6,7,8,9] (fun s6 s7 s8 s9 wr=>∃ (c v:Nat),c≤4∧v=2 ^ c∧s9=.int .i64 (c:Int)∧s6=.int .i64 ((cliM A.tab B.tab c:Nat):Int)∧s7=.int .i64 (v:Int)∧s8=.string ⟨(cliB A.tab B.tab c).toArray⟩∧RdfI w r s A B z y wr) (fun _ _ _ s9 _=>4 - (intOf s9).toNat)
 case atStart=>exact ⟨0,1,by omega,rfl,rfl,rfl,rfl,rfl,HI.out⟩
 case round =>
  clear HI;obtain ⟨c,v,hc,hv,rfl,rfl,rfl,rfl,hI⟩:=hrel;have HI:=Lib.hid hI;clear hI
  by_cases hc4:c<4
  ·
   have hc4':(c:Int)<4:=by omega
   have hsucc:=tsucc (n:=c) (by omega);have hmod:IntKind.u8.wrap (c:Int)=(c:Int):=by rw [IntKind.wrap_u8];omega
   have hc8:(BitVec.ofNat 8 c).toNat=c:=by simp;omega
   have hl1:=fun (x:World) (hx:Below wr.heap.size wr x)=>rlast_any r.B r.k r.d z (BitVec.ofNat 8 c) x (HI.out.ra.keeps.below hx)
   have hl2:=fun (x:World) (hx:Below wr.heap.size wr x)=>rlast_any s.B s.k s.d y (BitVec.ofNat 8 c) x (HI.out.sb.keeps.below hx)
   have hx1:=HI.out.ra.tab (BitVec.ofNat 8 c) (by omega);have hx2:=HI.out.sb.tab (BitVec.ofNat 8 c) (by omega);rw [hc8] at hl1 hl2 hx1 hx2;have hf2:=hB.tab c;obtain ⟨⟨xc,xs,xo,xt⟩,hxe⟩:∃ x,lastR (BitVec.ofNat 8 c) z=x:=⟨_,rfl⟩;obtain ⟨⟨yc,ys,yo,yt⟩,hye⟩:∃ x,lastR (BitVec.ofNat 8 c) y=x:=⟨_,rfl⟩;rw [hxe] at hl1 hx1;rw [hye] at hl2 hx2;change (⟨xs,xo,xt⟩:LastV)=A.tab.at_ c at hx1;change (⟨ys,yo,yt⟩:LastV)=B.tab.at_ c at hx2;have hcm:cliM A.tab B.tab (c+1)=cliM A.tab B.tab c+if lastE ⟨ys,yo,yt⟩ ⟨xs,xo,xt⟩ then 0 else 2 ^ c:=by rw [hx1,hx2];rfl
   have hcb:cliB A.tab B.tab (c+1)=cliB A.tab B.tab c++if lastE ⟨ys,yo,yt⟩ ⟨xs,xo,xt⟩ then [] else lastB ⟨ys,yo,yt⟩:=by rw [hx1,hx2];rfl
   have hml:=cliM_lt A.tab B.tab c;rw [← hv] at hml hcm;have hv8:v≤8:=by
    rw [hv];have:c=0∨c=1∨c=2∨c=3:=by omega
    rcases this with rfl | rfl | rfl | rfl <;> decide
   have hv2:2*v=2 ^ (c+1):=by rw [hv,Nat.pow_succ,Nat.mul_comm]
   have Hv:=Lib.hid hv2;clear hv hv2
   have hbl:=cliB_len A.tab (cli_fit hB.tab) c;rw [← hx2] at hf2;have hcode:yo≤3:=hf2.code;have htext:yt.size≤64:=hf2.text;clear hx1 hx2 hxe hye hc8 hf2;rw [kept_eta] at hl1 hl2;generalize hn1:xs.toNat=n1 at hl1;generalize hn2:ys.toNat=n2 at hl2;have Hl1:=Lib.hid hl1;clear hl1
   have Hl2:=Lib.hid hl2;clear hl2
   have hn1l:n1<4294967296:=by rw [← hn1];exact xs.isLt
   have hn2l:n2<4294967296:=by rw [← hn2];exact ys.isLt
   have Hn:=Lib.hid (And.intro hn1 hn2);have Hnl:=Lib.hid (And.intro hn1l hn2l);clear hn1l hn2l hn1 hn2
   generalize cliM A.tab B.tab c=m at *;generalize cliB A.tab B.tab c=R at *;have Hc:=Lib.hid (And.intro hcm hcb);clear hcm hcb
   obtain ⟨c0,c1,c2,c3⟩:=HI.out.rr.cells;go_upto_region 9 with ((with_reducible refine (Hl1.out _ (Below.refl _ _)).mono ?_);rintro e w2 ⟨rfl,hb2⟩;have Hb2:=Lib.hid hb2;clear hb2)
   clear c0 c1 c2 c3 Hl1;change Code.wp _ _ _ _ (w2.alloc (.cells #[.int .u8 (xc.toNat:Int),.int .u32 (n1:Int),.int .u8 (xo:Int),.string xt] 179));have hk3:=heap_alloc_new w2 (.cells #[.int .u8 (xc.toNat:Int),.int .u32 (n1:Int),.int .u8 (xo:Int),.string xt] 179);have hb3:=Hb2.out.alloc Hb2.out.size (.cells #[.int .u8 (xc.toNat:Int),.int .u32 (n1:Int),.int .u8 (xo:Int),.string xt] 179);have hlt3:w2.heap.size<(w2.alloc (.cells #[.int .u8 (xc.toNat:Int),.int .u32 (n1:Int),.int .u8 (xo:Int),.string xt] 179)).heap.size:=by simp
   have HI3:=Lib.hid (HI.out.below hb3);have Hk3:=Lib.hid (And.intro hk3 hlt3);have Hb3:=Lib.hid hb3;clear hk3 hlt3 hb3 Hb2;generalize w2.alloc (.cells #[.int .u8 (xc.toNat:Int),.int .u32 (n1:Int),.int .u8 (xo:Int),.string xt] 179)=w3 at *
   generalize w2.heap.size=ga at *;obtain ⟨c0,c1,c2,c3⟩:=HI3.out.ss.cells;go_upto_region 10 with ((with_reducible refine (Hl2.out _ Hb3.out).mono ?_);rintro e w4 ⟨rfl,hb4⟩;have Hb4:=Lib.hid hb4;clear hb4)
   clear c0 c1 c2 c3 Hl2;change Code.wp _ _ _ _ (w4.alloc (.cells #[.int .u8 (yc.toNat:Int),.int .u32 (n2:Int),.int .u8 (yo:Int),.string yt] 179));have hk5:=heap_alloc_new w4 (.cells #[.int .u8 (yc.toNat:Int),.int .u32 (n2:Int),.int .u8 (yo:Int),.string yt] 179);have hb5:=Hb4.out.alloc Hb4.out.size (.cells #[.int .u8 (yc.toNat:Int),.int .u32 (n2:Int),.int .u8 (yo:Int),.string yt] 179);have HI5:=Lib.hid (HI3.out.below hb5);have Hk5:=Lib.hid hk5;have Hka:=Lib.hid ((hb5.block ga Hk3.out.2).trans Hk3.out.1);clear hk5 hb5 Hb4 HI3 Hk3 Hb3 HI;generalize w4.alloc (.cells #[.int .u8 (yc.toNat:Int),.int .u32 (n2:Int),.int .u8 (yo:Int),.string yt] 179)=w5 at *
   generalize w4.heap.size=gb at *;have k1:w5.cell? ⟨ga,1,none⟩=some (.int .u32 (n1:Int)):=cell_of_row _ _ _ _ _ _ Hka.out;have k2:w5.cell? ⟨ga,2,none⟩=some (.int .u8 (xo:Int)):=cell_of_row _ _ _ _ _ _ Hka.out;have k3:w5.cell? ⟨ga,3,none⟩=some (.string xt):=cell_of_row _ _ _ _ _ _ Hka.out;have j1:w5.cell? ⟨gb,1,none⟩=some (.int .u32 (n2:Int)):=cell_of_row _ _ _ _ _ _ Hk5.out;have j2:w5.cell? ⟨gb,2,none⟩=some (.int .u8 (yo:Int)):=cell_of_row _ _ _ _ _ _ Hk5.out;have j3:w5.cell? ⟨gb,3,none⟩=some (.string yt):=cell_of_row _ _ _ _ _ _ Hk5.out;go_cut [44] (fun s44 wx=>s44=.bool (!lastE ⟨ys,yo,yt⟩ ⟨xs,xo,xt⟩)∧wx=w5)
   case first =>
    by_cases h1:n1=n2
    ·
     have h1':((n1:Int) != (n2:Int))=false:=by rw [bne_eq_false_iff_eq];omega
     by_cases hO:xo=yo
     ·
      subst hO;by_cases hT:xt.toList=yt.toList
      ·
       obtain rfl:=tl_inj hT;go_wp2_with fail;go_meet
       refine ⟨?_,rfl⟩;unfold lastE;rw [Hn.out.1,Hn.out.2,h1];simp
      ·
       go_wp2_with fail;go_meet
       refine ⟨?_,rfl⟩;unfold lastE;rw [decide_eq_false (fun e:yt.toList=xt.toList=>hT e.symm),Bool.and_false];rfl
     ·
      have hO' : ¬ (xo:Int)=(yo:Int):=by omega
      go_wp2_with fail;go_meet
      refine ⟨?_,rfl⟩;unfold lastE;rw [decide_eq_false (fun e:yo=xo=>hO e.symm),Bool.and_false,Bool.false_and];rfl
    ·
     have h1':((n1:Int) != (n2:Int))=true:=by rw [bne_iff_ne];omega
     go_wp2_with fail;go_meet
     refine ⟨?_,rfl⟩;unfold lastE;rw [Hn.out.1,Hn.out.2,decide_eq_false (fun e=>h1 e.symm)];rfl
   case rest =>
   obtain ⟨rfl,rfl⟩:=hcut;clear k1 k2 k3 Hka;have hw2:IntKind.i64.wrap (2*(v:Int))=((2*v:Nat):Int):=by rw [IntWalk.i64_in _ (by omega)];omega
   cases hE:lastE ⟨ys,yo,yt⟩ ⟨xs,xo,xt⟩ with
   | true =>
    have hq:=Hc.out;rw [hE,if_pos rfl,if_pos rfl,List.append_nil] at hq;have Hq:=Lib.hid hq;clear hq Hc hE j1 j2 j3
    go_wp2_with fail;go_roundw
    case rel=>exact ⟨c+1,2*v,by omega,Hv.out,rfl,by rw [Hq.out.1];rfl,rfl,by rw [Hq.out.2],HI5.out⟩
    case measure=>simp [intOf];omega
   | false =>
    have hq:=Hc.out;rw [hE,if_neg (by decide),if_neg (by decide)] at hq;have Hq:=Lib.hid hq;clear hq Hc hE
    have hw3:IntKind.i64.wrap ((m:Int)+(v:Int))=((m+v:Nat):Int):=by rw [IntWalk.i64_in _ (by omega)];omega
    have hw4:IntKind.u64.wrap (n2:Int)=(n2:Int):=by rw [IntKind.wrap_u64];have:=Hnl.out.2;omega
    have Hnum:=Lib.hid (fun y:World=>rnum_any n2 (by have:=Hnl.out.2;omega) y);have hX:(⟨(numL n2).toArray⟩:ByteArray).size≤9:=by rw [bs_size];exact (numL_len n2).1
    have hS:(⟨R.toArray⟩:ByteArray).size≤20000:=by rw [bs_size];omega
    obtain ⟨S,hSe⟩:∃ S:ByteArray,(⟨R.toArray⟩:ByteArray)=S:=⟨_,rfl⟩;obtain ⟨X,hXe⟩:∃ S:ByteArray,(⟨(numL n2).toArray⟩:ByteArray)=S:=⟨_,rfl⟩;rw [hSe] at hS ⊢;rw [hXe] at Hnum hX;have HS:=Lib.hid (And.intro hSe hXe);clear hSe hXe
    go_upto_region 13 with ((with_reducible refine (Hnum.out _).mono ?_);rintro e w6 ⟨rfl,hb6⟩;have Hb6:=Lib.hid hb6;clear hb6)
    have hk6:=(Hb6.out.block gb (Array.getElem?_eq_some_iff.1 Hk5.out).1).trans Hk5.out;have HI6:=Lib.hid (HI5.out.below Hb6.out);clear j1 j2 j3 Hk5 HI5 Hnum Hb6;have j1:w6.cell? ⟨gb,1,none⟩=some (.int .u32 (n2:Int)):=cell_of_row _ _ _ _ _ _ hk6;have hSX:(S++X).size≤20009:=by rw [ByteArray.size_append];omega
    obtain ⟨Y,hY⟩:∃ Y,S++X=Y:=⟨_,rfl⟩;rw [hY] at hSX ⊢;have HY:=Lib.hid hY;clear hY
    have HK6:=Lib.hid (show KeptRow w6 gb ⟨yc,ys,yo,yt⟩ by
     unfold KeptRow;rw [kept_eta];simp only;rw [Hn.out.2];exact hk6)
    clear hk6;by_cases hz:n2=0
    ·
     have hz' : ¬ (0:Int)<(n2:Int):=by omega
     have Hz:=Lib.hid hz;clear hz
     go_wp2_with fail;go_roundw
     case rel =>
      refine ⟨c+1,2*v,by omega,Hv.out,rfl,by rw [Hq.out.1];rfl,rfl,?_,HI6.out⟩;rw [Hq.out.2,show lastB ⟨ys,yo,yt⟩=numL n2 by unfold lastB;simp only [Hn.out.2];rw [if_pos Hz.out,List.append_nil], ← str_app2,HS.out.1,HS.out.2,HY.out]
     case measure=>simp [intOf];omega
    ·
     have hz':(0:Int)<(n2:Int):=by omega
     have Hz:=Lib.hid hz;clear hz
     go_upto_region 14 with fail;clear j1;refine rdiff_reg14 w6 gb yc ys yo yt Y (fun _ _ d _ _ h=>by cases d <;> exact h) HK6 (by omega) (by omega) (by omega) _ _ _ _ _ _ _ _ _ _ _ _ _ _ _ _ _ _ _ _ _ _ _ _ _ _ _ _ _ _ _ _ _ _ _ _ _ _ _ _ _ _ _ _ _ _ _ _ _ _ _ _ _ _ _ _ _ _ _ _ _ _ _ _ _ _ _ _ _ _ _ _ _ _ _ _ _ _ _ _ _ _ _ _ _ _ _ _ _ _ _ _ _ _ _ _ _ _ _ _ _ _ _ _ _ _ _ _ _ _ _ _ _ _ _ _ _ _ _ _ _ _ _ _ (Lib.hid ?_);intro s57 s58 s59 s60 s61 s62 s63 s64 s65 s66 s67 w7 hb7;have HI7:=Lib.hid (HI6.out.below hb7);clear HI6 HK6 hb7;obtain ⟨Z,hZ⟩:∃ Z,Y++⟨[UInt8.ofNat yo].toArray⟩++⟨(strL yt).toArray⟩=Z:=⟨_,rfl⟩;rw [hZ];have HZ:=Lib.hid hZ;clear hZ
     go_wp2_with fail;go_roundw
     case rel =>
      refine ⟨c+1,2*v,by omega,Hv.out,rfl,by rw [Hq.out.1];rfl,rfl,?_,HI7.out⟩;rw [Hq.out.2,show lastB ⟨ys,yo,yt⟩=numL n2++([UInt8.ofNat yo]++strL yt) by unfold lastB;simp only [Hn.out.2];rw [if_neg Hz.out];rfl, ← List.append_assoc, ← List.append_assoc, ← str_app2, ← str_app2, ← str_app2,HS.out.1,HS.out.2,HY.out,HZ.out]
     case measure=>simp [intOf];omega
  ·
   have hc4' : ¬ (c:Int)<4:=by omega
   obtain rfl:c=4:=by omega
   clear hc4 hc hv;have hm16:=cliM_lt A.tab B.tab 4;have hRl:=cliB_len A.tab (cli_fit hB.tab) 4;have hbA:=macFit_by hA;have hbB:=macFit_by hB;have hcg:=chg_pair hA.kv.asc hB.kv.asc hbB.kv hbA.kv;have hdl:=diff_len _ (Nat.le_refl _) (A:=A.sh.kv) (B:=B.sh.kv);have hn1:=HI.out.ra.pairs.hlen;have hn2:=HI.out.sb.pairs.hlen;have hc1:=cnt_kv A.sh;have hc2:=cnt_kv B.sh;have hk1:=hA.kv.num;have hk2:=hB.kv.num;have hd:=diff10_any r.A s.A r.n r.c s.n s.c A.sh.kv B.sh.kv wr HI.out.ra.pairs HI.out.sb.pairs (by omega) (by omega);have hfin:diffM A B=sumB A++sumB B++[UInt8.ofNat B.mem,UInt8.ofNat (cliM A.tab B.tab 4)]++(cliB A.tab B.tab 4++numL (diffL A.sh.kv B.sh.kv).length++chgsB (diffL A.sh.kv B.sh.kv)):=by
    unfold diffM clientsB keysDB;simp
   have hDl:(diffL A.sh.kv B.sh.kv).length≤512:=by omega
   generalize diffL A.sh.kv B.sh.kv=D at *;generalize cliM A.tab B.tab 4=m at *;generalize cliB A.tab B.tab 4=R at *;have Hfin:=Lib.hid hfin;clear hfin hdl hn1 hn2 hc1 hc2 hk1 hk2
   have Hd:=Lib.hid hd;clear hd
   have Hby:=Lib.hid (And.intro (And.intro hbA (macB_len hA)) (And.intro hbB (macB_len hB)));clear hbA hbB
   have Hcg:=Lib.hid hcg;clear hcg
   obtain ⟨c0,c1,c2,c3⟩:=HI.out.rr.cells;obtain ⟨d0,d1,d2,d3⟩:=HI.out.ss.cells;go_upto_region 17 with ((with_reducible refine Hd.out.mono ?_);rintro e w2 ⟨C,rn,rg,rfl,hch,hb2⟩;have Hch:=Lib.hid hch;have HI2:=Lib.hid (HI.out.below hb2);clear hch hb2)
   clear c0 c1 c2 c3 d0 d1 d2 d3 Hd HI;have hrn:=Hch.out.hlen;have hrn5:rn≤512:=by omega
   have hw1:IntKind.u64.wrap (rn:Int)=(rn:Int):=by rw [IntKind.wrap_u64];omega
   have Hnum:=Lib.hid (fun y:World=>rnum_any rn (by omega) y);have hX:(⟨(numL rn).toArray⟩:ByteArray).size≤9:=by rw [bs_size];exact (numL_len rn).1
   have hS:(⟨R.toArray⟩:ByteArray).size≤20000:=by rw [bs_size];omega
   obtain ⟨S,hSe⟩:∃ S:ByteArray,(⟨R.toArray⟩:ByteArray)=S:=⟨_,rfl⟩;obtain ⟨X,hXe⟩:∃ S:ByteArray,(⟨(numL rn).toArray⟩:ByteArray)=S:=⟨_,rfl⟩;rw [hSe] at hS ⊢;rw [hXe] at Hnum hX;have HS:=Lib.hid (And.intro hSe hXe);clear hSe hXe
   go_upto_region 18 with ((with_reducible refine (Hnum.out _).mono ?_);rintro e w3 ⟨rfl,hb3⟩;have Hb3:=Lib.hid hb3;clear hb3)
   have HI3:=Lib.hid (HI2.out.below Hb3.out);have Hch3:=Lib.hid (Hch.out.below Hb3.out);clear HI2 Hch Hb3 Hnum;have hst:S++X=⟨(R++numL rn++chgsB (D.take 0)).toArray⟩:=by
    show S++X=⟨(R++numL rn++[]).toArray⟩;rw [List.append_nil, ← str_app2,HS.out.1,HS.out.2]
   obtain ⟨Y0,hY0⟩:∃ Y,S++X=Y:=⟨_,rfl⟩;rw [hY0] at hst ⊢;clear hX hS HS hw1 hY0;obtain ⟨R2,hR2⟩:∃ L,R++numL rn=L:=⟨_,rfl⟩;rw [hR2] at hst;have Hst:=Lib.hid hst;clear hst
   have hR2l:R2.length≤20009:=by rw [← hR2,List.length_append];have:=(numL_len rn).1;omega
   have HR2:=Lib.hid (show R++numL D.length=R2 by rw [hrn];exact hR2);clear hR2
   have Hrn:=Lib.hid hrn;clear hrn
   go_wp2_with fail;go_loopw [8,13] (fun s8 s13 wr=>∃ (i:Nat),i≤rn∧s13=.int .i64 (i:Int)∧s8=.string ⟨(R2++chgsB (D.take i)).toArray⟩∧RdfI w r s A B z y wr∧ChgsAt wr C rn D) (fun _ s13 _=>rn - (intOf s13).toNat)
   case atStart=>exact ⟨0,by omega,rfl,by rw [Hst.out],HI3.out,Hch3.out⟩
   case round =>
    clear HI3 Hch3 Hst;obtain ⟨i,hi,rfl,rfl,hI,hch⟩:=hrel;have HI:=Lib.hid hI;clear hI
    have Hch:=Lib.hid hch;clear hch
    by_cases hir:i<rn
    ·
     have hir':(i:Int)<(rn:Int):=by omega
     have hsucc:=tsucc (n:=i) (by omega);have hiD:i<D.length:=by rw [Hrn.out];exact hir
     obtain ⟨b,o,rfl,hbl,f0, -, f2, -, f4⟩:=chgs5_get Hch.out (List.getElem?_eq_getElem hiD);have hok:ChgOk D[i]:=Hcg.out _ (List.getElem_mem hiD);have hstep:D.take (i+1)=D.take i++[D[i]]:=List.take_succ_eq_append_getElem hiD;have hlen:(chgsB (D.take i)).length≤8300*512:=by
      have h1:=chgsB_len (D.take i) (fun c hc=>Hcg.out c (List.mem_of_mem_take hc));have h2:(D.take i).length≤512:=by rw [List.length_take];omega
      omega
     obtain ⟨⟨ck,co,cn,ch,cs⟩,hce⟩:∃ c,D[i]=c:=⟨_,rfl⟩;rw [hce] at f0 f2 f4 hok hstep;simp only at f0 f2 f4;have hk16:ck.size≤4096:=hok.1;have hn64:cn.size≤4096:=hok.2;have Hstep:=Lib.hid (show chgsB (D.take (i+1))=chgsB (D.take i)++(strL ck++if cs then numL 1++strL cn else numL 0) by
      rw [hstep,chgsB_app];show _++(chgB ⟨ck,co,cn,ch,cs⟩++[])=_;rw [List.append_nil];rfl)
     clear hstep hce hok;generalize chgsB (D.take i)=P at *;have Hk:=Lib.hid (fun x:World=>rstr_any ck (by omega) x);have hS:(⟨(R2++P).toArray⟩:ByteArray).size≤4300000:=by rw [bs_size,List.length_append];omega
     have hX:(⟨(strL ck).toArray⟩:ByteArray).size≤4200:=by rw [bs_size];have:=strL_len ck;omega
     obtain ⟨S1,hS1⟩:∃ S:ByteArray,(⟨(R2++P).toArray⟩:ByteArray)=S:=⟨_,rfl⟩;obtain ⟨X1,hX1⟩:∃ S:ByteArray,(⟨(strL ck).toArray⟩:ByteArray)=S:=⟨_,rfl⟩;rw [hS1] at hS ⊢;rw [hX1] at Hk hX;have HS1:=Lib.hid (And.intro hS1 hX1);clear hS1 hX1
     go_upto_region 22 with ((with_reducible refine (Hk.out _).mono ?_);rintro e w4 ⟨rfl,hb4⟩;have Hb4:=Lib.hid hb4;clear hb4)
     have f2':=(Hb4.out.cell (p:=⟨b,o+i*5+2,none⟩) hbl).trans f2;have f4':=(Hb4.out.cell (p:=⟨b,o+i*5+4,none⟩) hbl).trans f4;have HI4:=Lib.hid (HI.out.below Hb4.out);have Hch4:=Lib.hid (Hch.out.below Hb4.out);clear f0 f2 f4 HI Hch Hk Hb4;have hSX:(S1++X1).size≤4304200:=by rw [ByteArray.size_append];omega
     obtain ⟨Y,hY⟩:∃ Y,S1++X1=Y:=⟨_,rfl⟩;rw [hY] at hSX ⊢;have HY:=Lib.hid hY;clear hY
     cases cs with
     | false =>
      go_wp2_with fail;go_roundw
      case rel =>
       refine ⟨i+1,by omega,rfl,?_,HI4.out,Hch4.out⟩;rw [Hstep.out];rw [if_neg (by decide), ← List.append_assoc, ← List.append_assoc, ← str_app2, ← str_app2,HS1.out.1,HS1.out.2,HY.out];rfl
      case measure=>simp [intOf];omega
     | true =>
      have Hk:=Lib.hid (fun x:World=>rstr_any cn (by omega) x);have hX2:(⟨(strL cn).toArray⟩:ByteArray).size≤4200:=by rw [bs_size];have:=strL_len cn;omega
      obtain ⟨X2,hX2e⟩:∃ S:ByteArray,(⟨(strL cn).toArray⟩:ByteArray)=S:=⟨_,rfl⟩;rw [hX2e] at Hk hX2;have HX2:=Lib.hid hX2e;clear hX2e
      have hY1:(Y++⟨#[1]⟩).size≤4304201:=by rw [ByteArray.size_append,show (⟨#[1]⟩:ByteArray).size=1 from rfl];omega
      go_wp2_with ((with_reducible refine (Hk.out _).mono ?_);rintro e w5 ⟨rfl,hb5⟩;have Hb5:=Lib.hid hb5;clear hb5);go_roundw
      case rel =>
       refine ⟨i+1,by omega,rfl,?_,HI4.out.below Hb5.out,Hch4.out.below Hb5.out⟩;rw [Hstep.out];rw [if_pos trivial, ← List.append_assoc, ← List.append_assoc, ← List.append_assoc, ← str_app2, ← str_app2, ← str_app2,HS1.out.1,HS1.out.2,HY.out,HX2.out];rfl
      case measure=>simp [intOf];omega
    ·
     have hir' : ¬ (i:Int)<(rn:Int):=by omega
     obtain rfl:i=rn:=by omega
     have hlen:(chgsB D).length≤8300*512:=by
      have h1:=chgsB_len D Hcg.out;omega
     rw [show D.take i=D by rw [← Hrn.out];exact List.take_length];clear hir hi;have hRl2:(⟨(R2++chgsB D).toArray⟩:ByteArray).size≤5000000:=by rw [bs_size,List.length_append];omega
     go_upto_region 25 with fail;refine rdiff_reg25 wr w.heap.size (w.heap.size+1) m ⟨(R2++chgsB D).toArray⟩ r s A B z y (fun _ _ d _ _ h=>by cases d <;> exact h) (Lib.hid ⟨HI.out.rr,HI.out.ra⟩) (Lib.hid ⟨HI.out.ss,HI.out.sb⟩) (Lib.hid Hby.out.1) (Lib.hid Hby.out.2) hm16 hRl2 _ _ _ _ _ _ _ _ _ _ _ _ _ _ _ _ _ _ _ _ _ _ _ _ _ _ _ _ _ _ _ _ _ _ _ _ _ _ _ _ _ _ _ _ _ _ _ _ _ _ _ _ _ _ _ _ _ _ _ _ _ _ _ _ _ _ _ _ _ _ _ _ _ _ _ _ _ _ _ _ _ _ _ _ _ _ _ _ _ _ _ _ _ _ _ _ _ _ _ _ _ _ _ _ _ _ _ _ _ _ _ _ _ _ _ _ _ _ _ _ _ _ (Lib.hid ?_);intro s112 s113 s114 s115 s116 s117 s118 s119 s120 s121 s122 s123 s124 w4 hb4;have Hbe:=Lib.hid (HI.out.bel.trans (hb4.mono HI.out.bel.size));clear HI hb4 Hch;obtain ⟨Z,hZ⟩:∃ Z,(⟨(sumB A).toArray⟩++⟨(sumB B).toArray⟩++⟨[UInt8.ofNat B.mem,UInt8.ofNat m].toArray⟩++⟨(R2++chgsB D).toArray⟩:ByteArray)=Z:=⟨_,rfl⟩;rw [hZ];have hZR:Z=R0:=by
      rw [← HQ.out.1, ← hZ,Hfin.out,str_app2,str_app2,str_app2,HR2.out]
     subst hZR;have hq2:=HQ.out.2;subst hq2;clear hZ;go_wp2_with fail;refine bodyPost_ret (v:=.tuple #[.string Z,.int .i64 0]) (by simp [results,Tryz.results63,go_sem]) rfl ?_;exact ⟨rfl,Hbe.out⟩
end Go.Proofs.YtbckjgageofldaaGreat
