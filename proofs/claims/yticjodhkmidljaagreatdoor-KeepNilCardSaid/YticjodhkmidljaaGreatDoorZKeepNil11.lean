/- Base: Open. Condition: as each theorem says. -/
import Derived.Test.YticjodhkmidljaaGreatDoorZKeepNil10
namespace Go.Proofs.YticjodhkmidljaaGreatDoor
open Go.RowKit Go.Shelf
attribute [local go_sem] Oper.semAt_some
/-- A store's cells. -/
def stoC (p:Nat) (b:Nat × Bs):Array Value:=#[.pointer (some ⟨p,0,none⟩),.int .u64 (b.1:Int),.string ⟨b.2.toArray⟩]
theorem allocs_below (l:List Obj):∀ (w:World) (n:Nat) (w0:World),Below n w0 w→n≤w.heap.size→Below n w0 (l.foldl (fun w o=>w.alloc o) w):=by
  induction l with
  | nil=>intro w n w0 h _;exact h
  | cons o r ih=>intro w n w0 h hn;exact ih (w.alloc o) n w0 (h.alloc hn o) (by simp;omega)
theorem allocs_at (l:List Obj):∀ (w:World) (i:Nat) (o:Obj),l[i]?=some o→(l.foldl (fun w o=>w.alloc o) w).heap[w.heap.size+i]?=some o:=by
  induction l with
  | nil=>intro w i o h;simp at h
  | cons q r ih =>
    intro w i o h
    cases i with
    | zero =>
      simp at h
      subst h
      exact ((allocs_below r (w.alloc q) (w.alloc q).heap.size (w.alloc q) (Below.refl _ _) (Nat.le_refl _)).block _ (by simp)).trans (World.alloc_heap_new w q)
    | succ i =>
      have h2:=ih (w.alloc q) i o (by simpa using h)
      rw [World.size_alloc] at h2
      rw [show w.heap.size+(i+1)=w.heap.size+1+i by omega]
      exact h2
def encS (l:List Bs):List Value:=l.map encStr
/-- Open, between the rounds of its first loop (N: where the heap ended). -/
structure OpI (p N:Nat) (w:World) (Y:Nat→Prop) (pre:BsF) (y:World) (v5 v6:Value):Prop where
  r2:y.heap[N]?=some (.cells #[.pointer none] 56 (0,0))
  r3:y.heap[N+1]?=some (.cells #[.int .i64 0] 28 (0,0))
  sto:y.heap[N+2]?=some (.cells (stoC p (lastG pre)) 96 (0,0))
  r4:y.heap[N+3]?=some (.cells #[.pointer (some ⟨N+2,0,none⟩)] 56 (0,0))
  r5:y.heap[N+4]?=some (.cells #[v5] 60 (0,0))
  r6:y.heap[N+5]?=some (.cells #[v6] 60 (0,0))
  o5:y.ownsRow (N+6) 9 1 v5 (youngN pre).length (encS (youngN pre))
  o6:y.ownsRow (N+6) 9 1 v6 (goodN pre).length (encS (goodN pre))
  sep:∀ k,v5.ownBlock=some k→v6.ownBlock≠some k
  off:∀ k,(v5.ownBlock=some k∨v6.ownBlock=some k) → ¬ Y k
  ok:∀ x ∈ pre,lkN x≠2
  bel:Below N w y
theorem OpI.turn {p N:Nat} {w w2:World} {Y:Nat→Prop} {pre:BsF} {y:World} {v5 v6:Value} (h:OpI p N w Y pre y v5 v6) (hw:N+6≤w2.heap.size) (hN:N≤y.heap.size) (hY:NewY Y w2) {y':World} {row:Option Nat} (hg:y.grownBy y' row) (hr:∀ r,row=some r→Y r):OpI p N w Y pre y' v5 v6:=by
  have hz:∀ r,row=some r→N+6≤r:=fun r e=>Nat.le_trans hw (hY r (hr r e))
  have up:∀ {q:Nat} {o:Obj},q<N+6→y.heap[q]?=some o→y'.heap[q]?=some o:=fun {q o} hq h=>(hg.block _ (Array.getElem?_eq_some_iff.1 h).1 (fun e=>by have:=hz _ e.symm;omega)).trans h
  exact ⟨up (by omega) h.r2,up (by omega) h.r3,up (by omega) h.sto,up (by omega) h.r4,up (by omega) h.r5,up (by omega) h.r6,
    own_stay h.o5 (fun k hk _ hl=>hg.block k hl (fun e=>h.off k (.inl hk) (hr k e.symm))),own_stay h.o6 (fun k hk _ hl=>hg.block k hl (fun e=>h.off k (.inr hk) (hr k e.symm))),h.sep,h.off,h.ok,below_grown hg h.bel hN (fun k e=>by have:=hz k e;omega)⟩
theorem DskAt.trim {w:World} {p b n:Nat} {C:Bs→Nat} {L:List Nat} {D:DskV} (h:DskAt w p b n C L D):∃ L',DskAt w p b n C L' D∧∀ g ∈ L',g ∈ L∧g<w.heap.size:=by
  refine ⟨p::b::D.fs.map (fun f=>C f.nm),⟨h.d,h.m,h.c,h.inj,⟨by simp,by simp,h.pb.2.2⟩,fun f hf=>⟨by simp;exact .inr (.inr ⟨f,hf,rfl⟩),(h.cl f hf).2⟩,h.ris,h.syn,h.sum,h.fz⟩,fun g hg=>?_⟩
  rcases List.mem_cons.1 hg with rfl | hg
  · exact ⟨h.pb.1,h.lt⟩
  · rcases List.mem_cons.1 hg with rfl | hg
    · exact ⟨h.pb.2.1,h.m.lt⟩
    · obtain ⟨f,hf,rfl⟩:=List.mem_map.1 hg
      exact ⟨(h.cl f hf).1,(Array.getElem?_eq_some_iff.1 (h.c f hf)).1⟩
/-- A store. -/
def StoAt (w:World) (S p:Nat) (b:Nat × Bs):Prop:=w.heap[S]?=some (.cells (stoC p b) 96 (0,0))
/-- What Open tells of a disk that has power. -/
def OpenR (p b:Nat) (L:List Nat) (D:DskV) (w:World) (e:Ending) (w':World):Prop :=
  (spoilt (baseL D.fs)∧e=.returned (.tuple #[.pointer none,.int .i64 10])∧Below w.heap.size w w') ∨
  (¬ spoilt (baseL D.fs)∧∃ S,e=.returned (.tuple #[.pointer (some ⟨S,0,none⟩),.int .i64 0])∧StoAt w' S p (lastG (baseL D.fs))∧w.heap.size≤S∧∃ n C L',DskAt w' p b n C L' (rems D (rmN (baseL D.fs)))∧Turns L w w'∧(∀ g ∈ L',(g ∈ L∨w.heap.size≤g)∧g<w'.heap.size)∧S ∉ L')
/-- Open, where a file is spoilt. -/
structure OpX (N:Nat) (w:World) (y:World):Prop where
  r2:y.heap[N]?=some (.cells #[.pointer none] 56 (0,0))
  r3:y.heap[N+1]?=some (.cells #[.int .i64 10] 28 (0,0))
  bel:Below N w y
theorem OpX.turn {N:Nat} {w w2 y:World} {Y:Nat→Prop} (h:OpX N w y) (hw:N+6≤w2.heap.size) (hN:N≤y.heap.size) (hY:NewY Y w2) {y':World} {row:Option Nat} (hg:y.grownBy y' row) (hr:∀ r,row=some r→Y r):OpX N w y':=by
  have hz:∀ r,row=some r→N+6≤r:=fun r e=>Nat.le_trans hw (hY r (hr r e))
  have up:∀ {q:Nat} {o:Obj},q<N+6→y.heap[q]?=some o→y'.heap[q]?=some o:=fun {q o} hq h=>(hg.block _ (Array.getElem?_eq_some_iff.1 h).1 (fun e=>by have:=hz _ e.symm;omega)).trans h
  exact ⟨up (by omega) h.r2,up (by omega) h.r3,below_grown hg h.bel hN (fun k e=>by have:=hz k e;omega)⟩
theorem OpI.below {p N:Nat} {w w2:World} {Y:Nat→Prop} {pre:BsF} {y y':World} {v5 v6:Value} (h:OpI p N w Y pre y v5 v6) (hw:N+6≤w2.heap.size) (hY:NewY Y w2) (hb:Below y.heap.size y y') (hN:N≤y.heap.size):OpI p N w Y pre y' v5 v6 :=
  h.turn hw hN hY (row:=none) ⟨hb.os,hb.tape,hb.output,hb.size,fun q hq _=>hb.block q hq⟩ (fun r e=>by cases e)
theorem OpI.young {p N:Nat} {w:World} {Y:Nat→Prop} {pre:BsF} {x:Nat × FilV} {y y2 w4:World} {v5 v6 v':Value} (h:OpI p N w Y pre y v5 v6) (hk:lkN x=0) (hN:N≤y.heap.size) (hb:Below y.heap.size y y2) (ho:w4.ownsRow (N+6) 9 1 v' ((youngN pre).length+1) (encS (youngN pre)++[.string ⟨x.2.nm.toArray⟩]))
    (hg:y2.grownBy w4 v5.ownBlock) (hq:∀ q,v'.ownBlock=some q→v5.ownBlock=some q∨y2.heap.size≤q) (hY:∀ r,Y r→r<y.heap.size∧N+6≤r) :
    KeptZ Y y (w4.setCell ⟨N+4,0,none⟩ v')∧OpI p N w Y (pre++[x]) (w4.setCell ⟨N+4,0,none⟩ v') v' v6:=by
  have h5:=fun k e=>own_at h.o5 (k:=k) e
  have h6:=fun k e=>own_at h.o6 (k:=k) e
  have kp:∀ {g:Nat} {o:Obj},y.heap[g]?=some o→g≠N+4→v5.ownBlock≠some g→(w4.setCell ⟨N+4,0,none⟩ v').heap[g]?=some o:=fun {g o} hl hn h5 =>
    (setC_other hn).trans ((hg.block g (Nat.lt_of_lt_of_le (Array.getElem?_eq_some_iff.1 hl).1 hb.size) (Ne.symm h5)).trans ((hb.block g (Array.getElem?_eq_some_iff.1 hl).1).trans hl))
  have nb:∀ g,g<N+6→v5.ownBlock≠some g:=fun g hg e=>by have:=(h5 g e).1;omega
  have h4:w4.heap[N+4]?=some (.cells #[v5] 60 (0,0)):=(hg.block _ (Nat.lt_of_lt_of_le (Array.getElem?_eq_some_iff.1 h.r5).1 hb.size) (Ne.symm (nb _ (by omega)))).trans ((hb.block _ (Array.getElem?_eq_some_iff.1 h.r5).1).trans h.r5)
  have hs:=hb.size
  refine ⟨fun r o hr ho2=>kp ho2 (by have:=hY r hr;omega) (fun e=>h.off r (.inl e) hr),⟨kp h.r2 (by omega) (nb _ (by omega)),kp h.r3 (by omega) (nb _ (by omega)),?_,kp h.r4 (by omega) (nb _ (by omega)),?_,kp h.r6 (by omega) (nb _ (by omega)),?_,?_,fun k e1 e2=>?_,fun k e=>?_,?_,?_⟩⟩
  · rw [lastG_snoc,if_neg (by rw [hk];decide)]
    exact kp h.sto (by omega) (nb _ (by omega))
  · exact heap_setCell_same w4 (N+4) 0 #[v5] _ v' h4
  · rw [youngN_snoc,if_pos hk,List.length_append,List.length_singleton,show encS (youngN pre++[x.2.nm])=encS (youngN pre)++[.string ⟨x.2.nm.toArray⟩] by simp [encS,encStr]]
    exact own_stay ho (fun k hk hB _=>setC_other (by omega))
  · rw [goodN_snoc,if_neg (by rw [hk];decide)]
    refine own_stay h.o6 (fun k hk hB hl=>?_)
    have:=kp (Array.getElem?_eq_getElem hl) (by omega) (fun e=>h.sep k e hk)
    rw [this,Array.getElem?_eq_getElem hl]
  · rcases hq k e1 with e | e
    · exact h.sep k e e2
    · have:=(h6 k e2).2;omega
  · rcases e with e | e
    · rcases hq k e with e | e
      · exact h.off k (.inl e)
      · intro hy;have:=hY k hy;omega
    · exact h.off k (.inr e)
  · intro q hqm
    rcases List.mem_append.1 hqm with h1 | h1
    · exact h.ok q h1
    · rw [List.mem_singleton.1 h1,hk];decide
  · exact (below_grown hg (h.bel.trans (hb.mono hN)) (Nat.le_trans hN hs) (fun k e=>by have:=(h5 k e).1;omega)).setCell (p:=⟨N+4,0,none⟩) (by show N≤N+4;omega) v'
theorem OpI.good {p N:Nat} {w:World} {Y:Nat→Prop} {pre:BsF} {x:Nat × FilV} {y y2 w4 z:World} {v5 v6 v':Value} (h:OpI p N w Y pre y v5 v6) (hk:lkN x=1) (hN:N≤y.heap.size) (hb:Below y.heap.size y y2) (ho:w4.ownsRow (N+6) 9 1 v' ((goodN pre).length+1) (encS (goodN pre)++[.string ⟨x.2.nm.toArray⟩]))
    (hg:y2.grownBy w4 v6.ownBlock) (hq:∀ q,v'.ownBlock=some q→v6.ownBlock=some q∨y2.heap.size≤q) (hY:∀ r,Y r→r<y.heap.size∧N+6≤r)
    (hz:ButOne (N+2) (w4.setCell ⟨N+5,0,none⟩ v') z) (hst:z.heap[N+2]?=some (.cells (stoC p (x.1,(lookD x.1 x.2).2)) 96 (0,0))) :
    KeptZ Y y z∧OpI p N w Y (pre++[x]) z v5 v':=by
  have h5:=fun k e=>own_at h.o5 (k:=k) e
  have h6:=fun k e=>own_at h.o6 (k:=k) e
  have hs:=hb.size
  have hs4:y2.heap.size≤(w4.setCell ⟨N+5,0,none⟩ v').heap.size:=by have:=hg.size;simpa using this
  have kp:∀ {g:Nat} {o:Obj},y.heap[g]?=some o→g≠N+5→g≠N+2→v6.ownBlock≠some g→z.heap[g]?=some o:=fun {g o} hl hn hn2 h6 =>
    (hz.block g (by have:=(Array.getElem?_eq_some_iff.1 hl).1;omega) hn2).trans ((setC_other hn).trans ((hg.block g (Nat.lt_of_lt_of_le (Array.getElem?_eq_some_iff.1 hl).1 hb.size) (Ne.symm h6)).trans ((hb.block g (Array.getElem?_eq_some_iff.1 hl).1).trans hl)))
  have nb:∀ g,g<N+6→v6.ownBlock≠some g:=fun g hg e=>by have:=(h6 g e).1;omega
  have h4:w4.heap[N+5]?=some (.cells #[v6] 60 (0,0)):=(hg.block _ (Nat.lt_of_lt_of_le (Array.getElem?_eq_some_iff.1 h.r6).1 hb.size) (Ne.symm (nb _ (by omega)))).trans ((hb.block _ (Array.getElem?_eq_some_iff.1 h.r6).1).trans h.r6)
  refine ⟨fun r o hr ho2=>kp ho2 (by have:=hY r hr;omega) (by have:=hY r hr;omega) (fun e=>h.off r (.inr e) hr),⟨kp h.r2 (by omega) (by omega) (nb _ (by omega)),kp h.r3 (by omega) (by omega) (nb _ (by omega)),?_,kp h.r4 (by omega) (by omega) (nb _ (by omega)),kp h.r5 (by omega) (by omega) (nb _ (by omega)),?_,?_,?_,fun k e1 e2=>?_,fun k e=>?_,?_,?_⟩⟩
  · rw [lastG_snoc,if_pos hk]
    exact hst
  · have h7:=heap_setCell_same w4 (N+5) 0 #[v6] _ v' h4
    exact (hz.block _ (Array.getElem?_eq_some_iff.1 h7).1 (by omega)).trans h7
  · rw [youngN_snoc,if_neg (by rw [hk];decide)]
    refine own_stay h.o5 (fun k hk hB hl=>?_)
    have:=kp (Array.getElem?_eq_getElem hl) (by omega) (by omega) (fun e=>h.sep k hk e)
    rw [this,Array.getElem?_eq_getElem hl]
  · rw [goodN_snoc,if_pos hk,List.length_append,List.length_singleton,show encS (goodN pre++[x.2.nm])=encS (goodN pre)++[.string ⟨x.2.nm.toArray⟩] by simp [encS,encStr]]
    refine own_stay ho (fun k hk hB hl=>?_)
    exact (hz.block k (by simpa using hl) (by omega)).trans (setC_other (by omega))
  · rcases hq k e2 with e | e
    · exact h.sep k e1 e
    · have:=(h5 k e1).2;omega
  · rcases e with e | e
    · exact h.off k (.inl e)
    · rcases hq k e with e | e
      · exact h.off k (.inr e)
      · intro hy;have:=hY k hy;omega
  · intro q hqm
    rcases List.mem_append.1 hqm with h1 | h1
    · exact h.ok q h1
    · rw [List.mem_singleton.1 h1,hk];decide
  · have hb4:=(below_grown hg (h.bel.trans (hb.mono hN)) (Nat.le_trans hN hs) (fun k e=>by have:=(h6 k e).1;omega)).setCell (p:=⟨N+5,0,none⟩) (by show N≤N+5;omega) v'
    exact hb4.trans ⟨hz.os,hz.tape,hz.output,hz.size,fun k hk=>hz.block k (by omega) (by omega)⟩
theorem OpI.at5 {p N:Nat} {w:World} {Y:Nat→Prop} {pre:BsF} {y y2 w4:World} {v5 v6:Value} (h:OpI p N w Y pre y v5 v6) (hb:Below y.heap.size y y2) (hg:y2.grownBy w4 v5.ownBlock):w4.heap[N+4]?=some (.cells #[v5] 60 (0,0)) :=
  (hg.block _ (Nat.lt_of_lt_of_le (Array.getElem?_eq_some_iff.1 h.r5).1 hb.size) (fun e=>by have:=(own_at h.o5 e.symm).1;omega)).trans ((hb.block _ (Array.getElem?_eq_some_iff.1 h.r5).1).trans h.r5)
theorem OpI.at6 {p N:Nat} {w:World} {Y:Nat→Prop} {pre:BsF} {y y2 w4:World} {v5 v6:Value} (h:OpI p N w Y pre y v5 v6) (hb:Below y.heap.size y y2) (hg:y2.grownBy w4 v6.ownBlock):∀ i o,N+i<N+6→y.heap[N+i]?=some o→w4.heap[N+i]?=some o:=fun i o hi ho =>
  (hg.block _ (Nat.lt_of_lt_of_le (Array.getElem?_eq_some_iff.1 ho).1 hb.size) (fun e=>by have:=(own_at h.o6 e.symm).1;omega)).trans ((hb.block _ (Array.getElem?_eq_some_iff.1 ho).1).trans ho)
/-- Open, between the rounds of its last loop. -/
def RmI (p b:Nat) (L:List Nat) (D:DskV) (Nm:List Bs) (w W7:World) (i:Nat) (wr:World):Prop :=
  ∃ n C L',DskAt wr p b n C L' (rems D (Nm.take i))∧(∀ g ∈ L',(g ∈ L∨W7.heap.size≤g)∧g<wr.heap.size)∧Turns L w wr∧∀ g o,w.heap.size≤g→W7.heap[g]?=some o→wr.heap[g]?=some o
theorem RmI.step {p b n:Nat} {C:Bs→Nat} {L L':List Nat} {D:DskV} {Nm:List Bs} {w W7 wr w':World} {i:Nat} {k:Int} {nm:Bs} (hL:∀ g ∈ L,g<w.heap.size) (_:DskAt wr p b n C L' (rems D (Nm.take i))) (hl:∀ g ∈ L',(g ∈ L∨W7.heap.size≤g)∧g<wr.heap.size) (ht:Turns L w wr) (hk:∀ g o,w.heap.size≤g→W7.heap[g]?=some o→wr.heap[g]?=some o) (h7:w.heap.size≤W7.heap.size)
    (hi:i<Nm.length) (hnm:nm=Nm[i]) (hr:DkR p b L' (remD (rems D (Nm.take i)) nm) wr k w') (hs:W7.heap.size≤wr.heap.size):RmI p b L D Nm w W7 (i+1) w'∧W7.heap.size≤w'.heap.size:=by
  obtain ⟨_,n2,C2,L2,hd2,ht2,hl2⟩:=hr
  obtain ⟨L3,hd3,hl3⟩:=hd2.trim
  have htk:Nm.take (i+1)=Nm.take i++[nm]:=by rw [List.take_add_one,List.getElem?_eq_getElem hi,hnm];rfl
  refine ⟨⟨n2,C2,L3,by rw [htk,rems_snoc];exact hd3,fun g hg=>⟨?_,(hl3 g hg).2⟩,?_,fun g o hg ho=>?_⟩,Nat.le_trans hs ht2.size⟩
  · rcases hl2 g (hl3 g hg).1 with h | h
    · exact (hl g h).1
    · exact .inr (Nat.le_trans hs h)
  · refine ⟨ht2.os.trans ht.os,ht2.tape.trans ht.tape,ht2.out.trans ht.out,Nat.le_trans ht.size ht2.size,fun g hg hn=>(ht2.block g (Nat.lt_of_lt_of_le hg ht.size) (fun hgl=>?_)).trans (ht.block g hg hn)⟩
    rcases (hl g hgl).1 with h | h
    · exact hn h
    · omega
  · have h1:=hk g o hg ho
    have h2:=(Array.getElem?_eq_some_iff.1 ho).1
    refine (ht2.block g (Array.getElem?_eq_some_iff.1 h1).1 (fun hgl=>?_)).trans h1
    rcases (hl g hgl).1 with h | h
    · have:=hL g h;omega
    · omega
theorem RmI.fin {p b:Nat} {L:List Nat} {D:DskV} {Nm:List Bs} {w W7 wr:World} {i d:Nat} (h:RmI p b L D Nm w W7 i wr) (hi:i=Nm.length) (hL:∀ g ∈ L,g<w.heap.size) (hd:w.heap.size+6≤d∧d<W7.heap.size) (P E:Value) (o:Obj) :
    ∃ n C L',DskAt (((wr.setCell ⟨w.heap.size,0,none⟩ P).setCell ⟨w.heap.size+1,0,none⟩ E).putObj d o) p b n C L' (rems D Nm)∧Turns L w (((wr.setCell ⟨w.heap.size,0,none⟩ P).setCell ⟨w.heap.size+1,0,none⟩ E).putObj d o) ∧
      (∀ g ∈ L',(g ∈ L∨w.heap.size≤g)∧g<(((wr.setCell ⟨w.heap.size,0,none⟩ P).setCell ⟨w.heap.size+1,0,none⟩ E).putObj d o).heap.size)∧w.heap.size+2 ∉ L':=by
  obtain ⟨n,C,L',hd1,hl,ht,_⟩:=h
  rw [hi,List.take_length] at hd1
  have kp:∀ g,g≠d→g≠w.heap.size→g≠w.heap.size+1→(((wr.setCell ⟨w.heap.size,0,none⟩ P).setCell ⟨w.heap.size+1,0,none⟩ E).putObj d o).heap[g]?=wr.heap[g]?:=fun g h1 h2 h3 =>
    (World.putObj_heap_other (by first | exact h1 | exact Ne.symm h1)).trans ((setC_other h3).trans (setC_other h2))
  have nl:∀ g,g ∈ L'→g≠d∧g≠w.heap.size∧g≠w.heap.size+1∧g≠w.heap.size+2:=fun g hg=>by
    rcases (hl g hg).1 with h | h
    · have:=hL g h;omega
    · omega
  refine ⟨n,C,L',hd1.keep (fun g hg=>kp g (nl g hg).1 (nl g hg).2.1 (nl g hg).2.2.1),⟨ht.os,ht.tape,ht.out,by have:=ht.size;simp;omega,fun g hg hn=>(kp g (by omega) (by omega) (by omega)).trans (ht.block g hg hn)⟩,fun g hg=>⟨(hl g hg).1.imp id (fun h=>by omega),by have:=(hl g hg).2;simp;omega⟩,fun hg=>(nl _ hg).2.2.2 rfl⟩
theorem infoStr:(Tryz.prog.info? 9).map (fun i=>(i.zero,i.size,i.bytes))=some (some (.string ⟨#[]⟩),1,16):=by kernel_rfl
theorem encS_one (l:List Bs):∀ u ∈ encS l,u.oneCell'=true:=by
  intro u hu
  obtain ⟨x,_,rfl⟩:=List.mem_map.1 hu
  rfl
set_option maxRecDepth 100000 in
set_option maxHeartbeats 4000000 in
theorem open_in {p b n:Nat} {C:Bs→Nat} {L:List Nat} {D:DskV} (hlen:D.fs.length≤1000000) (hnl:∀ f ∈ D.fs,f.nm.length≤maxLen) (w:World) (hv:PV w) (h:DskAt w p b n C L D) (hL:∀ g ∈ L,g<w.heap.size) (hdd:D.dead=false) :
    CallsIn Fence.wide 9 Tryz.prog 23 #[.pointer (some ⟨p,0,none⟩)] w (OpenR p b L D w):=by
  have H:=Lib.hid (And.intro h (And.intro hv (And.intro hL (And.intro hlen hnl))))
  have HB0:=Lib.hid (((Below.refl w.heap.size w).alloc (Nat.le_refl _) (.cells #[.pointer none] 56)).alloc (by simp) (.cells #[.int .i64 0] 28))
  have HDead:=Lib.hid (fun (y:World) (hy:Below w.heap.size w y)=>show Calls Tryz.prog 20 #[.pointer (some ⟨p,0,none⟩)] y (fun e w'=>e=.returned (.bool false)∧y=w') from by have h2:=dead_any y (h.below hy);rw [hdd] at h2;exact h2)
  have HDE:=Lib.hid hdd
  clear h hv hL hlen hnl hdd
  refine callsIn_of_wp_marks Tryz.func23 rfl trivial ?_ rfl
  simp only [Tryz.ntmps23,List.size_toArray,List.length_cons,List.length_nil,Nat.reduceAdd,Nat.reduceSub,Array.replicate_succ,Array.replicate_zero,List.push_toArray,List.append_toArray,List.nil_append,List.cons_append]
  gi_wp2_with (first
    | (refine ⟨trivial,?_⟩;(with_reducible refine (callsIn_wide.2 (HDead.out _ HB0.out)).mono ?_);rintro e w2 ⟨rfl,rfl⟩;dsimp only)
    | (refine ⟨trivial,?_⟩;(with_reducible refine (callsIn_wide.2 (bfiles_any p _)).mono ?_);rintro e w2 ⟨rfl,hbx,hb2⟩;dsimp only)
    | gi_in)
  simp only [World.size_alloc,Nat.add_assoc,Nat.reduceAdd] at hbx hb2 ⊢
  obtain ⟨E,hE⟩:∃ E,E=((((((w.alloc (.cells #[.pointer none] 56)).alloc (.cells #[.int .i64 0] 28)).alloc (.cells #[.pointer (some ⟨p,0,none⟩),.int .u64 0,.string ⟨#[]⟩] 96)).alloc (.cells #[.pointer (some ⟨w.heap.size+2,0,none⟩)] 56)).alloc (.cells #[.slice none 0 0] 60)).alloc (.cells #[.slice none 0 0] 60)):=⟨_,rfl⟩
  rw [← hE] at hb2
  have eE:E.heap.size=w.heap.size+6:=by rw [hE];simp
  have bE:Below w.heap.size w E:=by
    rw [hE]
    exact (((((HB0.out.alloc (by simp;omega) _).alloc (by simp;omega) _).alloc (by simp;omega) _).alloc (by simp;omega) _))
  have x:∀ (i:Nat) (o:Obj),E.heap[w.heap.size+i]?=some o→w2.heap[w.heap.size+i]?=some o:=fun i o hi=>(hb2.block _ (by have:=(Array.getElem?_eq_some_iff.1 hi).1;omega)).trans hi
  have x0:=x 0 _ (show E.heap[w.heap.size+0]?=some (.cells #[.pointer none] 56 (0,0)) by rw [hE];exact allocs_at [.cells #[.pointer none] 56,.cells #[.int .i64 0] 28,.cells #[.pointer (some ⟨p,0,none⟩),.int .u64 0,.string ⟨#[]⟩] 96,.cells #[.pointer (some ⟨w.heap.size+2,0,none⟩)] 56,.cells #[.slice none 0 0] 60,.cells #[.slice none 0 0] 60] w 0 _ rfl)
  have x1:=x 1 _ (show E.heap[w.heap.size+1]?=some (.cells #[.int .i64 0] 28 (0,0)) by rw [hE];exact allocs_at [.cells #[.pointer none] 56,.cells #[.int .i64 0] 28,.cells #[.pointer (some ⟨p,0,none⟩),.int .u64 0,.string ⟨#[]⟩] 96,.cells #[.pointer (some ⟨w.heap.size+2,0,none⟩)] 56,.cells #[.slice none 0 0] 60,.cells #[.slice none 0 0] 60] w 1 _ rfl)
  have x2:=x 2 _ (show E.heap[w.heap.size+2]?=some (.cells #[.pointer (some ⟨p,0,none⟩),.int .u64 0,.string ⟨#[]⟩] 96 (0,0)) by rw [hE];exact allocs_at [.cells #[.pointer none] 56,.cells #[.int .i64 0] 28,.cells #[.pointer (some ⟨p,0,none⟩),.int .u64 0,.string ⟨#[]⟩] 96,.cells #[.pointer (some ⟨w.heap.size+2,0,none⟩)] 56,.cells #[.slice none 0 0] 60,.cells #[.slice none 0 0] 60] w 2 _ rfl)
  have x3:=x 3 _ (show E.heap[w.heap.size+3]?=some (.cells #[.pointer (some ⟨w.heap.size+2,0,none⟩)] 56 (0,0)) by rw [hE];exact allocs_at [.cells #[.pointer none] 56,.cells #[.int .i64 0] 28,.cells #[.pointer (some ⟨p,0,none⟩),.int .u64 0,.string ⟨#[]⟩] 96,.cells #[.pointer (some ⟨w.heap.size+2,0,none⟩)] 56,.cells #[.slice none 0 0] 60,.cells #[.slice none 0 0] 60] w 3 _ rfl)
  have x4:=x 4 _ (show E.heap[w.heap.size+4]?=some (.cells #[.slice none 0 0] 60 (0,0)) by rw [hE];exact allocs_at [.cells #[.pointer none] 56,.cells #[.int .i64 0] 28,.cells #[.pointer (some ⟨p,0,none⟩),.int .u64 0,.string ⟨#[]⟩] 96,.cells #[.pointer (some ⟨w.heap.size+2,0,none⟩)] 56,.cells #[.slice none 0 0] 60,.cells #[.slice none 0 0] 60] w 4 _ rfl)
  have x5:=x 5 _ (show E.heap[w.heap.size+5]?=some (.cells #[.slice none 0 0] 60 (0,0)) by rw [hE];exact allocs_at [.cells #[.pointer none] 56,.cells #[.int .i64 0] 28,.cells #[.pointer (some ⟨p,0,none⟩),.int .u64 0,.string ⟨#[]⟩] 96,.cells #[.pointer (some ⟨w.heap.size+2,0,none⟩)] 56,.cells #[.slice none 0 0] 60,.cells #[.slice none 0 0] 60] w 5 _ rfl)
  have hz2:w.heap.size+6≤w2.heap.size:=Nat.le_of_lt (Array.getElem?_eq_some_iff.1 hbx).1
  have bA:Below w.heap.size w w2:=bE.trans (hb2.mono (by omega))
  have HI0:=Lib.hid (fun (Y:Nat→Prop)=>show OpI p w.heap.size w Y [] w2 (.slice none 0 0) (.slice none 0 0) from ⟨x0,x1,x2,x3,x4,x5,World.ownsRow_nil _ _ _ _,World.ownsRow_nil _ _ _ _,fun k hk=>(by cases hk),fun k hk=>(by rcases hk with hk | hk <;> cases hk),fun q hq=>(by cases hq),bA⟩)
  have hD2:=H.out.1.below bA
  have HZ:=Lib.hid (And.intro hz2 bA.size)
  clear x x0 x1 x2 x3 x4 x5 hb2 bE eE bA hE
  clear E
  refine wpIn_rangeYB rfl (by decide) (gf:=77) (lb:=#[.pointer (some ⟨w.heap.size+6,0,none⟩)]) rfl trivial (enters_of Tryz.func77 (by kernel_rfl) rfl)
    (bfiles_stops _ (w.heap.size+6) p b n C L D H.out.2.2.2.1 H.out.2.2.2.2 w2 hD2 hbx) (Below.refl _ _) (fun _=>rfl)
    (fun Y pre W'=>∃ v5 v6,OpI p w.heap.size w Y pre W' v5 v6) (fun Y c pre W'=>c=.ret∧spoilt (baseL D.fs)∧OpX w.heap.size w W')
    (fun Y hY s A B row hs hg hr=>?hI) (fun Y hY c s A B row hs hg hr=>⟨hs.1,hs.2.1,hs.2.2.turn HZ.out.1 (hs.2.2.bel.size) hY hg hr⟩) (fun Y pre W' hI=>?hRd) (fun Y _=>⟨_,_,HI0.out Y⟩) ?round ?done ?stop
  case hI =>
    obtain ⟨v5,v6,hs⟩:=hs
    exact ⟨v5,v6,hs.turn HZ.out.1 hs.bel.size hY hg hr⟩
  case hRd =>
    obtain ⟨v5,v6,hI⟩:=hI
    exact H.out.2.1.below hI.bel
  case round =>
    rintro l' Y pre ⟨sn,f⟩ W hY hYr hYl ⟨v5,v6,hI⟩ hSp
    have HI:=Lib.hid hI
    have HY:=Lib.hid (And.intro hY (And.intro hYr (And.intro hYl hSp)))
    have HB:=Lib.hid ((Below.refl W.heap.size W).alloc (Nat.le_refl _) (.cells #[.string ⟨f.nm.toArray⟩,.string ⟨f.by_.toArray⟩,.int .i64 (f.sy:Int)] 101))
    clear hI hY hYr hYl hSp
    rw [show encB (sn,f)=#[.int .u64 (sn:Int),.agg #[.string ⟨f.nm.toArray⟩,.string ⟨f.by_.toArray⟩,.int .i64 (f.sy:Int)]] from rfl]
    gi_wp2
    have hYl:=HY.out.2.2.1
    have hlo:w2.heap.size+1<W.heap.size:=hYl _ HY.out.2.1
    refine ⟨fun r o hr ho=>(heap_alloc_old _ _ (hYl r hr)).trans ho,fun o=>?_⟩
    have hI1:=((HI.out.below HZ.out.1 HY.out.1 HB.out HI.out.bel.size).turn HZ.out.1 (by have:=HI.out.bel.size;simp;omega) HY.out.1 (grownBy_putObj' _ (w2.heap.size+1) o) (fun r e=>by cases e;exact HY.out.2.1))
    have hF1:((W.alloc (.cells #[.string ⟨f.nm.toArray⟩,.string ⟨f.by_.toArray⟩,.int .i64 (f.sy:Int)] 101)).putObj (w2.heap.size+1) o).heap[W.heap.size]?=some (.cells #[.string ⟨f.nm.toArray⟩,.string ⟨f.by_.toArray⟩,.int .i64 (f.sy:Int)] 101 (0,0)):=(World.putObj_heap_other (by omega)).trans (heap_alloc_new _ _)
    have hY2:∀ r,Y r→r<((W.alloc (.cells #[.string ⟨f.nm.toArray⟩,.string ⟨f.by_.toArray⟩,.int .i64 (f.sy:Int)] 101)).putObj (w2.heap.size+1) o).heap.size∧w.heap.size+6≤r:=fun r hr=>⟨by have:=hYl r hr;simp;omega,Nat.le_trans HZ.out.1 (HY.out.1 r hr)⟩
    generalize (W.alloc (.cells #[.string ⟨f.nm.toArray⟩,.string ⟨f.by_.toArray⟩,.int .i64 (f.sy:Int)] 101)).putObj (w2.heap.size+1) o=W1 at *
    have hNF:w.heap.size+6≤W.heap.size:=by have:=HZ.out.1;omega
    generalize W.heap.size=gF at *
    have HI1:=Lib.hid (And.intro hI1 (And.intro hF1 (And.intro hY2 hNF)))
    have HN:=Lib.hid (And.intro HY.out.1 HY.out.2.2.2)
    obtain ⟨A5,c5,rfl⟩:=own_slice_of hI1.o5
    obtain ⟨A6,c6,rfl⟩:=own_slice_of hI1.o6
    obtain ⟨iS,hiS,hzS,hsS,hbS⟩:=info_parts infoStr
    have HiS:=Lib.hid (And.intro hiS (And.intro hzS (And.intro hsS hbS)))
    clear hiS hzS hsS hbS
    have hfm:(sn,f) ∈ baseL D.fs:=HN.out.2.subset (by simp)
    have hff:=(base_mem hfm).1
    have hsum:=H.out.1.sum
    have hfl:f.by_.length≤4194304:=by
      have h1:=put_old (f:={ f with by_:=[] }) (g:=f) H.out.1.ris (find_of H.out.1.ris hff)
      have h2:=h1.1
      simp at h2
      omega
    have hlk:=fun y:World=>look_any sn f (by omega) (by have:=H.out.1.syn f hff;omega) y
    rw [show (Value.agg (filE f).toArray)=.agg #[.string ⟨f.nm.toArray⟩,.string ⟨f.by_.toArray⟩,.int .i64 (f.sy:Int)] from rfl] at hlk
    have d0:W1.cell? ⟨gF,0,none⟩=some (.string ⟨f.nm.toArray⟩):=cell_of_row _ _ 0 _ _ _ hF1
    have d1:W1.cell? ⟨gF,1,none⟩=some (.string ⟨f.by_.toArray⟩):=cell_of_row _ _ 1 _ _ _ hF1
    have d2:W1.cell? ⟨gF,2,none⟩=some (.int .i64 (f.sy:Int)):=cell_of_row _ _ 2 _ _ _ hF1
    have HFM:=Lib.hid hfm
    have hlen6:pre.length≤1000000:=by
      have h1:=HN.out.2.length_le
      have h2:(baseL D.fs).length≤D.fs.length:=by unfold baseL;exact List.length_filterMap_le _ _
      have h3:=H.out.2.2.2.1
      simp at h1
      omega
    have HL6:=Lib.hid hlen6
    clear hI1 hF1 hY2 hNF HY HI HB hYl hlo hfm hff hsum hfl hlen6
    rcases lk_cases sn f with ⟨hk,hkt⟩ | hk | ⟨hk,hkt⟩
    · have HLk:=Lib.hid (show ∀ y:World,Calls Tryz.prog 45 #[.int .u64 (sn:Int),.agg #[.string ⟨f.nm.toArray⟩,.string ⟨f.by_.toArray⟩,.int .i64 (f.sy:Int)]] y (fun e w'=>e=.returned (.tuple #[.int .i64 0,.string ⟨#[]⟩])∧Below y.heap.size y w') from fun y=>by have h2:=hlk y;rw [hk,hkt] at h2;exact h2)
      have HKT:=Lib.hid (show lkN (sn,f)=0 from hk)
      clear hlk hk hkt
      gi_wp2_with (first
        | (refine ⟨trivial,?_⟩;(with_reducible refine (calls_rnd (HLk.out _)).mono ?_);rintro e w4 ⟨rfl,hb4⟩
           have hI4:=HI1.out.1.below HZ.out.1 HN.out.1 hb4 HI1.out.1.bel.size
           have hF4:=(hb4.block gF (Array.getElem?_eq_some_iff.1 HI1.out.2.1).1).trans HI1.out.2.1
           have HI4:=Lib.hid (And.intro hI4 (And.intro hF4 hb4))
           have e0:w4.cell? ⟨gF,0,none⟩=some (.string ⟨f.nm.toArray⟩):=cell_of_row _ _ 0 _ _ _ hF4
           have q5:=cell_of_row _ _ 0 _ _ _ hI4.r5
           rw [show (#[Value.slice A5 (youngN pre).length c5]:Array Value)[0]?=some (.slice A5 (youngN pre).length c5) from rfl] at q5
           clear hI4 hF4 hb4 d0 d1 d2
           dsimp only)
        | (gi_at_builtin;refine wpListIn_append2 _ rfl _ _ 60 rfl (w.heap.size+6) 9 iS _ 1 16 Tryz.underlying60 HiS.out.1 HiS.out.2.1 HiS.out.2.2.1 HiS.out.2.2.2 rfl (by decide) _ (youngN pre).length (encS (youngN pre)) rfl (World.ownsRow.alloc HI4.out.1.o5 _) ⟨w4.heap.size,0,none⟩ 1 1 [.string ⟨f.nm.toArray⟩] rfl rfl (cells_newF w4 [.string ⟨f.nm.toArray⟩] _) (fun u hu=>by simp at hu;subst hu;rfl) (by have:=HL6.out;have:=youngN_len pre;unfold maxLen;omega) (by have:=HL6.out;have:=youngN_len pre;omega) (by have:=(Array.getElem?_eq_some_iff.1 HI4.out.2.1).1;have:=HI1.out.2.2.2;simp;omega) ?_
           intro v' wA ho hg hq
           obtain ⟨A7,c7,rfl⟩:=own_slice_of ho
           have hba:=(Below.refl w4.heap.size w4).alloc (Nat.le_refl _) (.cells #[.string ⟨f.nm.toArray⟩] 9)
           have r5A:=HI4.out.1.at5 hba hg
           have q6:=cell_of_row _ _ 0 _ _ _ r5A
           have f6:=thaw0 0 r5A
           have HX:=Lib.hid (HI4.out.1.young (x:=(sn,f)) HKT.out HI4.out.1.bel.size hba ho hg hq (fun r hr=>⟨Nat.lt_of_lt_of_le (HI1.out.2.2.1 r hr).1 HI4.out.2.2.size,(HI1.out.2.2.1 r hr).2⟩))
           clear r5A
           clear ho hg hq hba q5 e0)
        | gi_in)
      exact ⟨(show KeptZ Y W1 w4 from fun r o hr ho=>(HI4.out.2.2.block r (Array.getElem?_eq_some_iff.1 ho).1).trans ho).trans HX.out.1,_,_,HX.out.2⟩
    · obtain ⟨tx,htx⟩:∃ tx:Bs,tx=(lookD sn f).2:=⟨_,rfl⟩
      have HLk:=Lib.hid (show ∀ y:World,Calls Tryz.prog 45 #[.int .u64 (sn:Int),.agg #[.string ⟨f.nm.toArray⟩,.string ⟨f.by_.toArray⟩,.int .i64 (f.sy:Int)]] y (fun e w'=>e=.returned (.tuple #[.int .i64 1,.string ⟨tx.toArray⟩])∧Below y.heap.size y w') from fun y=>by have h2:=hlk y;rw [hk, ← htx] at h2;exact h2)
      have HKT:=Lib.hid (And.intro (show lkN (sn,f)=1 from hk) htx)
      clear hlk hk htx
      gi_wp2_with (first
        | (refine ⟨trivial,?_⟩;(with_reducible refine (calls_rnd (HLk.out _)).mono ?_);rintro e w4 ⟨rfl,hb4⟩
           have hI4:=HI1.out.1.below HZ.out.1 HN.out.1 hb4 HI1.out.1.bel.size
           have hF4:=(hb4.block gF (Array.getElem?_eq_some_iff.1 HI1.out.2.1).1).trans HI1.out.2.1
           have HI4:=Lib.hid (And.intro hI4 (And.intro hF4 hb4))
           have e0:w4.cell? ⟨gF,0,none⟩=some (.string ⟨f.nm.toArray⟩):=cell_of_row _ _ 0 _ _ _ hF4
           have q5:=cell_of_row _ _ 0 _ _ _ hI4.r6
           rw [show (#[Value.slice A6 (goodN pre).length c6]:Array Value)[0]?=some (.slice A6 (goodN pre).length c6) from rfl] at q5
           clear hI4 hF4 hb4 d0 d1 d2
           dsimp only)
        | (gi_at_builtin;refine wpListIn_append2 _ rfl _ _ 60 rfl (w.heap.size+6) 9 iS _ 1 16 Tryz.underlying60 HiS.out.1 HiS.out.2.1 HiS.out.2.2.1 HiS.out.2.2.2 rfl (by decide) _ (goodN pre).length (encS (goodN pre)) rfl (World.ownsRow.alloc HI4.out.1.o6 _) ⟨w4.heap.size,0,none⟩ 1 1 [.string ⟨f.nm.toArray⟩] rfl rfl (cells_newF w4 [.string ⟨f.nm.toArray⟩] _) (fun u hu=>by simp at hu;subst hu;rfl) (by have:=HL6.out;have:=goodN_len pre;unfold maxLen;omega) (by have:=HL6.out;have:=goodN_len pre;omega) (by have:=(Array.getElem?_eq_some_iff.1 HI4.out.2.1).1;have:=HI1.out.2.2.2;simp;omega) ?_
           intro v' wA ho hg hq
           obtain ⟨A7,c7,rfl⟩:=own_slice_of ho
           have hba:=(Below.refl w4.heap.size w4).alloc (Nat.le_refl _) (.cells #[.string ⟨f.nm.toArray⟩] 9)
           have r6A:=HI4.out.1.at6 hba hg 5 _ (by omega) HI4.out.1.r6
           have q6:=cell_of_row _ _ 0 _ _ _ r6A
           have f6:=thaw0 0 r6A
           have HA:=Lib.hid (And.intro hba (And.intro ho (And.intro hg (And.intro hq (And.intro (HI4.out.1.at6 hba hg 2 _ (by omega) HI4.out.1.sto) (HI4.out.1.at6 hba hg 3 _ (by omega) HI4.out.1.r4))))))
           clear r6A
           clear ho hg hq hba q5 e0)
        | gi_in)
      obtain ⟨W5,hW5⟩:∃ W5,W5=wA.setCell ⟨w.heap.size+5,0,none⟩ (.slice A7 ((goodN pre).length+1) c7):=⟨_,rfl⟩
      rw [← hW5]
      have hs5:W5.heap[w.heap.size+2]?=some (.cells #[.pointer (some ⟨p,0,none⟩),.int .u64 ((lastG pre).1:Int),.string ⟨(lastG pre).2.toArray⟩] 96 (0,0)):=by rw [hW5];exact (setC_other (by omega)).trans HA.out.2.2.2.2.1
      have h35:W5.heap[w.heap.size+3]?=some (.cells #[.pointer (some ⟨w.heap.size+2,0,none⟩)] 56 (0,0)):=by rw [hW5];exact (setC_other (by omega)).trans HA.out.2.2.2.2.2
      generalize (lastG pre).1=lg1 at hs5
      generalize (⟨(lastG pre).2.toArray⟩:ByteArray)=lg2 at hs5
      have HC5:=Lib.hid (fun (y:World) (hy:ButOne (w.heap.size+2) W5 y)=>show y.cell? ⟨w.heap.size+3,0,none⟩=some (.pointer (some ⟨w.heap.size+2,0,none⟩)) from cell_of_row _ _ 0 _ _ _ ((hy.block _ (Array.getElem?_eq_some_iff.1 h35).1 (by omega)).trans h35))
      have HW5:=Lib.hid (And.intro hW5 hs5)
      clear hW5 hs5 h35
      refine RegK.wpIn_region_can (F:=(Fence.wide.inRound l')) (ButOne (w.heap.size+2) W5) [(0,0),(1,0),(2,0),(3,0),(4,0),(5,0),(6,1),(7,0),(8,0),(9,1)] (by kernel_rfl) (by kernel_rfl) (by kernel_rfl) (fun _ _ d _ _ h=>by cases d <;> exact h) ⟨rfl,rfl,rfl,Nat.le_refl _,fun _ _ _=>rfl⟩ ?_
      dsimp only [RegK.pick,List.getElem?_cons_zero,List.getElem?_cons_succ]
      change RegK.Can _ _ _ _ _ _ _ _ W5.drew
      have hkd:ButOne (w.heap.size+2) W5 W5.drew:=⟨rfl,rfl,rfl,Nat.le_refl _,fun _ _ _=>rfl⟩
      have hr1:W5.drew.heap[w.heap.size+2]?=_:=HW5.out.2
      generalize W5.drew=v1 at *
      refine RegK.can_reads ?_
      intro K hK
      go_simp
      refine ⟨.pointer (some ⟨w.heap.size+2,0,none⟩),fun y hy=>?_,hK _ ?_⟩
      · have c1:=HC5.out y hy
        go_simp
      clear hK K
      refine RegK.can_reads ?_
      intro K hK
      go_simp
      refine ⟨.pointer (some ⟨w.heap.size+2,0,none⟩),fun y hy=>?_,hK _ ?_⟩
      · have c1:=HC5.out y hy
        go_simp
      clear hK K
      iterate 4 (refine RegK.can_reads ?_;intro K hK;go_simp;(first | refine ⟨_,fun _ _=>rfl,hK _ ?_⟩ | refine hK _ ?_);clear hK K)
      have hcc:=cell_of_row _ _ 1 _ _ _ hr1
      have htt:=thaw0 1 hr1
      have hkn:=ButOne.st (i:=1) (v:=.int .u64 (sn:Int)) hkd
      have hrn:(v1.setCell ⟨w.heap.size+2,1,none⟩ (.int .u64 (sn:Int))).heap[w.heap.size+2]?=some (.cells #[.pointer (some ⟨p,0,none⟩),.int .u64 (sn:Int),.string lg2] 96 (0,0)):=heap_setCell_same v1 (w.heap.size+2) 1 #[.pointer (some ⟨p,0,none⟩),.int .u64 (lg1:Int),.string lg2] _ (.int .u64 (sn:Int)) hr1
      refine RegK.can_turns (fun _=>trivial) ?_
      intro K K0 hK hK0
      go_simp
      refine hK _ _ hkn ?_
      clear hK K hK0 K0 hcc htt hkd hr1
      generalize v1.setCell ⟨w.heap.size+2,1,none⟩ (.int .u64 (sn:Int))=v2 at *
      have hkd:=hkn
      have hr2:=hrn
      clear hkn hrn
      iterate 2 (refine RegK.can_reads ?_;intro K hK;go_simp;(first | refine ⟨_,fun _ _=>rfl,hK _ ?_⟩ | refine hK _ ?_);clear hK K)
      have hcc:=cell_of_row _ _ 2 _ _ _ hr2
      have htt:=thaw0 2 hr2
      have hkn:=ButOne.st (i:=2) (v:=.string ⟨tx.toArray⟩) hkd
      have hrn:(v2.setCell ⟨w.heap.size+2,2,none⟩ (.string ⟨tx.toArray⟩)).heap[w.heap.size+2]?=some (.cells #[.pointer (some ⟨p,0,none⟩),.int .u64 (sn:Int),.string ⟨tx.toArray⟩] 96 (0,0)):=heap_setCell_same v2 (w.heap.size+2) 2 #[.pointer (some ⟨p,0,none⟩),.int .u64 (sn:Int),.string lg2] _ (.string ⟨tx.toArray⟩) hr2
      refine RegK.can_turns (fun _=>trivial) ?_
      intro K K0 hK hK0
      go_simp
      refine hK _ _ hkn ?_
      clear hK K hK0 K0 hcc htt hkd hr2
      generalize v2.setCell ⟨w.heap.size+2,2,none⟩ (.string ⟨tx.toArray⟩)=v3 at *
      have hkd:=hkn
      have hr3:=hrn
      clear hkn hrn
      refine RegK.can_nil ?_
      have hg7:=HI4.out.1.good (x:=(sn,f)) HKT.out.1 HI4.out.1.bel.size HA.out.1 HA.out.2.1 HA.out.2.2.1 HA.out.2.2.2.1 (fun r hr=>⟨Nat.lt_of_lt_of_le (HI1.out.2.2.1 r hr).1 HI4.out.2.2.size,(HI1.out.2.2.1 r hr).2⟩) (by rw [← HW5.out.1];exact hkd) (by rw [show (lookD sn f).2=tx from HKT.out.2.symm];exact hr3)
      exact ⟨(show KeptZ Y W1 w4 from fun r o hr ho=>(HI4.out.2.2.block r (Array.getElem?_eq_some_iff.1 ho).1).trans ho).trans hg7.1,_,_,hg7.2⟩
    · have HLk:=Lib.hid (show ∀ y:World,Calls Tryz.prog 45 #[.int .u64 (sn:Int),.agg #[.string ⟨f.nm.toArray⟩,.string ⟨f.by_.toArray⟩,.int .i64 (f.sy:Int)]] y (fun e w'=>e=.returned (.tuple #[.int .i64 2,.string ⟨#[]⟩])∧Below y.heap.size y w') from fun y=>by have h2:=hlk y;rw [hk,hkt] at h2;exact h2)
      have HKT:=Lib.hid (show lkN (sn,f)=2 from hk)
      clear hlk hk hkt
      gi_wp2_with (first
        | (refine ⟨trivial,?_⟩;(with_reducible refine (calls_rnd (HLk.out _)).mono ?_);rintro e w4 ⟨rfl,hb4⟩
           have hI4:=HI1.out.1.below HZ.out.1 HN.out.1 hb4 HI1.out.1.bel.size
           have hF4:=(hb4.block gF (Array.getElem?_eq_some_iff.1 HI1.out.2.1).1).trans HI1.out.2.1
           have HI4:=Lib.hid (And.intro hI4 (And.intro hF4 hb4))
           have q2:=cell_of_row _ _ 0 _ _ _ hI4.r2
           have q3:=cell_of_row _ _ 0 _ _ _ hI4.r3
           have f2:=thaw0 0 hI4.r2
           have f3:(w4.setCell ⟨w.heap.size,0,none⟩ (.pointer none)).frozen? ⟨w.heap.size+1,0,none⟩=false:=thaw0 0 ((setC_other (by omega)).trans hI4.r3)
           have q4:(w4.setCell ⟨w.heap.size,0,none⟩ (.pointer none)).cell? ⟨w.heap.size+1,0,none⟩=some (.int .i64 0):=cell_of_row _ _ 0 _ _ _ ((setC_other (by omega)).trans hI4.r3)
           clear hI4 hF4 hb4 d0 d1 d2
           dsimp only)
        | gi_in)
      exact ⟨fun r o hr ho=>(setC_other (by have:=HI1.out.2.2.1 r hr;omega)).trans ((setC_other (by have:=HI1.out.2.2.1 r hr;omega)).trans ((HI4.out.2.2.block r (Array.getElem?_eq_some_iff.1 ho).1).trans ho)),rfl,⟨_,HFM.out,HKT.out⟩,⟨(setC_other (by omega)).trans (heap_setCell_same w4 _ 0 #[.pointer none] _ _ HI4.out.1.r2),heap_setCell_same _ _ 0 #[.int .i64 0] _ _ ((setC_other (by omega)).trans HI4.out.1.r3),(HI4.out.1.bel.setCell (p:=⟨w.heap.size,0,none⟩) (Nat.le_refl _) _).setCell (p:=⟨w.heap.size+1,0,none⟩) (Nat.le_succ _) _⟩⟩
  case stop =>
    rintro Y c pre W hY hYw hSp ⟨rfl,hsp,hX⟩ hK
    have hIT:=hX.turn HZ.out.1 hX.bel.size hY (grownBy_putObj' W w2.heap.size (.deferred none)) (fun r e=>by cases e;exact hYw)
    have y2:(W.putObj w2.heap.size (.deferred none)).cell? ⟨w.heap.size,0,none⟩=some (.pointer none):=cell_of_row _ _ 0 _ _ _ hIT.r2
    have y3:(W.putObj w2.heap.size (.deferred none)).cell? ⟨w.heap.size+1,0,none⟩=some (.int .i64 10):=cell_of_row _ _ 0 _ _ _ hIT.r3
    have HT:=Lib.hid (And.intro hIT hsp)
    clear hIT hX hsp
    gi_wp2
    refine ⟨by simp,.inl ⟨_,_,rfl,run_takeDeferred hK,?_⟩⟩
    refine ⟨.tuple #[.pointer none,.int .i64 10],?_,.inl ⟨HT.out.2,rfl,HT.out.1.bel⟩⟩
    simp [results,Tryz.results23,go_sem,y2,y3] <;> rfl
  case done =>
    rintro Y ys W hY hYw rfl ⟨v5,v6,hI⟩ hK
    obtain ⟨A5,c5,rfl⟩:=own_slice_of hI.o5
    obtain ⟨A6,c6,rfl⟩:=own_slice_of hI.o6
    have q6:=cell_of_row _ _ 0 _ _ _ hI.r6
    have q5:=cell_of_row _ _ 0 _ _ _ hI.r5
    have f6:=thaw0 0 hI.r6
    obtain ⟨iS,hiS,hzS,hsS,hbS⟩:=info_parts infoStr
    have HiS:=Lib.hid (And.intro hiS (And.intro hzS (And.intro hsS hbS)))
    clear hiS hzS hsS hbS
    have hgl:=goodN_len (baseL D.fs)
    have hyl:=youngN_len (baseL D.fs)
    have hbl:(baseL D.fs).length≤1000000:=by
      have h2:(baseL D.fs).length≤D.fs.length:=by unfold baseL;exact List.length_filterMap_le _ _
      have h3:=H.out.2.2.2.1
      omega
    obtain ⟨Yn,hYn⟩:∃ Yn,Yn=youngN (baseL D.fs):=⟨_,rfl⟩
    obtain ⟨Gn,hGn⟩:∃ Gn,Gn=goodN (baseL D.fs):=⟨_,rfl⟩
    obtain ⟨Nm,hNm⟩:∃ Nm,Nm=rmN (baseL D.fs):=⟨_,rfl⟩
    have hNm2:Nm=Yn++Gn.dropLast:=by rw [hNm,hYn,hGn];rfl
    have hnd:Nm.Nodup:=by rw [hNm];exact rmN_nodup (base_rise H.out.1.ris)
    have hmem:∀ nm ∈ Nm,∃ f ∈ D.fs,f.nm=nm:=fun nm h=>rmN_mem (by rw [← hNm];exact h)
    have ho5:=hI.o5
    have ho6:=hI.o6
    rw [← hYn] at hyl q5 ho5
    rw [← hGn] at hgl q6 ho6
    obtain ⟨ny,hny⟩:∃ ny,ny=Yn.length:=⟨_,rfl⟩
    obtain ⟨ng,hng⟩:∃ ng,ng=Gn.length:=⟨_,rfl⟩
    rw [← hny] at hyl q5 ho5
    rw [← hng] at hgl q6 ho6
    rw [show (#[Value.slice A5 ny c5]:Array Value)[0]?=some (.slice A5 ny c5) from rfl] at q5
    rw [show (#[Value.slice A6 ng c6]:Array Value)[0]?=some (.slice A6 ng c6) from rfl] at q6
    have hnl5:(youngN (baseL D.fs)).length=ny:=by rw [hny,hYn]
    have hnl6:(goodN (baseL D.fs)).length=ng:=by rw [hng,hGn]
    have hdl:(encS Gn.dropLast).length=ng - 1:=by unfold encS;rw [List.length_map,List.length_dropLast,hng]
    have hcells:∀ (y:World),(∀ g,w.heap.size+6≤g→g<W.heap.size→y.heap[g]?=W.heap[g]?)→(Value.slice A6 (ng - 1) c6=.slice none 0 0∧ng - 1=0)∨∃ ad c,Value.slice A6 (ng - 1) c6=.slice (some ad) (ng - 1) c∧∀ j u,(encS Gn.dropLast)[j]?=some u→y.cell? (ad.add j)=some u:=fun y hy=>by
      rcases ho6.2 with ⟨e,h0⟩ | ⟨g6,cap6,cur6,e,hb6,hg6,hn6,hm6,hcs,htk⟩
      · injection e with e1 e2 e3
        subst e1
        subst e3
        exact .inl ⟨by rw [h0],by omega⟩
      · injection e with e1 e2 e3
        subst e1
        refine .inr ⟨_,_,rfl,fun j u hu=>?_⟩
        have h8:=World.ownsRow.cells ho6 (g:=g6) rfl j u (by
          unfold encS at hu ⊢
          rw [List.getElem?_map] at hu ⊢
          rw [List.getElem?_dropLast] at hu
          split at hu
          · exact hu
          · cases hu)
        rw [Lib.add_plain] at h8 ⊢
        exact (World.cell?_of_block (hy g6 hb6 (Array.getElem?_eq_some_iff.1 hg6).1)).trans h8
    have hcap:ng≤c6∨(A6=none∧ng=0):=by
      rcases ho6.2 with ⟨e,h0⟩ | ⟨g6,cap6,cur6,e,hb6,hg6,hn6,hm6,hcs,htk⟩
      · injection e with e1 e2 e3
        exact .inr ⟨e1,h0⟩
      · injection e with e1 e2 e3
        subst e3
        exact .inl hn6
    have HI:=Lib.hid hI
    have HK:=Lib.hid (And.intro hK (And.intro hY hYw))
    have HO:=Lib.hid (And.intro ho5 (And.intro hcells (And.intro hdl (And.intro hNm2 (And.intro hnd (And.intro hmem (And.intro hny (And.intro hng hNm))))))))
    have hng6:ng≤1000000:=by omega
    have hny6:ny≤1000000:=by omega
    clear hI hK hY hYw hgl hyl hbl hYn hGn ho5 ho6 hcells hdl hNm2 hnd hmem hny hng
    by_cases hg0:ng=0
    · subst hg0
      have HV:=Lib.hid (show Value.slice A6 0 c6=.slice A6 (0 - 1) c6 from rfl)
      have q6:W.cell? ⟨w.heap.size+5,0,none⟩=some (.slice A6 0 c6):=q6
      have HKP:=Lib.hid (show ButOne (w.heap.size+5) W W from ⟨rfl,rfl,rfl,Nat.le_refl _,fun _ _ _=>rfl⟩)
      have hbs:Below w.heap.size w W:=HI.out.bel
      have HBS:=Lib.hid hbs
      clear hbs
      gi_wp2_with (first
        | (gi_at_builtin;refine wpListIn_append3 _ rfl _ _ 60 rfl (w.heap.size+6) 9 iS _ 1 16 Tryz.underlying60 HiS.out.1 HiS.out.2.1 HiS.out.2.2.1 HiS.out.2.2.2 rfl (by decide) (.slice A5 ny c5) ny (encS Yn) rfl (own_stay HO.out.1 (fun k hk hB hl=>HKP.out.block k hl (by omega))) (.slice A6 (0 - 1) c6) (0 - 1) (encS Gn.dropLast) HV.out (by rw [Nat.mul_one];exact HO.out.2.2.1) (HO.out.2.1 _ (fun g hg hl=>HKP.out.block g hl (by omega))) (encS_one _) (by unfold maxLen;omega) (by omega) (by have:=(Array.getElem?_eq_some_iff.1 HI.out.r6).1;first | omega | (simp;omega)) ?_
           intro v' W7 ho hg
           obtain ⟨A7,c7,rfl⟩:=own_slice_of ho
           have HA:=Lib.hid (And.intro ho hg)
           clear ho hg)
        | gi_in)
      have hM:ny+(0 - 1)=Nm.length:=by
        rw [HO.out.2.2.2.1,List.length_append,List.length_dropLast, ← HO.out.2.2.2.2.2.2.1, ← HO.out.2.2.2.2.2.2.2.1]
      have ho7:=HA.out.1
      rw [show encS Yn++encS Gn.dropLast=Nm.map encStr by rw [HO.out.2.2.2.1];unfold encS;rw [List.map_append]] at ho7
      obtain ⟨A8,c8,he8,Y8,hY8,hrow8⟩:=names_row hM.symm ho7
      injection he8 with e1 e2 e3
      subst e1
      subst e3
      have h5:=fun k e=>(own_at HO.out.1 (k:=k) e).1
      have hbel7:Below w.heap.size w W7:=below_grown HA.out.2 HBS.out (HBS.out.size) (fun k e=>by have:=h5 k e;omega)
      have kp7:∀ g o,W.heap[g]?=some o→g≠w.heap.size+5→(Value.slice A5 ny c5).ownBlock≠some g→W7.heap[g]?=some o:=fun g o hg hn h5 =>
        (HA.out.2.block g (Nat.lt_of_lt_of_le (Array.getElem?_eq_some_iff.1 hg).1 HKP.out.size) (fun e=>h5 e.symm)).trans ((HKP.out.block g (Array.getElem?_eq_some_iff.1 hg).1 hn).trans hg)
      have nb:∀ g,g<w.heap.size+6→(Value.slice A5 ny c5).ownBlock≠some g:=fun g hg e=>by have:=h5 g e;omega
      have HX:=Lib.hid (And.intro (kp7 _ _ HI.out.r2 (by omega) (nb _ (by omega))) (And.intro (kp7 _ _ HI.out.r3 (by omega) (nb _ (by omega))) (And.intro (kp7 _ _ HI.out.sto (by omega) (nb _ (by omega))) (And.intro (kp7 _ _ HI.out.r4 (by omega) (nb _ (by omega))) (kp7 _ _ HK.out.1 (by have:=HZ.out.1;omega) (fun e=>HI.out.off _ (.inl (by rw [hnl5];exact e)) HK.out.2.2))))))
      have hstart:RmI p b L D Nm w W7 0 W7:=by
        obtain ⟨L1,hd1,hl1⟩:=(H.out.1.below hbel7).trim
        exact ⟨n,C,L1,hd1,fun g hg=>⟨.inl (hl1 g hg).1,(hl1 g hg).2⟩,Turns.of hbel7,fun g o _ h=>h⟩
      have H7:=Lib.hid (And.intro hstart (And.intro hbel7 (And.intro hY8 hrow8)))
      have HM:=Lib.hid hM
      obtain ⟨M,hMM⟩:∃ M,M=ny+(0 - 1):=⟨_,rfl⟩
      first
        | rw [show ((ny:Int)+((ng - 1:Nat):Int))=(M:Int) from by rw [hMM];exact (Int.natCast_add _ _).symm]
        | rw [show (ny:Int)=(M:Int) from by rw [hMM];simp]
      have HMM:=Lib.hid (show M=Nm.length by rw [hMM];exact hM)
      have HMd:=Lib.hid hMM
      have hM6:M≤2000000:=by omega
      clear hM ho7 hY8 hrow8 h5 hbel7 kp7 nb hstart hMM q5 q6 f6 HV hnl5 hnl6 hcap hng6 hny6
      gi_loopw [68] (fun s68 wr=>∃ i:Nat,s68=.int .i64 (i:Int)∧i≤M∧RmI p b L D Nm w W7 i wr∧W7.heap.size≤wr.heap.size) (fun s68 _=>M - (intOf s68).toNat)
      case atStart=>exact ⟨0,rfl,Nat.zero_le _,H7.out.1,Nat.le_refl _⟩
      case round =>
        obtain ⟨i,rfl,hi,⟨n8,C8,L8,hd8,hl8,ht8,hk8⟩,hs8⟩:=hrel
        by_cases hiM:i<M
        · have hiI:(i:Int)<(M:Int):=by omega
          have hMd:=HMd.out
          have hiI2:(i:Int)<(ny:Int):=by omega
          clear hMd
          have hin:i<Nm.length:=by rw [← HMM.out];exact hiM
          obtain ⟨nm,hnm⟩:∃ nm,nm=Nm[i]:=⟨_,rfl⟩
          obtain ⟨gk,rfl,hck⟩:=H7.out.2.2.2 i nm (by rw [List.getElem?_eq_getElem hin,hnm])
          have hcw:=hck wr (fun r o hr ho=>hk8 r o (by have:=(H7.out.2.2.1 r hr).1;omega) ho)
          obtain ⟨f8,hf8,hdd8⟩:=rems_find HDE.out HO.out.2.2.2.2.1 HO.out.2.2.2.2.2.1 hin hnm
          have hnl:(⟨nm.toArray⟩:ByteArray).size≤maxLen:=by
            obtain ⟨f,hf,hfn⟩:=HO.out.2.2.2.2.2.1 nm (by rw [hnm];exact List.getElem_mem hin)
            have h3:=H.out.2.2.2.2 f hf
            rw [hfn] at h3
            simpa [ByteArray.size] using h3
          have hrm:(remD (rems D (Nm.take i)) nm).2=0:=by rw [rem_one hdd8 hf8]
          have HR:=Lib.hid (show Calls Tryz.prog 46 #[.pointer (some ⟨p,0,none⟩),.string ⟨nm.toArray⟩] wr (fun e w'=>e=.returned (.int .i64 0)∧RmI p b L D Nm w W7 (i+1) w'∧W7.heap.size≤w'.heap.size) from (remove_any ⟨nm.toArray⟩ hnl wr hd8 (fun g hg=>(hl8 g hg).2)).mono (by
            rintro e w' ⟨k,rfl,hr⟩
            have h9:=RmI.step H.out.2.2.1 hd8 hl8 ht8 hk8 H7.out.2.1.size hin hnm hr hs8
            have hk0:k=0:=by rw [hr.1];show (((remD (rems D (Nm.take i)) nm).2:Nat):Int)=0;rw [hrm];rfl
            subst hk0
            exact ⟨rfl,h9⟩))
          have hw1:wrap64 ((i:Int)+1)=((i+1:Nat):Int):=by unfold wrap64;omega
          clear hd8 hl8 ht8 hk8 hs8 hck hf8 hdd8 hnl hrm hnm hin
          gi_wp2_with (first
            | (refine ⟨trivial,?_⟩;(with_reducible refine (callsIn_wide.2 HR.out).mono ?_);rintro e w9 ⟨rfl,h9⟩;have H9:=Lib.hid h9;clear h9;dsimp only)
            | gi_in)
          exact ⟨⟨i+1,by rw [Int.natCast_add];rfl,by omega,H9.out⟩,by simp only [intOf];omega⟩
        · have hiI : ¬ (i:Int)<(M:Int):=by omega
          have hie:i=M:=by omega
          have y4:wr.cell? ⟨w.heap.size+3,0,none⟩=some (.pointer (some ⟨w.heap.size+2,0,none⟩)):=cell_of_row _ _ 0 _ _ _ (hk8 _ _ (by omega) HX.out.2.2.2.1)
          have y2:=hk8 _ _ (by omega) HX.out.1
          have z2:=cell_of_row _ _ 0 _ _ _ y2
          have g2:=thaw0 0 y2
          have y3:(wr.setCell ⟨w.heap.size,0,none⟩ (.pointer (some ⟨w.heap.size+2,0,none⟩))).heap[w.heap.size+1]?=_:=(setC_other (by omega)).trans (hk8 _ _ (by omega) HX.out.2.1)
          have z3:=cell_of_row _ _ 0 _ _ _ y3
          have g3:=thaw0 0 y3
          have hk8z:=hk8 _ _ (by have:=HZ.out.1;omega) HX.out.2.2.2.2
          have HE:=Lib.hid (And.intro (show RmI p b L D Nm w W7 i wr from ⟨n8,C8,L8,hd8,hl8,ht8,hk8⟩) (And.intro y2 (And.intro y3 (And.intro hie (And.intro hs8 (hk8 _ _ (by omega) HX.out.2.2.1))))))
          clear hd8 hl8 ht8 hk8 hs8 y2 y3
          have y6:wr.heap[w2.heap.size]?=_:=hk8z
          gi_wp2
          have hd6:w.heap.size+6≤w2.heap.size∧w2.heap.size<W7.heap.size:=⟨HZ.out.1,(Array.getElem?_eq_some_iff.1 HX.out.2.2.2.2).1⟩
          have hKz:((wr.setCell ⟨w.heap.size,0,none⟩ (.pointer (some ⟨w.heap.size+2,0,none⟩))).setCell ⟨w.heap.size+1,0,none⟩ (.int .i64 0)).heap[w2.heap.size]?=some (.deferred (some [])):=(setC_other (by omega)).trans ((setC_other (by omega)).trans y6)
          have p2:(((wr.setCell ⟨w.heap.size,0,none⟩ (.pointer (some ⟨w.heap.size+2,0,none⟩))).setCell ⟨w.heap.size+1,0,none⟩ (.int .i64 0)).putObj w2.heap.size (.deferred none)).cell? ⟨w.heap.size,0,none⟩=some (.pointer (some ⟨w.heap.size+2,0,none⟩)) :=
            cell_of_row _ _ 0 _ _ _ ((World.putObj_heap_other (by omega)).trans ((setC_other (by omega)).trans (heap_setCell_same wr _ 0 #[.pointer none] _ _ HE.out.2.1)))
          have p3:(((wr.setCell ⟨w.heap.size,0,none⟩ (.pointer (some ⟨w.heap.size+2,0,none⟩))).setCell ⟨w.heap.size+1,0,none⟩ (.int .i64 0)).putObj w2.heap.size (.deferred none)).cell? ⟨w.heap.size+1,0,none⟩=some (.int .i64 0) :=
            cell_of_row _ _ 0 _ _ _ ((World.putObj_heap_other (by omega)).trans (heap_setCell_same _ _ 0 #[.int .i64 0] _ _ HE.out.2.2.1))
          obtain ⟨n9,C9,L9,k1,k2,k3,k4⟩:=HE.out.1.fin (by rw [HE.out.2.2.2.1];exact HMM.out) H.out.2.2.1 hd6 (.pointer (some ⟨w.heap.size+2,0,none⟩)) (.int .i64 0) (.deferred none)
          refine ⟨by simp,.inl ⟨_,_,rfl,run_takeDeferred hKz,?_⟩⟩
          refine ⟨.tuple #[.pointer (some ⟨w.heap.size+2,0,none⟩),.int .i64 0],?_,.inr ⟨fun ⟨x,hx,hx2⟩=>HI.out.ok x hx hx2,w.heap.size+2,rfl,(World.putObj_heap_other (by omega)).trans ((setC_other (by omega)).trans ((setC_other (by omega)).trans HE.out.2.2.2.2.2)),by omega,n9,C9,L9,by rw [← hNm];exact k1,k2,k3,k4⟩⟩
          simp [results,Tryz.results23,go_sem,p2,p3] <;> rfl
    · have hgi:(0:Int)<(ng:Int):=by omega
      have hc6:ng - 1≤c6:=by omega
      have HV:=Lib.hid (show Value.slice A6 (ng - 1) c6=.slice A6 (ng - 1) c6 from rfl)
      have q5':(W.setCell ⟨w.heap.size+5,0,none⟩ (.slice A6 (ng - 1) c6)).cell? ⟨w.heap.size+4,0,none⟩=some (.slice A5 ny c5):=by
        rw [World.cell?_setCell_other _ _ _ _ (by intro e;injection e with e1;omega)]
        exact q5
      have q6':(W.setCell ⟨w.heap.size+5,0,none⟩ (.slice A6 (ng - 1) c6)).cell? ⟨w.heap.size+5,0,none⟩=some (.slice A6 (ng - 1) c6):=World.cell?_setCell_same _ _ _ q6
      have HKP:=Lib.hid (show ButOne (w.heap.size+5) W (W.setCell ⟨w.heap.size+5,0,none⟩ (.slice A6 (ng - 1) c6)) from ButOne.st ⟨rfl,rfl,rfl,Nat.le_refl _,fun _ _ _=>rfl⟩)
      have HBS:=Lib.hid (HI.out.bel.setCell (p:=⟨w.heap.size+5,0,none⟩) (by show w.heap.size≤w.heap.size+5;omega) (.slice A6 (ng - 1) c6))
      gi_wp2_with (first
        | (gi_at_builtin;refine wpListIn_append3 _ rfl _ _ 60 rfl (w.heap.size+6) 9 iS _ 1 16 Tryz.underlying60 HiS.out.1 HiS.out.2.1 HiS.out.2.2.1 HiS.out.2.2.2 rfl (by decide) (.slice A5 ny c5) ny (encS Yn) rfl (own_stay HO.out.1 (fun k hk hB hl=>HKP.out.block k hl (by omega))) (.slice A6 (ng - 1) c6) (ng - 1) (encS Gn.dropLast) HV.out (by rw [Nat.mul_one];exact HO.out.2.2.1) (HO.out.2.1 _ (fun g hg hl=>HKP.out.block g hl (by omega))) (encS_one _) (by unfold maxLen;omega) (by omega) (by have:=(Array.getElem?_eq_some_iff.1 HI.out.r6).1;first | omega | (simp;omega)) ?_
           intro v' W7 ho hg
           obtain ⟨A7,c7,rfl⟩:=own_slice_of ho
           have HA:=Lib.hid (And.intro ho hg)
           clear ho hg)
        | gi_in)
      have hM:ny+(ng - 1)=Nm.length:=by
        rw [HO.out.2.2.2.1,List.length_append,List.length_dropLast, ← HO.out.2.2.2.2.2.2.1, ← HO.out.2.2.2.2.2.2.2.1]
      have ho7:=HA.out.1
      rw [show encS Yn++encS Gn.dropLast=Nm.map encStr by rw [HO.out.2.2.2.1];unfold encS;rw [List.map_append]] at ho7
      obtain ⟨A8,c8,he8,Y8,hY8,hrow8⟩:=names_row hM.symm ho7
      injection he8 with e1 e2 e3
      subst e1
      subst e3
      have h5:=fun k e=>(own_at HO.out.1 (k:=k) e).1
      have hbel7:Below w.heap.size w W7:=below_grown HA.out.2 HBS.out (HBS.out.size) (fun k e=>by have:=h5 k e;omega)
      have kp7:∀ g o,W.heap[g]?=some o→g≠w.heap.size+5→(Value.slice A5 ny c5).ownBlock≠some g→W7.heap[g]?=some o:=fun g o hg hn h5 =>
        (HA.out.2.block g (Nat.lt_of_lt_of_le (Array.getElem?_eq_some_iff.1 hg).1 HKP.out.size) (fun e=>h5 e.symm)).trans ((HKP.out.block g (Array.getElem?_eq_some_iff.1 hg).1 hn).trans hg)
      have nb:∀ g,g<w.heap.size+6→(Value.slice A5 ny c5).ownBlock≠some g:=fun g hg e=>by have:=h5 g e;omega
      have HX:=Lib.hid (And.intro (kp7 _ _ HI.out.r2 (by omega) (nb _ (by omega))) (And.intro (kp7 _ _ HI.out.r3 (by omega) (nb _ (by omega))) (And.intro (kp7 _ _ HI.out.sto (by omega) (nb _ (by omega))) (And.intro (kp7 _ _ HI.out.r4 (by omega) (nb _ (by omega))) (kp7 _ _ HK.out.1 (by have:=HZ.out.1;omega) (fun e=>HI.out.off _ (.inl (by rw [hnl5];exact e)) HK.out.2.2))))))
      have hstart:RmI p b L D Nm w W7 0 W7:=by
        obtain ⟨L1,hd1,hl1⟩:=(H.out.1.below hbel7).trim
        exact ⟨n,C,L1,hd1,fun g hg=>⟨.inl (hl1 g hg).1,(hl1 g hg).2⟩,Turns.of hbel7,fun g o _ h=>h⟩
      have H7:=Lib.hid (And.intro hstart (And.intro hbel7 (And.intro hY8 hrow8)))
      have HM:=Lib.hid hM
      obtain ⟨M,hMM⟩:∃ M,M=ny+(ng - 1):=⟨_,rfl⟩
      first
        | rw [show ((ny:Int)+((ng - 1:Nat):Int))=(M:Int) from by rw [hMM];exact (Int.natCast_add _ _).symm]
        | rw [show (ny:Int)=(M:Int) from by rw [hMM];simp]
      have HMM:=Lib.hid (show M=Nm.length by rw [hMM];exact hM)
      have HMd:=Lib.hid hMM
      have hM6:M≤2000000:=by omega
      clear hM ho7 hY8 hrow8 h5 hbel7 kp7 nb hstart hMM hg0 hgi hc6 q5' q6' q5 q6 f6 HV hnl5 hnl6 hcap hng6 hny6
      gi_loopw [68] (fun s68 wr=>∃ i:Nat,s68=.int .i64 (i:Int)∧i≤M∧RmI p b L D Nm w W7 i wr∧W7.heap.size≤wr.heap.size) (fun s68 _=>M - (intOf s68).toNat)
      case atStart=>exact ⟨0,rfl,Nat.zero_le _,H7.out.1,Nat.le_refl _⟩
      case round =>
        obtain ⟨i,rfl,hi,⟨n8,C8,L8,hd8,hl8,ht8,hk8⟩,hs8⟩:=hrel
        by_cases hiM:i<M
        · have hiI:(i:Int)<(M:Int):=by omega
          have hMd:=HMd.out
          have hiI2:(i:Int)<(ny:Int)+((ng - 1:Nat):Int):=by omega
          clear hMd
          have hin:i<Nm.length:=by rw [← HMM.out];exact hiM
          obtain ⟨nm,hnm⟩:∃ nm,nm=Nm[i]:=⟨_,rfl⟩
          obtain ⟨gk,rfl,hck⟩:=H7.out.2.2.2 i nm (by rw [List.getElem?_eq_getElem hin,hnm])
          have hcw:=hck wr (fun r o hr ho=>hk8 r o (by have:=(H7.out.2.2.1 r hr).1;omega) ho)
          obtain ⟨f8,hf8,hdd8⟩:=rems_find HDE.out HO.out.2.2.2.2.1 HO.out.2.2.2.2.2.1 hin hnm
          have hnl:(⟨nm.toArray⟩:ByteArray).size≤maxLen:=by
            obtain ⟨f,hf,hfn⟩:=HO.out.2.2.2.2.2.1 nm (by rw [hnm];exact List.getElem_mem hin)
            have h3:=H.out.2.2.2.2 f hf
            rw [hfn] at h3
            simpa [ByteArray.size] using h3
          have hrm:(remD (rems D (Nm.take i)) nm).2=0:=by rw [rem_one hdd8 hf8]
          have HR:=Lib.hid (show Calls Tryz.prog 46 #[.pointer (some ⟨p,0,none⟩),.string ⟨nm.toArray⟩] wr (fun e w'=>e=.returned (.int .i64 0)∧RmI p b L D Nm w W7 (i+1) w'∧W7.heap.size≤w'.heap.size) from (remove_any ⟨nm.toArray⟩ hnl wr hd8 (fun g hg=>(hl8 g hg).2)).mono (by
            rintro e w' ⟨k,rfl,hr⟩
            have h9:=RmI.step H.out.2.2.1 hd8 hl8 ht8 hk8 H7.out.2.1.size hin hnm hr hs8
            have hk0:k=0:=by rw [hr.1];show (((remD (rems D (Nm.take i)) nm).2:Nat):Int)=0;rw [hrm];rfl
            subst hk0
            exact ⟨rfl,h9⟩))
          have hw1:wrap64 ((i:Int)+1)=((i+1:Nat):Int):=by unfold wrap64;omega
          clear hd8 hl8 ht8 hk8 hs8 hck hf8 hdd8 hnl hrm hnm hin
          gi_wp2_with (first
            | (refine ⟨trivial,?_⟩;(with_reducible refine (callsIn_wide.2 HR.out).mono ?_);rintro e w9 ⟨rfl,h9⟩;have H9:=Lib.hid h9;clear h9;dsimp only)
            | gi_in)
          exact ⟨⟨i+1,by rw [Int.natCast_add];rfl,by omega,H9.out⟩,by simp only [intOf];omega⟩
        · have hiI : ¬ (i:Int)<(M:Int):=by omega
          have hie:i=M:=by omega
          have y4:wr.cell? ⟨w.heap.size+3,0,none⟩=some (.pointer (some ⟨w.heap.size+2,0,none⟩)):=cell_of_row _ _ 0 _ _ _ (hk8 _ _ (by omega) HX.out.2.2.2.1)
          have y2:=hk8 _ _ (by omega) HX.out.1
          have z2:=cell_of_row _ _ 0 _ _ _ y2
          have g2:=thaw0 0 y2
          have y3:(wr.setCell ⟨w.heap.size,0,none⟩ (.pointer (some ⟨w.heap.size+2,0,none⟩))).heap[w.heap.size+1]?=_:=(setC_other (by omega)).trans (hk8 _ _ (by omega) HX.out.2.1)
          have z3:=cell_of_row _ _ 0 _ _ _ y3
          have g3:=thaw0 0 y3
          have hk8z:=hk8 _ _ (by have:=HZ.out.1;omega) HX.out.2.2.2.2
          have HE:=Lib.hid (And.intro (show RmI p b L D Nm w W7 i wr from ⟨n8,C8,L8,hd8,hl8,ht8,hk8⟩) (And.intro y2 (And.intro y3 (And.intro hie (And.intro hs8 (hk8 _ _ (by omega) HX.out.2.2.1))))))
          clear hd8 hl8 ht8 hk8 hs8 y2 y3
          have y6:wr.heap[w2.heap.size]?=_:=hk8z
          gi_wp2
          have hd6:w.heap.size+6≤w2.heap.size∧w2.heap.size<W7.heap.size:=⟨HZ.out.1,(Array.getElem?_eq_some_iff.1 HX.out.2.2.2.2).1⟩
          have hKz:((wr.setCell ⟨w.heap.size,0,none⟩ (.pointer (some ⟨w.heap.size+2,0,none⟩))).setCell ⟨w.heap.size+1,0,none⟩ (.int .i64 0)).heap[w2.heap.size]?=some (.deferred (some [])):=(setC_other (by omega)).trans ((setC_other (by omega)).trans y6)
          have p2:(((wr.setCell ⟨w.heap.size,0,none⟩ (.pointer (some ⟨w.heap.size+2,0,none⟩))).setCell ⟨w.heap.size+1,0,none⟩ (.int .i64 0)).putObj w2.heap.size (.deferred none)).cell? ⟨w.heap.size,0,none⟩=some (.pointer (some ⟨w.heap.size+2,0,none⟩)) :=
            cell_of_row _ _ 0 _ _ _ ((World.putObj_heap_other (by omega)).trans ((setC_other (by omega)).trans (heap_setCell_same wr _ 0 #[.pointer none] _ _ HE.out.2.1)))
          have p3:(((wr.setCell ⟨w.heap.size,0,none⟩ (.pointer (some ⟨w.heap.size+2,0,none⟩))).setCell ⟨w.heap.size+1,0,none⟩ (.int .i64 0)).putObj w2.heap.size (.deferred none)).cell? ⟨w.heap.size+1,0,none⟩=some (.int .i64 0) :=
            cell_of_row _ _ 0 _ _ _ ((World.putObj_heap_other (by omega)).trans (heap_setCell_same _ _ 0 #[.int .i64 0] _ _ HE.out.2.2.1))
          obtain ⟨n9,C9,L9,k1,k2,k3,k4⟩:=HE.out.1.fin (by rw [HE.out.2.2.2.1];exact HMM.out) H.out.2.2.1 hd6 (.pointer (some ⟨w.heap.size+2,0,none⟩)) (.int .i64 0) (.deferred none)
          refine ⟨by simp,.inl ⟨_,_,rfl,run_takeDeferred hKz,?_⟩⟩
          refine ⟨.tuple #[.pointer (some ⟨w.heap.size+2,0,none⟩),.int .i64 0],?_,.inr ⟨fun ⟨x,hx,hx2⟩=>HI.out.ok x hx hx2,w.heap.size+2,rfl,(World.putObj_heap_other (by omega)).trans ((setC_other (by omega)).trans ((setC_other (by omega)).trans HE.out.2.2.2.2.2)),by omega,n9,C9,L9,by rw [← hNm];exact k1,k2,k3,k4⟩⟩
          simp [results,Tryz.results23,go_sem,p2,p3] <;> rfl
end Go.Proofs.YticjodhkmidljaaGreatDoor
