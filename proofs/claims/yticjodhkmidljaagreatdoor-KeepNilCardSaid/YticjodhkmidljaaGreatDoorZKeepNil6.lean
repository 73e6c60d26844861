/- Disk: Sync, shorten, Remove. Condition: as each theorem says. -/
import Derived.Test.YticjodhkmidljaaGreatDoorZKeepNil5
import Derived.Test.YticjodhkmidljaaGreatDoorZKeepNil0
namespace Go.Proofs.YticjodhkmidljaaGreatDoor
open Go.RowKit
open Go.Maps (Keyed)
open Go.ChangeMaps Go.MapKept
/-- An act that wants power and a file. -/
theorem with_act {p b n:Nat} {C:Bs→Nat} {L:List Nat} {D:DskV} (nm:ByteArray) (act:FilV→DskV × Nat) {w:World} (h:DskAt w p b n C L D) :
    (D.dead=true→∀ y,Below w.heap.size w y→DkR p b L (withD D nm.data.toList act) w 8 y)∧(D.dead=false→findF nm.data.toList D.fs=none→∀ y,Below w.heap.size w y→DkR p b L (withD D nm.data.toList act) w 11 y):=by
  refine ⟨fun hd y hy=>?_,fun hd hn y hy=>?_⟩
  · rw [show withD D nm.data.toList act=(D,8) by unfold withD;rw [hd];rfl]
    exact DkR.same h hy 8
  · rw [show withD D nm.data.toList act=(D,11) by unfold withD;rw [hd,hn];rfl]
    exact DkR.same h hy 11
theorem with_some {D:DskV} {nm:Bs} {act:FilV→DskV × Nat} {f:FilV} (hd:D.dead=false) (hf:findF nm D.fs=some f):withD D nm act=act f:=by unfold withD;rw [hd,hf];rfl
set_option maxRecDepth 100000 in
theorem sync_any {p b n:Nat} {C:Bs→Nat} {L:List Nat} {D:DskV} (nm:ByteArray) (hn:nm.size≤maxLen) (w:World) (h:DskAt w p b n C L D) :
    Calls Tryz.prog 62 #[.pointer (some ⟨p,0,none⟩),.string nm] w fun e w'=>∃ k,e=.returned (.int .i64 k)∧DkR p b L (syncD D nm.data.toList) w k w':=by
  have HA:=Lib.hid (with_any nm hn 93 (enters_of Tryz.func93 (by kernel_rfl) rfl) #[] w h (R:=DkR p b L (syncD D nm.data.toList) w) (with_act nm _ h).1 (with_act nm _ h).2 (fun hd fl hfl y hy=>by
    obtain ⟨e1,_⟩:=find_nm hfl
    rw [← e1] at hfl
    refine (sync1_any fl hfl y (h.below hy)).mono ?_
    rintro e w' ⟨rfl,h1,h2⟩
    refine ⟨0,rfl,?_⟩
    unfold syncD
    rw [← e1,with_some hd hfl]
    exact ⟨rfl,n,C,L,h1,(Turns.of hy).trans h2,fun _ hg=>.inl hg⟩))
  clear h
  go_enter Tryz.func62,Tryz.ntmps62
  go_wp2_with (go_at_call 81;refine HA.out.mono ?_;rintro e w' ⟨k,rfl,hr⟩;have HR:=Lib.hid hr;clear hr)
  go_ret
  exact ⟨k,rfl,HR.out⟩
set_option maxRecDepth 100000 in
set_option maxHeartbeats 4000000 in
theorem shorten_any {p b n:Nat} {C:Bs→Nat} {L:List Nat} {D:DskV} (f:FilV) (hf:findF f.nm D.fs=some f) (m:Nat) (hm:m≤f.by_.length) (_:f.sy≤m∨True) (w:World) (h:DskAt w p b n C L D) :
    Calls Tryz.prog 42 #[.pointer (some ⟨p,0,none⟩),.pointer (some ⟨C f.nm,0,none⟩),.int .i64 (m:Int)] w fun e w'=>(∃ v,e=.returned v) ∧
      w'.heap[p]?=some (.cells (dskC b { D with room:=D.room+(f.by_.length - m) }) 86 (0,0))∧w'.heap[C f.nm]?=some (.cells (filC { f with by_:=f.by_.take m }) 93 (0,0))∧(∀ g,g≠p→g≠C f.nm→w'.heap[g]?=w.heap[g]?)∧Turns L w w':=by
  have hfm:=(find_nm hf).2
  have hc:=h.c f hfm
  have hcl:=h.cl f hfm
  obtain ⟨c,hcc⟩:∃ c,c=C f.nm:=⟨_,rfl⟩
  rw [← hcc] at hc hcl ⊢
  have HB:=Lib.hid (show D.room+f.by_.length≤4194304 by
    have h1:=put_old (f:={ f with by_:=[] }) h.ris hf
    have h2:=h.sum
    simp at h1
    omega)
  have H:=Lib.hid (And.intro h.d (And.intro hc hcl))
  have HPL:=Lib.hid h.pb.1
  have hz:(⟨f.by_.toArray⟩:ByteArray).size=f.by_.length:=by simp [ByteArray.size]
  obtain ⟨x,hx⟩:∃ x:ByteArray,x=⟨f.by_.toArray⟩:=⟨_,rfl⟩
  have HX:=Lib.hid hx
  rw [← hx] at hz
  have HZ:=Lib.hid hz
  have HM:=Lib.hid hm
  have HC:=Lib.hid (fun (y:World) (hy:Below w.heap.size w y)=>(show y.cell? ⟨p,1,none⟩=some (.int .i64 (D.room:Int))∧y.cell? ⟨c,0,none⟩=some (.string x) from by
    have hp:=(hy.block p (Array.getElem?_eq_some_iff.1 h.d).1).trans h.d
    have hq:=(hy.block c (Array.getElem?_eq_some_iff.1 hc).1).trans hc
    exact ⟨cell_of_row _ _ _ _ _ _ hp,by rw [hx];exact cell_of_row _ _ _ _ _ _ hq⟩))
  clear h hf hm hfm hc hcc hx hz
  go_enter Tryz.func42,Tryz.ntmps42
  go_upto_region 0 with fail
  have xw1:IntKind.i64.wrap ((x.size:Int) - (m:Int))=(x.size:Int) - (m:Int):=IntWalk.i64_in _ (by have:=HM.out;have:=HZ.out;have:=HB.out;omega)
  have xw2:IntKind.i64.wrap ((D.room:Int)+((x.size:Int) - (m:Int)))=(D.room:Int)+((x.size:Int) - (m:Int)):=IntWalk.i64_in _ (by have:=HM.out;have:=HZ.out;have:=HB.out;omega)
  refine (wpIn_wide (n:=1)).1 ?_
  refine RegK.wpIn_region_can (F:=Fence.wide) (KeptW w) [(0,0),(1,0),(2,0),(3,0),(4,0),(5,0),(6,0),(7,0),(8,0),(9,0),(10,0),(11,0),(12,0),(13,0),(14,3)] (by kernel_rfl) (by kernel_rfl) (by kernel_rfl) (fun _ _ d _ _ h=>by cases d <;> exact h) ⟨rfl,rfl,rfl,Nat.le_refl _,fun _ _=>rfl⟩ ?_
  dsimp only [RegK.pick,List.getElem?_cons_zero,List.getElem?_cons_succ]
  change RegK.Can _ _ _ _ _ _ _ _ w.drew
  have hkd:KeptW w w.drew:=⟨rfl,rfl,rfl,Nat.le_refl _,fun _ _=>rfl⟩
  have HK0:=Lib.hid (show ∀ g:Nat,w.drew.heap[g]?=w.heap[g]? from fun _=>rfl)
  generalize w.drew=v1 at *
  iterate 3 (refine RegK.can_reads ?_;intro K hK;go_simp;(first | refine ⟨_,fun _ _=>rfl,hK _ ?_⟩ | refine hK _ ?_);clear hK K)
  refine RegK.can_reads ?_
  intro K hK
  go_simp
  refine ⟨.int .i64 (D.room:Int),fun y hy=>?_,hK _ ?_⟩
  · obtain ⟨c1,c2⟩:=HC.out y (KeptW.bel hy)
    go_simp
  clear hK K
  iterate 3 (refine RegK.can_reads ?_;intro K hK;go_simp;(first | refine ⟨_,fun _ _=>rfl,hK _ ?_⟩ | refine hK _ ?_);clear hK K)
  refine RegK.can_reads ?_
  intro K hK
  go_simp
  refine ⟨.string x,fun y hy=>?_,hK _ ?_⟩
  · obtain ⟨c1,c2⟩:=HC.out y (KeptW.bel hy)
    go_simp
  clear hK K
  iterate 6 (refine RegK.can_reads ?_;intro K hK;go_simp;(first | refine ⟨_,fun _ _=>rfl,hK _ ?_⟩ | refine hK _ ?_);clear hK K)
  have hk1:=KeptW.bel hkd
  have hp1:=(hk1.block p (Array.getElem?_eq_some_iff.1 H.out.1).1).trans H.out.1
  have s1:v1.cell? ⟨p,1,none⟩=some (.int .i64 (D.room:Int)):=cell_of_row _ _ _ _ _ _ hp1
  have s2:=thaw0 1 hp1
  refine RegK.can_frees (fun _=>trivial) ?_
  intro K K0 hK hK0
  go_simp
  refine hK (fun _=>True) _ _ trivial ?_
  clear hK K hK0 K0
  refine RegK.can_nil ?_
  have hk1:=KeptW.bel hkd
  have hp1:=(hk1.block p (Array.getElem?_eq_some_iff.1 H.out.1).1).trans H.out.1
  have hc1:=(hk1.block c (Array.getElem?_eq_some_iff.1 H.out.2.1).1).trans H.out.2.1
  have hpw:=heap_setCell_same v1 p 1 (dskC b D) _ (.int .i64 ((D.room:Int)+((x.size:Int) - (m:Int)))) hp1
  have hcw:(v1.setCell ⟨p,1,none⟩ (.int .i64 ((D.room:Int)+((x.size:Int) - (m:Int))))).heap[c]?=_:=(setC_other (H.out.2.2.2.1)).trans hc1
  have H2:=Lib.hid (show (v1.setCell ⟨p,1,none⟩ (.int .i64 ((D.room:Int)+((x.size:Int) - (m:Int))))).heap[p]?=some (.cells (dskC b { D with room:=D.room+(f.by_.length - m) }) 86 (0,0))∧(v1.setCell ⟨p,1,none⟩ (.int .i64 ((D.room:Int)+((x.size:Int) - (m:Int))))).heap[c]?=some (.cells (filC f) 93 (0,0))∧Turns L w (v1.setCell ⟨p,1,none⟩ (.int .i64 ((D.room:Int)+((x.size:Int) - (m:Int)))))∧∀ g,g≠p→(v1.setCell ⟨p,1,none⟩ (.int .i64 ((D.room:Int)+((x.size:Int) - (m:Int))))).heap[g]?=v1.heap[g]? from by
    refine ⟨?_,hcw,(Turns.of hk1).trans (setC_turns HPL.out),fun g hg=>setC_other hg⟩
    rw [hpw,show ((D.room:Int)+((x.size:Int) - (m:Int)))=((D.room+(f.by_.length - m):Nat):Int) by have:=HM.out;have:=HZ.out;omega]
    rfl)
  have H3:=Lib.hid (show ∀ g,v1.heap[g]?=w.heap[g]? from fun g=>HK0.out g)
  clear hkd hk1 hp1 hc1 hpw hcw
  generalize v1.setCell ⟨p,1,none⟩ (.int .i64 ((D.room:Int)+((x.size:Int) - (m:Int))))=w2 at *
  have t0:w2.cell? ⟨c,0,none⟩=some (.string x):=by rw [HX.out];exact cell_of_row _ _ _ _ _ _ H2.out.2.1
  have t1:=thaw0 0 H2.out.2.1
  have hmx:m≤x.size:=by have:=HM.out;have:=HZ.out;omega
  go_wp2_with fail
  refine bodyPost_end (results_none rfl _ _ _) rfl ?_
  have hE:(filC f).setIfInBounds 0 (.string (x.extract 0 m))=filC { f with by_:=f.by_.take m }:=by
    show #[Value.string (x.extract 0 m),_]=#[Value.string _,_]
    rw [show x.extract 0 m=⟨(f.by_.take m).toArray⟩ by
      apply ByteArray.ext
      apply Array.toList_inj.1
      rw [HX.out,ByteArray.data_extract]
      simp]
  refine ⟨⟨_,rfl⟩,(setC_other (H.out.2.2.2.1).symm).trans H2.out.1,?_,fun g h1 h2=>(setC_other h2).trans ((H2.out.2.2.2 g h1).trans (H3.out g)),H2.out.2.2.1.trans (setC_turns H.out.2.2.1)⟩
  rw [heap_setCell_same w2 c 0 (filC f) _ _ H2.out.2.1,hE]
end Go.Proofs.YticjodhkmidljaaGreatDoor
namespace Go.Proofs.YticjodhkmidljaaGreatDoor
open Go.RowKit
open Go.Maps (Keyed)
open Go.ChangeMaps Go.MapKept
theorem same_str (q nm:Bs):(Lit.string q).sameKey (.string nm)=decide (q=nm):=by
  by_cases h:q=nm
  · subst h
    rw [decide_eq_true rfl]
    first | rfl | exact WideAt.sameKey_self trivial | (rw [Bool.eq_false_iff];intro e;exact h (by have:=WideAt.sameKey_eq e;cases this;rfl)) | simp [Lit.sameKey] | simpa [Lit.sameKey] using h
  · rw [decide_eq_false h]
    first | rfl | exact WideAt.sameKey_self trivial | (rw [Bool.eq_false_iff];intro e;exact h (by have:=WideAt.sameKey_eq e;cases this;rfl)) | simp [Lit.sameKey] | simpa [Lit.sameKey] using h
theorem dir_del {C:Bs→Nat} {fs:List FilV} {nm:Bs}:∀ l,WideAt.IsKeyLit l→mpDel (dirM C fs) (.string nm) l=dirM C (delF nm fs) l:=by
  intro l hl
  unfold mpDel
  cases l with
  | string q =>
    rw [same_str]
    show (if decide (q=nm)=true then none else (findF q fs).map _)=(findF q (delF nm fs)).map _
    by_cases e:q=nm
    · rw [if_pos (decide_eq_true e),e,del_find];rfl
    · rw [if_neg (by simpa using e),del_other e]
  | _=>simp [dirM]
theorem del_tot {nm:Bs} {f:FilV}:∀ {l:List FilV},Rise l→findF nm l=some f→totF (delF nm l)+f.by_.length=totF l∧(delF nm l).length+1=l.length
  | x::r,h,hn=>by
    obtain ⟨h1,h2⟩:=List.pairwise_cons.1 h
    by_cases hx:x.nm=nm
    · have e:x=f:=by
        unfold findF at hn
        rw [List.find?_cons_of_pos (by simpa using hx)] at hn
        exact Option.some.inj hn
      have hr:delF nm r=r:=by
        unfold delF
        refine List.filter_eq_self.2 (fun y hy=>?_)
        have:=h1 y hy
        simp only [ne_eq,decide_eq_true_eq]
        intro e2
        rw [hx,e2] at this
        exact List.lt_irrefl _ this
      have hd:delF nm (x::r)=delF nm r:=by unfold delF;rw [List.filter_cons_of_neg (by simpa using hx)]
      rw [hd,hr,tot_cons,e]
      exact ⟨by omega,rfl⟩
    · have hr:findF nm r=some f:=by
        unfold findF at hn ⊢
        rwa [List.find?_cons_of_neg (by simpa using hx)] at hn
      have hd:delF nm (x::r)=x::delF nm r:=by unfold delF;rw [List.filter_cons_of_pos (by simpa using hx)]
      obtain ⟨q1,q2⟩:=del_tot h2 hr
      rw [hd,tot_cons,tot_cons,List.length_cons,List.length_cons]
      exact ⟨by omega,by omega⟩
theorem DskAt.rem {w w':World} {p b n:Nat} {C:Bs→Nat} {L:List Nat} {D D':DskV} (h:DskAt w p b n C L D) {f:FilV} (hf:findF f.nm D.fs=some f) (hD:D'.fs=delF f.nm D.fs)
    (hp:w'.heap[p]?=some (.cells (dskC b D') 86 (0,0))) (hm:MpS Tryz.prog 9 w' b n (D.fs.length - 1) (mpDel (dirM C D.fs) (.string f.nm)))
    (ho:∀ g ∈ L,g≠p→g≠b→g≠C f.nm→w'.heap[g]?=w.heap[g]?) (hsum:D'.room+totF D'.fs≤4194304) (hfz:∀ k,D'.fuse=some k→k≤9223372036854775807):DskAt w' p b n C L D':=by
  have hfm:=(find_nm hf).2
  have hsub:∀ g ∈ D'.fs,g ∈ D.fs∧g.nm≠f.nm:=fun g hg=>by
    rw [hD] at hg
    exact ⟨(List.mem_filter.1 hg).1,by simpa using (List.mem_filter.1 hg).2⟩
  refine ⟨hp,hm.congr (fun l hl=>by rw [hD];exact dir_del l hl) (by rw [hD];have:=(del_tot h.ris hf).2;omega),fun g hg=>?_,fun g hg q hq e=>h.inj g (hsub g hg).1 q (hsub q hq).1 e,h.pb,fun g hg=>h.cl g (hsub g hg).1,by rw [hD];exact del_rise h.ris,fun g hg=>h.syn g (hsub g hg).1,hsum,hfz⟩
  obtain ⟨r1,r2,r3⟩:=h.cl g (hsub g hg).1
  rw [ho _ r1 r2 r3 (fun e=>(hsub g hg).2 (h.inj g (hsub g hg).1 f hfm e))]
  exact h.c g (hsub g hg).1
set_option maxRecDepth 100000 in
set_option maxHeartbeats 4000000 in
theorem remove1_any {p b n:Nat} {C:Bs→Nat} {L:List Nat} {D:DskV} (nm:ByteArray) (hn:nm.size≤maxLen) (f:FilV) (hfn:f.nm=nm.data.toList) (hf:findF f.nm D.fs=some f) (g1 g2:Nat) (hg1:g1 ∉ L) (hg2:g2 ∉ L) (w:World) (h:DskAt w p b n C L D)
    (h1:w.cell? ⟨g1,0,none⟩=some (.pointer (some ⟨p,0,none⟩))) (h2:w.cell? ⟨g2,0,none⟩=some (.string nm)) (hg:g1<w.heap.size∧g2<w.heap.size) :
    Calls Tryz.prog 82 #[.pointer (some ⟨C f.nm,0,none⟩),.pointer (some ⟨g1,0,none⟩),.pointer (some ⟨g2,0,none⟩)] w fun e w'=>e=.returned (.int .i64 0)∧DskAt w' p b n C L { D with fs:=delF f.nm D.fs,room:=D.room+f.by_.length }∧Turns L w w':=by
  have hfm:=(find_nm hf).2
  have hcl:=h.cl f hfm
  have HSH:=Lib.hid (shorten_any f hf 0 (Nat.zero_le _) (.inr trivial) w h)
  have HD:=Lib.hid (And.intro h (And.intro hf (And.intro hfn hcl)))
  have HG:=Lib.hid (And.intro hg1 (And.intro hg2 (And.intro h1 (And.intro h2 hg))))
  obtain ⟨c,hcc⟩:∃ c,c=C f.nm:=⟨_,rfl⟩
  rw [← hcc] at HSH ⊢
  have HCC:=Lib.hid hcc
  clear h hf hfm hcl hfn hg1 hg2 h2 hg hcc
  go_enter Tryz.func82,Tryz.ntmps82
  go_upto_region 2 with (go_at_call 42;refine HSH.out.mono ?_;rintro e w2 ⟨⟨v,rfl⟩,hp,hc,ho,ht⟩;have H2:=Lib.hid (And.intro hp (And.intro hc (And.intro ho ht)));clear hp hc ho ht)
  clear h1 HSH
  have hpb:=HD.out.1.pb
  have HK:=Lib.hid (show w2.cell? ⟨g1,0,none⟩=some (.pointer (some ⟨p,0,none⟩))∧w2.cell? ⟨g2,0,none⟩=some (.string nm)∧w2.cell? ⟨p,0,none⟩=some (.map (some b))∧MpS Tryz.prog 9 w2 b n D.fs.length (dirM C D.fs) from by
    obtain ⟨q1,q2,q3,q4,q5,q6⟩:=HG.out
    refine ⟨(World.cell?_of_block (H2.out.2.2.2.block g1 q5 q1)).trans q3,(World.cell?_of_block (H2.out.2.2.2.block g2 q6 q2)).trans q4,cell_of_row _ _ _ _ _ _ H2.out.1,HD.out.1.m.stay (H2.out.2.2.1 b hpb.2.2.symm ?_)⟩
    rw [HCC.out]
    exact HD.out.2.2.2.2.2.symm)
  have HL:=Lib.hid (show g1<w2.heap.size∧g2<w2.heap.size∧p<w2.heap.size from ⟨Nat.lt_of_lt_of_le HG.out.2.2.2.2.1 H2.out.2.2.2.size,Nat.lt_of_lt_of_le HG.out.2.2.2.2.2 H2.out.2.2.2.size,(Array.getElem?_eq_some_iff.1 H2.out.1).1⟩)
  have HC:=Lib.hid (fun (y:World) (hy:Below w2.heap.size w2 y)=>(show y.cell? ⟨g1,0,none⟩=some (.pointer (some ⟨p,0,none⟩))∧y.cell? ⟨g2,0,none⟩=some (.string nm)∧y.cell? ⟨p,0,none⟩=some (.map (some b)) from
    ⟨(World.cell?_of_block (hy.block _ HL.out.1)).trans HK.out.1,(World.cell?_of_block (hy.block _ HL.out.2.1)).trans HK.out.2.1,(World.cell?_of_block (hy.block _ HL.out.2.2)).trans HK.out.2.2.1⟩))
  clear hpb
  refine (wpIn_wide (n:=1)).1 ?_
  refine RegK.wpIn_region_can (F:=Fence.wide) (KeptW w2) [(0,0),(1,0),(2,0),(3,0),(4,0),(5,3)] (by kernel_rfl) (by kernel_rfl) (by kernel_rfl) (fun _ _ d _ _ h=>by cases d <;> exact h) ⟨rfl,rfl,rfl,Nat.le_refl _,fun _ _=>rfl⟩ ?_
  dsimp only [RegK.pick,List.getElem?_cons_zero,List.getElem?_cons_succ]
  change RegK.Can _ _ _ _ _ _ _ _ w2.drew
  have hkd:KeptW w2 w2.drew:=⟨rfl,rfl,rfl,Nat.le_refl _,fun _ _=>rfl⟩
  have HK0:=Lib.hid (show ∀ g:Nat,w2.drew.heap[g]?=w2.heap[g]? from fun _=>rfl)
  generalize w2.drew=v1 at *
  refine RegK.can_reads ?_
  intro K hK
  go_simp
  refine ⟨.pointer (some ⟨p,0,none⟩),fun y hy=>?_,hK _ ?_⟩
  · obtain ⟨c1,c2,c3⟩:=HC.out y (KeptW.bel hy)
    go_simp
  clear hK K
  iterate 2 (refine RegK.can_reads ?_;intro K hK;go_simp;(first | refine ⟨_,fun _ _=>rfl,hK _ ?_⟩ | refine hK _ ?_);clear hK K)
  refine RegK.can_reads ?_
  intro K hK
  go_simp
  refine ⟨.map (some b),fun y hy=>?_,hK _ ?_⟩
  · obtain ⟨c1,c2,c3⟩:=HC.out y (KeptW.bel hy)
    go_simp
  clear hK K
  refine RegK.can_reads ?_
  intro K hK
  go_simp
  refine ⟨.string nm,fun y hy=>?_,hK _ ?_⟩
  · obtain ⟨c1,c2,c3⟩:=HC.out y (KeptW.bel hy)
    go_simp
  clear hK K
  obtain ⟨w3,hrun,hm3,ht3⟩:=(HK.out.2.2.2.below (KeptW.bel hkd)).drop (t:=84) (key:=.string nm) (kl:=.string nm.data.toList) lawSt Tryz.underlying84 (key_st hn) 0
  have H3:=Lib.hid (And.intro hm3 ht3)
  clear hm3 ht3
  refine RegK.can_frees (fun _=>trivial) ?_
  intro K K0 hK hK0
  go_simp
  refine hK (fun _=>True) _ _ trivial ?_
  clear hK K hK0 K0
  refine RegK.can_nil ?_
  have HKK:=Lib.hid (show (∀ g:Nat,v1.heap[g]?=w2.heap[g]?)∧Turns L w2 v1 from ⟨fun g=>HK0.out g,Turns.of (KeptW.bel hkd)⟩)
  clear hkd hrun
  go_wp2
  go_ret
  obtain ⟨h,hf,hfn,hcl⟩:=HD.out
  have hbw:∀ g,g≠b→w3.heap[g]?=w2.heap[g]?:=fun g hg=>(turned_block H3.out.2 hg).trans (HKK.out.1 g)
  have hdt:=del_tot h.ris hf
  have hs:=h.sum
  refine ⟨rfl,h.rem (D':={ D with fs:=delF f.nm D.fs,room:=D.room+f.by_.length }) hf rfl ((hbw p h.pb.2.2).trans H2.out.1) ?_ (fun g _ q1 q2 q3=>(hbw g q2).trans (H2.out.2.2.1 g q1 (by rw [HCC.out];exact q3))) ?_ h.fz,H2.out.2.2.2.trans (HKK.out.2.trans ?_)⟩
  · refine H3.out.1.congr (fun l _=>by rw [hfn]) ?_
    show (if ((findF nm.data.toList D.fs).map _).isSome=true then _ else _)=_
    rw [← hfn,hf]
    rfl
  · show D.room+f.by_.length+totF (delF f.nm D.fs)≤_
    omega
  · obtain ⟨es,clock,es',clock',hb,rfl⟩:=H3.out.2
    exact ⟨rfl,rfl,rfl,by simp [setBlock],fun g _ hn=>heap_setBlock_other hb _ (fun e=>hn (by rw [e];exact h.pb.2.1))⟩
set_option maxRecDepth 100000 in
set_option maxHeartbeats 4000000 in
theorem remove_any {p b n:Nat} {C:Bs→Nat} {L:List Nat} {D:DskV} (nm:ByteArray) (hn:nm.size≤maxLen) (w:World) (h:DskAt w p b n C L D) (hL:∀ g ∈ L,g<w.heap.size) :
    Calls Tryz.prog 46 #[.pointer (some ⟨p,0,none⟩),.string nm] w fun e w'=>∃ k,e=.returned (.int .i64 k)∧DkR p b L (remD D nm.data.toList) w k w':=by
  have H:=Lib.hid h
  have HLL:=Lib.hid hL
  clear h hL
  go_enter Tryz.func46,Tryz.ntmps46
  go_upto_region 1 with fail
  have hb3:=((Below.refl _ w).alloc (Nat.le_refl _) (.cells #[.pointer (some ⟨p,0,none⟩)] 46)).alloc (by simp) (.cells #[.string nm] 9)
  have q2:((w.alloc (.cells #[.pointer (some ⟨p,0,none⟩)] 46)).alloc (.cells #[.string nm] 9)).heap[w.heap.size+1]?=some (.cells #[.string nm] 9 (0,0)):=by
    have h:=heap_alloc_new (w.alloc (.cells #[.pointer (some ⟨p,0,none⟩)] 46)) (.cells #[.string nm] 9)
    simpa using h
  have q1:((w.alloc (.cells #[.pointer (some ⟨p,0,none⟩)] 46)).alloc (.cells #[.string nm] 9)).heap[w.heap.size]?=some (.cells #[.pointer (some ⟨p,0,none⟩)] 46 (0,0)):=by
    rw [heap_alloc_old _ _ (by simp)]
    exact heap_alloc_new _ _
  have hz:((w.alloc (.cells #[.pointer (some ⟨p,0,none⟩)] 46)).alloc (.cells #[.string nm] 9)).heap.size=w.heap.size+1+1:=by simp
  generalize (w.alloc (.cells #[.pointer (some ⟨p,0,none⟩)] 46)).alloc (.cells #[.string nm] 9)=w3 at *
  have c1:=cell_of_row w3 w.heap.size 0 _ _ _ q1
  have c2:=cell_of_row w3 (w.heap.size+1) 0 _ _ _ q2
  have HB:=Lib.hid hb3
  have H3:=Lib.hid (H.out.below hb3)
  have HC:=Lib.hid (And.intro q1 q2)
  have HA:=Lib.hid (with_any nm hn 82 (enters_of Tryz.func82 (by kernel_rfl) rfl) #[.pointer (some ⟨w.heap.size,0,none⟩),.pointer (some ⟨w.heap.size+1,0,none⟩)] w3 H3.out (R:=DkR p b L (remD D nm.data.toList) w)
    (fun hd y hy=>(with_act nm _ H.out).1 hd y (HB.out.trans (hy.mono HB.out.size))) (fun hd hn y hy=>(with_act nm _ H.out).2 hd hn y (HB.out.trans (hy.mono HB.out.size))) (fun hd fl hfl y hy=>by
    obtain ⟨e1,_⟩:=find_nm hfl
    have hfl2:=hfl
    rw [← e1] at hfl2
    have hy1:=(hy.block w.heap.size (by omega)).trans HC.out.1
    have hy2:=(hy.block (w.heap.size+1) (by omega)).trans HC.out.2
    refine (remove1_any nm hn fl e1 hfl2 w.heap.size (w.heap.size+1) (fun q=>by have:=HLL.out _ q;omega) (fun q=>by have:=HLL.out _ q;omega) y (H3.out.below hy) (cell_of_row _ _ _ _ _ _ hy1) (cell_of_row _ _ _ _ _ _ hy2) ⟨(Array.getElem?_eq_some_iff.1 hy1).1,(Array.getElem?_eq_some_iff.1 hy2).1⟩).mono ?_
    rintro e w' ⟨rfl,k1,k2⟩
    refine ⟨0,rfl,?_⟩
    unfold remD
    rw [with_some hd hfl, ← e1]
    exact ⟨rfl,n,C,L,k1,(Turns.of (HB.out.trans (hy.mono HB.out.size))).trans k2,fun _ hg=>.inl hg⟩))
  clear hb3 q1 q2
  go_wp2_with (go_at_call 81;refine HA.out.mono ?_;rintro e w' ⟨k,rfl,hr⟩;have HR:=Lib.hid hr;clear hr)
  go_ret
  exact ⟨k,rfl,HR.out⟩
end Go.Proofs.YticjodhkmidljaaGreatDoor
