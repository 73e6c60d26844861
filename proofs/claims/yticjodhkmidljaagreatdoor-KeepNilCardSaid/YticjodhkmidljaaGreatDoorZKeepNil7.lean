/- Disk: Append. Condition: as each theorem says. -/
import Derived.Test.YticjodhkmidljaaGreatDoorZKeepNil6
namespace Go.Proofs.YticjodhkmidljaaGreatDoor
open Go.RowKit
open Go.Maps (Keyed)
open Go.ChangeMaps Go.MapKept
theorem MpS.tight {P:Program} {k:TypeId} {w:World} {b n s:Nat} {M:Lit→Option Value} (h:MpS P k w b n s M):MpS P k w b s s M:=by
  obtain ⟨D,⟨es,clock,hb,F,hs,hD⟩,hM,hsz⟩:=h
  refine ⟨D,⟨es,clock,hb,F,?_,hD⟩,hM,hsz⟩
  rw [← hsz,hD]
  simp [Maps.size,length_sorted]
theorem DskAt.tight {w:World} {p b n:Nat} {C:Bs→Nat} {L:List Nat} {D:DskV} (h:DskAt w p b n C L D):DskAt w p b D.fs.length C L D:={ h with m:=h.m.tight }
theorem dir_put {C:Bs→Nat} {fs:List FilV} {f:FilV} {c:Nat}:∀ l,WideAt.IsKeyLit l→mpPut (dirM C fs) (.string f.nm) (.pointer (some ⟨c,0,none⟩)) l=dirM (fun q=>if q=f.nm then c else C q) (putF f fs) l:=by
  intro l hl
  unfold mpPut
  cases l with
  | string q =>
    rw [same_str]
    show (if decide (q=f.nm)=true then _ else (findF q fs).map _)=(findF q (putF f fs)).map _
    by_cases e:q=f.nm
    · rw [if_pos (decide_eq_true e),e,put_find]
      simp
    · rw [if_neg (by simpa using e),put_other e]
      cases hq:findF q fs with
      | none=>rfl
      | some g =>
        have:=(find_nm hq).1
        simp only [Option.map_some]
        rw [if_neg (by rw [this];exact e)]
  | _=>simp [dirM,Lit.sameKey]
theorem DskAt.add {w w':World} {p b n:Nat} {C:Bs→Nat} {L:List Nat} {D:DskV} (h:DskAt w p b n C L D) {nm:Bs} (hf:findF nm D.fs=none) {c m:Nat} (hcL:c ∉ L)
    (hL:∀ g ∈ L,w'.heap[g]?=w.heap[g]?∨g=b) (hm:MpS Tryz.prog 9 w' b m (D.fs.length+1) (mpPut (dirM C D.fs) (.string nm) (.pointer (some ⟨c,0,none⟩))))
    (hc:w'.heap[c]?=some (.cells (filC ⟨nm,[],0⟩) 93 (0,0))):DskAt w' p b m (fun q=>if q=nm then c else C q) (c::L) { D with fs:=putF ⟨nm,[],0⟩ D.fs }:=by
  have hnew:=put_new (f:=⟨nm,[],0⟩) h.ris hf
  have hne:∀ g ∈ D.fs,g.nm≠nm:=fun g hg e=>by
    have:=find_of h.ris hg
    rw [e,hf] at this
    cases this
  have hcp:c≠p:=fun e=>hcL (by rw [e];exact h.pb.1)
  have hcb:c≠b:=fun e=>hcL (by rw [e];exact h.pb.2.1)
  refine ⟨((hL p h.pb.1).resolve_right h.pb.2.2).trans h.d,hm.congr (fun l hl=>dir_put (f:=⟨nm,[],0⟩) l hl) hnew.2.symm,fun g hg=>?_,fun g hg q hq e=>?_,⟨List.mem_cons_of_mem _ h.pb.1,List.mem_cons_of_mem _ h.pb.2.1,h.pb.2.2⟩,fun g hg=>?_,put_rise h.ris,fun g hg=>?_,?_,h.fz⟩
  · rcases put_mem hg with rfl | hg
    · simp only [if_true];exact hc
    · simp only [if_neg (hne g hg)]
      obtain ⟨r1,r2,r3⟩:=h.cl g hg
      exact ((hL _ r1).resolve_right r3).trans (h.c g hg)
  · rcases put_mem hg with rfl | hg <;> rcases put_mem hq with rfl | hq
    · rfl
    · simp only [if_true,if_neg (hne q hq)] at e
      exact (hcL (by rw [e];exact (h.cl q hq).1)).elim
    · simp only [if_true,if_neg (hne g hg)] at e
      exact (hcL (by rw [← e];exact (h.cl g hg).1)).elim
    · simp only [if_neg (hne g hg),if_neg (hne q hq)] at e
      exact h.inj g hg q hq e
  · rcases put_mem hg with rfl | hg
    · simp only [if_true];exact ⟨List.mem_cons_self .., hcp,hcb⟩
    · simp only [if_neg (hne g hg)]
      obtain ⟨r1,r2,r3⟩:=h.cl g hg
      exact ⟨List.mem_cons_of_mem _ r1,r2,r3⟩
  · rcases put_mem hg with rfl | hg
    · exact Nat.le_refl _
    · exact h.syn g hg
  · have:=h.sum
    have e:=hnew.1
    simp only [List.length_nil,Nat.add_zero] at e
    show D.room+totF (putF ⟨nm,[],0⟩ D.fs)≤_
    omega
theorem DskAt.head {w w':World} {p b n:Nat} {C:Bs→Nat} {L:List Nat} {D D':DskV} (h:DskAt w p b n C L D) (hfs:D'.fs=D.fs) (hp:w'.heap[p]?=some (.cells (dskC b D') 86 (0,0)))
    (ho:∀ g ∈ L,g≠p→w'.heap[g]?=w.heap[g]?) (hsum:D'.room+totF D'.fs≤4194304) (hfz:∀ k,D'.fuse=some k→k≤9223372036854775807):DskAt w' p b n C L D':=by
  refine ⟨hp,?_,?_,?_,h.pb,?_,?_,?_,hsum,hfz⟩
  · rw [hfs];exact h.m.stay (ho b h.pb.2.1 h.pb.2.2.symm)
  · rw [hfs];exact fun f hf=>(ho _ (h.cl f hf).1 (h.cl f hf).2.1).trans (h.c f hf)
  · rw [hfs];exact h.inj
  · rw [hfs];exact h.cl
  · rw [hfs];exact h.ris
  · rw [hfs];exact h.syn
def wrD (D:DskV) (f:FilV) (s:Bs):DskV × Nat:=match D.fuse with
  | some k=>if k<s.length then ({ D.more f (s.take k) with fuse:=none,dead:=true },9) else ({ D.more f s with fuse:=some (k - s.length) },0)
  | none=>(D.more f s,0)
theorem app_wr {D:DskV} {nm s:Bs} {f:FilV} (hd:D.dead=false) (h1 : ¬ (nm.length=0∨24<nm.length)) (hr : ¬ D.room<s.length) (hf:findF nm D.fs=some f):appD D nm s=wrD D f s:=by
  unfold appD wrD
  rw [hd,if_neg (by decide),if_neg h1,if_neg (by rw [hf];rintro (q | ⟨q,_⟩);exact hr q;cases q),hf]
  rfl
theorem put_put {f g:FilV} (h:f.nm=g.nm):∀ l:List FilV,putF f (putF g l)=putF f l
  | []=>by simp [putF,h]
  | x::r=>by
    by_cases h1:x.nm=g.nm
    · have e1:putF g (x::r)=g::r:=by unfold putF;rw [if_pos h1]
      have e2:putF f (x::r)=f::r:=by unfold putF;rw [if_pos (by rw [h1,h])]
      have e3:putF f (g::r)=f::r:=by unfold putF;rw [if_pos h.symm]
      rw [e1,e2,e3]
    · have h1' : ¬ x.nm=f.nm:=by rw [h];exact h1
      by_cases h2:g.nm<x.nm
      · have e1:putF g (x::r)=g::x::r:=by unfold putF;rw [if_neg h1,if_pos h2]
        have e2:putF f (x::r)=f::x::r:=by unfold putF;rw [if_neg h1',if_pos (by rw [h];exact h2)]
        have e3:putF f (g::x::r)=f::x::r:=by unfold putF;rw [if_pos h.symm]
        rw [e1,e2,e3]
      · have h2' : ¬ f.nm<x.nm:=by rw [h];exact h2
        have e1:putF g (x::r)=x::putF g r:=by conv=>lhs;unfold putF;rw [if_neg h1,if_neg h2]
        have e2:putF f (x::r)=x::putF f r:=by conv=>lhs;unfold putF;rw [if_neg h1',if_neg h2']
        have e3:putF f (x::putF g r)=x::putF f (putF g r):=by conv=>lhs;unfold putF;rw [if_neg h1',if_neg h2']
        rw [e1,e2,e3,put_put h r]
theorem app_new {D:DskV} {nm s:Bs} (hd:D.dead=false) (h1 : ¬ (nm.length=0∨24<nm.length)) (hr : ¬ D.room<s.length) (hf:findF nm D.fs=none) (hl : ¬ 1000≤D.fs.length) :
    appD D nm s=wrD { D with fs:=putF ⟨nm,[],0⟩ D.fs } ⟨nm,[],0⟩ s:=by
  have e:∀ t,({ D with fs:=putF ⟨nm,[],0⟩ D.fs }:DskV).more ⟨nm,[],0⟩ t=D.more ⟨nm,[],0⟩ t:=fun t=>by
    unfold DskV.more
    simp only
    rw [put_put (f:=⟨nm,[]++t,0⟩) (g:=⟨nm,[],0⟩) rfl D.fs]
  unfold appD wrD
  rw [if_neg (by rw [hd];decide),if_neg h1,if_neg (by rintro (q | ⟨_,q⟩);exact hr q;exact hl q),hf]
  simp only [Option.getD_none,e]
  first | rfl | (cases D.fuse <;> rfl)
theorem Turns.narrow {L L1:List Nat} {w w':World} (h:Turns L1 w w') (hl:∀ g ∈ L1,g ∈ L∨w.heap.size≤g):Turns L w w':=⟨h.os,h.tape,h.out,h.size,fun g hg hn=>h.block g hg (fun q=>by rcases hl g q with q | q;exact hn q;omega)⟩
set_option maxRecDepth 100000 in
theorem off_any {p b n:Nat} {C:Bs→Nat} {L:List Nat} {D:DskV} (w:World) (h:DskAt w p b n C L D) :
    Calls Tryz.prog 43 #[.pointer (some ⟨p,0,none⟩)] w fun e w'=>(∃ v,e=.returned v)∧DskAt w' p b n C L { D with fuse:=none,dead:=true }∧Turns L w w':=by
  obtain ⟨c0,c1,c2,c3⟩:=h.cells
  have hth:=thaw0 3 h.d
  have H:=Lib.hid h
  clear h
  go_enter Tryz.func43,Tryz.ntmps43
  go_upto_region 1 with fail
  have hp1:=heap_setCell_same w p 3 (dskC b D) _ (.bool true) H.out.d
  have H1:=Lib.hid (show (w.setCell ⟨p,3,none⟩ (.bool true)).heap[p]?=some (.cells (dskC b { D with dead:=true }) 86 (0,0))∧(∀ g,g≠p→(w.setCell ⟨p,3,none⟩ (.bool true)).heap[g]?=w.heap[g]?)∧Turns L w (w.setCell ⟨p,3,none⟩ (.bool true)) from ⟨hp1,fun g hg=>setC_other hg,setC_turns H.out.pb.1⟩)
  clear c0 c1 c2 c3 hth hp1
  generalize w.setCell ⟨p,3,none⟩ (.bool true)=w1 at *
  have c2:w1.cell? ⟨p,2,none⟩=some (.int .i64 (fuseI D.fuse)):=cell_of_row _ _ _ _ _ _ H1.out.1
  have hth:=thaw0 2 H1.out.1
  go_wp2
  refine bodyPost_end (results_none rfl _ _ _) rfl ?_
  refine ⟨⟨_,rfl⟩,H.out.head rfl ?_ (fun g _ hg=>(setC_other hg).trans (H1.out.2.1 g hg)) H.out.sum (fun k hk=>by cases hk),H1.out.2.2.trans (setC_turns H.out.pb.1)⟩
  exact heap_setCell_same w1 p 2 (dskC b { D with dead:=true }) _ (.int .i64 (-1)) H1.out.1
set_option maxRecDepth 100000 in
set_option maxHeartbeats 8000000 in
theorem append1_any {p b n:Nat} {C:Bs→Nat} {L:List Nat} {D:DskV} (nm s:ByteArray) (hn:nm.size≤maxLen) (hs:s.size≤maxLen) (hdead:D.dead=false) (g0 g1 g2:Nat) (w:World) (h:DskAt w p b n C L D) (hLs:∀ g ∈ L,g<w.heap.size)
    (h0:w.heap[g0]?=some (.cells #[.string nm] 9 (0,0))) (h1:w.heap[g1]?=some (.cells #[.pointer (some ⟨p,0,none⟩)] 46 (0,0))) (h2:w.heap[g2]?=some (.cells #[.string s] 9 (0,0))) (hgL:g0 ∉ L∧g1 ∉ L∧g2 ∉ L) :
    Calls Tryz.prog 95 #[.pointer (some ⟨g0,0,none⟩),.pointer (some ⟨g1,0,none⟩),.pointer (some ⟨g2,0,none⟩)] w fun e w'=>∃ k,e=.returned (.int .i64 k)∧DkR p b L (appD D nm.data.toList s.data.toList) w k w':=by
  have H:=Lib.hid h
  have HLs:=Lib.hid hLs
  have HG:=Lib.hid (And.intro h0 (And.intro h1 (And.intro h2 hgL)))
  have HDE:=Lib.hid hdead
  have HNS:=Lib.hid (And.intro hn hs)
  have HZ:=Lib.hid (show nm.data.toList.length=nm.size∧s.data.toList.length=s.size from ⟨by simp,by simp⟩)
  have HC:=Lib.hid (fun (y:World) (hy:Below w.heap.size w y)=>(show y.cell? ⟨g0,0,none⟩=some (.string nm)∧y.cell? ⟨g1,0,none⟩=some (.pointer (some ⟨p,0,none⟩))∧y.cell? ⟨g2,0,none⟩=some (.string s)∧y.cell? ⟨p,0,none⟩=some (.map (some b))∧y.cell? ⟨p,1,none⟩=some (.int .i64 (D.room:Int))∧y.cell? ⟨p,2,none⟩=some (.int .i64 (fuseI D.fuse)) from
    ⟨cell_of_row _ _ _ _ _ _ ((hy.block _ (Array.getElem?_eq_some_iff.1 h0).1).trans h0),cell_of_row _ _ _ _ _ _ ((hy.block _ (Array.getElem?_eq_some_iff.1 h1).1).trans h1),cell_of_row _ _ _ _ _ _ ((hy.block _ (Array.getElem?_eq_some_iff.1 h2).1).trans h2),(h.below hy).cells.1,(h.below hy).cells.2.1,(h.below hy).cells.2.2.1⟩))
  have HL:=Lib.hid (fun (y:World) (hy:Below w.heap.size w y)=>(h.m.below hy).at_.look_ok (t:=84) (key:=.string nm) (kl:=.string nm.data.toList) lawSt Tryz.underlying84 (zero_ptr y) (key_st hn))
  have HLN:=Lib.hid (fun (y:World) (hy:Below w.heap.size w y)=>(h.m.below hy).len (t:=84) Tryz.underlying84 3)
  obtain ⟨c0,c1,c2, -, -, -⟩:=HC.out w (Below.refl _ _)
  clear h hLs h0 h1 h2 hgL hdead hn hs
  go_enter Tryz.func95,Tryz.ntmps95
  by_cases hz:nm.size=0
  · have hz':((nm.size:Int) == 0)=true:=by rw [hz];rfl
    have HR:=Lib.hid (show appD D nm.data.toList s.data.toList=(D,2) by unfold appD;rw [HDE.out,if_neg (by decide),if_pos (.inl (by rw [HZ.out.1];exact hz))])
    clear hz
    go_wp2
    go_ret
    exact ⟨2,rfl,by rw [HR.out];exact DkR.same H.out (Below.refl _ _) 2⟩
  have hz':((nm.size:Int) == 0)=false:=by rw [beq_eq_false_iff_ne];omega
  by_cases hl:24<nm.size
  · have hl':(nm.size:Int) > 24:=by omega
    have HR:=Lib.hid (show appD D nm.data.toList s.data.toList=(D,2) by unfold appD;rw [HDE.out,if_neg (by decide),if_pos (.inr (by rw [HZ.out.1];exact hl))])
    clear hz hl
    go_wp2
    go_ret
    exact ⟨2,rfl,by rw [HR.out];exact DkR.same H.out (Below.refl _ _) 2⟩
  have hl' : ¬ (nm.size:Int) > 24:=by omega
  have HNM:=Lib.hid (And.intro hz hl)
  clear hz hl
  go_upto_region 3 with fail
  have HB:=Lib.hid (Below.refl w.heap.size w)
  refine (wpIn_wide (n:=1)).1 ?_
  refine RegJ.wpIn_region_plan (F:=Fence.wide) (KeptW w) (.step 0 0 (.step 1 0 (.step 2 0 (.step 3 0 (.step 4 0 (.step 5 0 (.step 6 0 (.step 7 0 (.step 8 0 (.step 9 0 (.step 10 0 .nil))))))))))) (by kernel_rfl) (by kernel_rfl) (by kernel_rfl) (fun _ _ d _ _ h=>by cases d <;> exact h) ⟨rfl,rfl,rfl,Nat.le_refl _,fun _ _=>rfl⟩ ?_
  dsimp only [RegJ.pickJ,List.getElem?_cons_zero,List.getElem?_cons_succ]
  change RegJ.Can _ _ _ _ _ _ _ _ w.drew
  have hkd:KeptW w w.drew:=⟨rfl,rfl,rfl,Nat.le_refl _,fun _ _=>rfl⟩
  generalize w.drew=v1 at *
  refine RegJ.reads ?_
  intro K hK
  go_simp
  refine ⟨.pointer (some ⟨p,0,none⟩),fun y hy=>?_,hK _ ?_⟩
  · obtain ⟨c1,c2,c3,c4,c5,c6⟩:=HC.out y (HB.out.trans ((KeptW.bel hy).mono HB.out.size))
    go_simp
  clear hK K
  iterate 2 (refine RegJ.reads ?_;intro K hK;go_simp;(first | refine ⟨_,fun _ _=>rfl,hK _ ?_⟩ | refine hK _ ?_);clear hK K)
  refine RegJ.reads ?_
  intro K hK
  go_simp
  refine ⟨.map (some b),fun y hy=>?_,hK _ ?_⟩
  · obtain ⟨c1,c2,c3,c4,c5,c6⟩:=HC.out y (HB.out.trans ((KeptW.bel hy).mono HB.out.size))
    go_simp
  clear hK K
  refine RegJ.reads ?_
  intro K hK
  go_simp
  refine ⟨.string nm,fun y hy=>?_,hK _ ?_⟩
  · obtain ⟨c1,c2,c3,c4,c5,c6⟩:=HC.out y (HB.out.trans ((KeptW.bel hy).mono HB.out.size))
    go_simp
  clear hK K
  refine RegJ.reads ?_
  intro K hK
  go_simp
  refine ⟨.tuple #[((dirM C D.fs) (.string nm.data.toList)).getD (.pointer none),.bool ((dirM C D.fs) (.string nm.data.toList)).isSome],fun y hy=>?_,hK _ ?_⟩
  · have hl:=HL.out y (HB.out.trans ((KeptW.bel hy).mono HB.out.size))
    go_simp
  clear hK K
  iterate 5 (refine RegJ.reads ?_;intro K hK;go_simp;(first | refine ⟨_,fun _ _=>rfl,hK _ ?_⟩ | refine hK _ ?_);clear hK K)
  refine RegJ.nil ?_
  replace HB:=Lib.hid (KeptW.bel hkd)
  clear hkd c0 c1 c2 hz' hl'
  go_upto_region 4 with fail
  by_cases hr:D.room<s.size
  · have hr':(s.size:Int) > (D.room:Int):=by omega
    have HR:=Lib.hid (show appD D nm.data.toList s.data.toList=(D,7) by unfold appD;rw [HDE.out,if_neg (by decide),if_neg (by rw [HZ.out.1];have:=HNM.out;omega),if_pos (.inl (by rw [HZ.out.2];exact hr))])
    clear hr
    refine (wpIn_wide (n:=1)).1 ?_
    refine RegJ.wpIn_region_plan (F:=Fence.wide) (KeptW v1) (.step 0 0 (.step 1 0 (.step 2 0 (.step 3 0 (.step 4 0 (.step 5 0 (.step 6 0 (.step 7 0 (.step 8 0 (.step 9 0 (.step 10 0 (.step 11 0 (.step 12 0 (.step 13 0 (.step 14 0 (.step 15 0 (.step 16 0 (.step 17 0 (.step 18 0 .nil))))))))))))))))))) (by kernel_rfl) (by kernel_rfl) (by kernel_rfl) (fun _ _ d _ _ h=>by cases d <;> exact h) ⟨rfl,rfl,rfl,Nat.le_refl _,fun _ _=>rfl⟩ ?_
    dsimp only [RegJ.pickJ,List.getElem?_cons_zero,List.getElem?_cons_succ]
    change RegJ.Can _ _ _ _ _ _ _ _ v1.drew
    have hkd:KeptW v1 v1.drew:=⟨rfl,rfl,rfl,Nat.le_refl _,fun _ _=>rfl⟩
    generalize v1.drew=v2 at *
    refine RegJ.reads ?_
    intro K hK
    go_simp
    refine ⟨.string s,fun y hy=>?_,hK _ ?_⟩
    · obtain ⟨c1,c2,c3,c4,c5,c6⟩:=HC.out y (HB.out.trans ((KeptW.bel hy).mono HB.out.size))
      go_simp
    clear hK K
    refine RegJ.reads ?_;intro K hK;go_simp;(first | refine ⟨_,fun _ _=>rfl,hK _ ?_⟩ | refine hK _ ?_);clear hK K
    refine RegJ.reads ?_
    intro K hK
    go_simp
    refine ⟨.pointer (some ⟨p,0,none⟩),fun y hy=>?_,hK _ ?_⟩
    · obtain ⟨c1,c2,c3,c4,c5,c6⟩:=HC.out y (HB.out.trans ((KeptW.bel hy).mono HB.out.size))
      go_simp
    clear hK K
    iterate 2 (refine RegJ.reads ?_;intro K hK;go_simp;(first | refine ⟨_,fun _ _=>rfl,hK _ ?_⟩ | refine hK _ ?_);clear hK K)
    refine RegJ.reads ?_
    intro K hK
    go_simp
    refine ⟨.int .i64 (D.room:Int),fun y hy=>?_,hK _ ?_⟩
    · obtain ⟨c1,c2,c3,c4,c5,c6⟩:=HC.out y (HB.out.trans ((KeptW.bel hy).mono HB.out.size))
      go_simp
    clear hK K
    iterate 2 (refine RegJ.reads ?_;intro K hK;go_simp;(first | refine ⟨_,fun _ _=>rfl,hK _ ?_⟩ | refine hK _ ?_);clear hK K)
    (refine RegJ.reads ?_;intro K hK;go_simp;refine hK _ ?_;clear hK K)
    (refine RegJ.reads ?_;intro K hK;go_simp;refine hK _ ?_;clear hK K)
    (refine RegJ.reads ?_;intro K hK;go_simp;refine hK _ ?_;clear hK K)
    (refine RegJ.reads ?_;intro K hK;go_simp;refine hK _ ?_;clear hK K)
    (refine RegJ.reads ?_;intro K hK;go_simp;refine hK _ ?_;clear hK K)
    (refine RegJ.reads ?_;intro K hK;go_simp;refine hK _ ?_;clear hK K)
    (refine RegJ.reads ?_;intro K hK;go_simp;refine hK _ ?_;clear hK K)
    (refine RegJ.reads ?_;intro K hK;go_simp;refine hK _ ?_;clear hK K)
    (refine RegJ.reads ?_;intro K hK;go_simp;refine hK _ ?_;clear hK K)
    (refine RegJ.reads ?_;intro K hK;go_simp;refine hK _ ?_;clear hK K)
    refine RegJ.reads ?_;intro K hK;go_simp;(first | refine ⟨_,fun _ _=>rfl,hK _ ?_⟩ | refine hK _ ?_);clear hK K
    refine RegJ.nil ?_
    have HBK:=Lib.hid (HB.out.trans ((KeptW.bel hkd).mono HB.out.size))
    clear hkd
    go_wp2
    go_ret
    exact ⟨7,rfl,by rw [HR.out];exact DkR.same H.out HBK.out 7⟩
  have hr' : ¬ (s.size:Int) > (D.room:Int):=by omega
  have HRM:=Lib.hid hr
  clear hr
  have hdir:dirM C D.fs (Lit.string nm.data.toList)=(findF nm.data.toList D.fs).map (fun f=>.pointer (some ⟨C f.nm,0,none⟩)):=rfl
  rw [hdir]
  clear hdir
  cases hfd:findF nm.data.toList D.fs with
  | some f1 =>
    have HFD:=Lib.hid hfd
    clear hfd
    simp only [Option.map_some,Option.getD_some,Option.isSome_some]
    refine (wpIn_wide (n:=1)).1 ?_
    refine RegJ.wpIn_region_plan (F:=Fence.wide) (KeptW v1) (.step 0 0 (.step 1 0 (.step 2 0 (.step 3 0 (.step 4 0 (.step 5 0 (.step 6 0 (.step 7 0 (.step 8 0 (.step 9 0 (.step 10 0 (.step 11 0 (.step 12 0 (.step 13 0 (.step 14 0 (.step 15 0 (.step 16 0 (.step 17 0 (.step 18 0 .nil))))))))))))))))))) (by kernel_rfl) (by kernel_rfl) (by kernel_rfl) (fun _ _ d _ _ h=>by cases d <;> exact h) ⟨rfl,rfl,rfl,Nat.le_refl _,fun _ _=>rfl⟩ ?_
    dsimp only [RegJ.pickJ,List.getElem?_cons_zero,List.getElem?_cons_succ]
    change RegJ.Can _ _ _ _ _ _ _ _ v1.drew
    have hkd:KeptW v1 v1.drew:=⟨rfl,rfl,rfl,Nat.le_refl _,fun _ _=>rfl⟩
    generalize v1.drew=v2 at *
    refine RegJ.reads ?_
    intro K hK
    go_simp
    refine ⟨.string s,fun y hy=>?_,hK _ ?_⟩
    · obtain ⟨c1,c2,c3,c4,c5,c6⟩:=HC.out y (HB.out.trans ((KeptW.bel hy).mono HB.out.size))
      go_simp
    clear hK K
    refine RegJ.reads ?_;intro K hK;go_simp;(first | refine ⟨_,fun _ _=>rfl,hK _ ?_⟩ | refine hK _ ?_);clear hK K
    refine RegJ.reads ?_
    intro K hK
    go_simp
    refine ⟨.pointer (some ⟨p,0,none⟩),fun y hy=>?_,hK _ ?_⟩
    · obtain ⟨c1,c2,c3,c4,c5,c6⟩:=HC.out y (HB.out.trans ((KeptW.bel hy).mono HB.out.size))
      go_simp
    clear hK K
    iterate 2 (refine RegJ.reads ?_;intro K hK;go_simp;(first | refine ⟨_,fun _ _=>rfl,hK _ ?_⟩ | refine hK _ ?_);clear hK K)
    refine RegJ.reads ?_
    intro K hK
    go_simp
    refine ⟨.int .i64 (D.room:Int),fun y hy=>?_,hK _ ?_⟩
    · obtain ⟨c1,c2,c3,c4,c5,c6⟩:=HC.out y (HB.out.trans ((KeptW.bel hy).mono HB.out.size))
      go_simp
    clear hK K
    iterate 5 (refine RegJ.reads ?_;intro K hK;go_simp;(first | refine ⟨_,fun _ _=>rfl,hK _ ?_⟩ | refine hK _ ?_);clear hK K)
    (refine RegJ.reads ?_;intro K hK;go_simp;refine hK _ ?_;clear hK K)
    (refine RegJ.reads ?_;intro K hK;go_simp;refine hK _ ?_;clear hK K)
    (refine RegJ.reads ?_;intro K hK;go_simp;refine hK _ ?_;clear hK K)
    (refine RegJ.reads ?_;intro K hK;go_simp;refine hK _ ?_;clear hK K)
    (refine RegJ.reads ?_;intro K hK;go_simp;refine hK _ ?_;clear hK K)
    (refine RegJ.reads ?_;intro K hK;go_simp;refine hK _ ?_;clear hK K)
    iterate 2 (refine RegJ.reads ?_;intro K hK;go_simp;(first | refine ⟨_,fun _ _=>rfl,hK _ ?_⟩ | refine hK _ ?_);clear hK K)
    refine RegJ.nil ?_
    have HBK:=Lib.hid (HB.out.trans ((KeptW.bel hkd).mono HB.out.size))
    clear hkd hr'
    have HRM1:=Lib.hid (show s.size≤D.room by have:=HRM.out;omega)
    obtain ⟨D1,C1,L1,hD1,hC1,hL1⟩:∃ D1 C1 L1,D1=D∧C1=C∧L1=L:=⟨D,C,L,rfl,rfl,rfl⟩
    obtain ⟨n1,hn1⟩:∃ n1,n1=n:=⟨_,rfl⟩
    have HT:=Lib.hid (show DskAt v2 p b n1 C1 L1 D1 by rw [hn1,hD1,hC1,hL1];exact H.out.below HBK.out)
    have HF1:=Lib.hid (show findF f1.nm D1.fs=some f1 by rw [hD1,(find_nm HFD.out).1];exact HFD.out)
    have HX:=Lib.hid (show v2.heap[g1]?=some (.cells #[.pointer (some ⟨p,0,none⟩)] 46 (0,0))∧v2.heap[g2]?=some (.cells #[.string s] 9 (0,0))∧g1 ∉ L1∧g2 ∉ L1 from ⟨(HBK.out.block _ (Array.getElem?_eq_some_iff.1 HG.out.2.1).1).trans HG.out.2.1,(HBK.out.block _ (Array.getElem?_eq_some_iff.1 HG.out.2.2.1).1).trans HG.out.2.2.1,by rw [hL1];exact HG.out.2.2.2.2.1,by rw [hL1];exact HG.out.2.2.2.2.2⟩)
    have HTN:=Lib.hid (show Turns L1 w v2∧∀ g ∈ L1,g ∈ L∨w.heap.size≤g from ⟨Turns.of HBK.out,fun g hg=>.inl (by rw [← hL1];exact hg)⟩)
    have HD1:=Lib.hid (show D1.room=D.room from by rw [hD1])
    have HAP:=Lib.hid (show appD D nm.data.toList s.data.toList=wrD D1 f1 s.data.toList by rw [hD1];exact app_wr HDE.out (by rw [HZ.out.1];have:=HNM.out;omega) (by rw [HZ.out.2];exact HRM.out) HFD.out)
    rw [← hC1]
    clear hD1 hC1 hL1 hn1
    have hcl:=HT.out.cl f1 (find_nm HF1.out).2
    have hcc:=HT.out.c f1 (find_nm HF1.out).2
    obtain ⟨c,hce⟩:∃ c,c=C1 f1.nm:=⟨_,rfl⟩
    rw [← hce] at hcl hcc ⊢
    have HCE:=Lib.hid (And.intro hce (And.intro hcl hcc))
    clear hce hcl hcc
    obtain ⟨xb,hxb⟩:∃ xb:ByteArray,xb=⟨f1.by_.toArray⟩:=⟨_,rfl⟩
    have HXB:=Lib.hid (show xb=⟨f1.by_.toArray⟩∧xb.size=f1.by_.length∧f1.by_.length+D1.room≤4194304 from ⟨hxb,by rw [hxb];simp [ByteArray.size],by
      have h1:=put_old (f:={ f1 with by_:=[] }) HT.out.ris HF1.out
      have h2:=HT.out.sum
      simp at h1
      omega⟩)
    clear hxb
    have HCY:=Lib.hid (fun (y:World) (hy:Below v2.heap.size v2 y)=>(show y.cell? ⟨g1,0,none⟩=some (.pointer (some ⟨p,0,none⟩))∧y.cell? ⟨g2,0,none⟩=some (.string s)∧y.cell? ⟨c,0,none⟩=some (.string xb)∧y.cell? ⟨p,2,none⟩=some (.int .i64 (fuseI D1.fuse)) from
      ⟨cell_of_row _ _ _ _ _ _ ((hy.block _ (Array.getElem?_eq_some_iff.1 HX.out.1).1).trans HX.out.1),cell_of_row _ _ _ _ _ _ ((hy.block _ (Array.getElem?_eq_some_iff.1 HX.out.2.1).1).trans HX.out.2.1),by rw [HXB.out.1];exact cell_of_row _ _ _ _ _ _ ((hy.block _ (Array.getElem?_eq_some_iff.1 HCE.out.2.2).1).trans HCE.out.2.2),(HT.out.below hy).cells.2.2.1⟩))
    obtain ⟨d1,d2,d3,d4⟩:=HCY.out v2 (Below.refl _ _)
    cases hfu:D1.fuse with
    | none =>
      rw [hfu] at d4
      have d4':v2.cell? ⟨p,2,none⟩=some (.int .i64 (-1)):=d4
      have HFU:=Lib.hid hfu
      clear d4 hfu
      have HNN:=Lib.hid (Nat.le_refl s.size)
      have hap : ¬ 9223372036854775807<xb.size+s.size:=by have:=HXB.out;have:=HRM1.out;have:=HD1.out;omega
      go_upto_region 13 with fail
      clear d1 d2 d3 d4'
      refine (wpIn_wide (n:=1)).1 ?_
      refine RegK.wpIn_region_can (F:=Fence.wide) (KeptW v2) [(0,0),(1,0),(2,0),(3,0),(4,0),(5,0),(6,0),(7,0),(8,0),(9,0),(10,3)] (by kernel_rfl) (by kernel_rfl) (by kernel_rfl) (fun _ _ d _ _ h=>by cases d <;> exact h) ⟨rfl,rfl,rfl,Nat.le_refl _,fun _ _=>rfl⟩ ?_
      dsimp only [RegK.pick,List.getElem?_cons_zero,List.getElem?_cons_succ]
      change RegK.Can _ _ _ _ _ _ _ _ v2.drew
      have hkd:KeptW v2 v2.drew:=⟨rfl,rfl,rfl,Nat.le_refl _,fun _ _=>rfl⟩
      have HK0:=Lib.hid (show ∀ g:Nat,v2.drew.heap[g]?=v2.heap[g]? from fun _=>rfl)
      generalize v2.drew=x1 at *
      iterate 3 (refine RegK.can_reads ?_;intro K hK;go_simp;(first | refine ⟨_,fun _ _=>rfl,hK _ ?_⟩ | refine hK _ ?_);clear hK K)
      refine RegK.can_reads ?_
      intro K hK
      go_simp
      refine ⟨.string xb,fun y hy=>?_,hK _ ?_⟩
      · obtain ⟨d1,d2,d3,d4⟩:=HCY.out y (KeptW.bel hy)
        go_simp
      clear hK K
      refine RegK.can_reads ?_
      intro K hK
      go_simp
      refine ⟨.string s,fun y hy=>?_,hK _ ?_⟩
      · obtain ⟨d1,d2,d3,d4⟩:=HCY.out y (KeptW.bel hy)
        go_simp
      clear hK K
      iterate 5 (refine RegK.can_reads ?_;intro K hK;go_simp;(first | refine ⟨_,fun _ _=>rfl,hK _ ?_⟩ | refine hK _ ?_);clear hK K)
      have hk1:=KeptW.bel hkd
      have hp1:=(hk1.block c (Array.getElem?_eq_some_iff.1 HCE.out.2.2).1).trans HCE.out.2.2
      have s1:x1.cell? ⟨c,0,none⟩=some (.string xb):=(HCY.out x1 hk1).2.2.1
      have s2:=thaw0 0 hp1
      refine RegK.can_frees (fun _=>trivial) ?_
      intro K K0 hK hK0
      go_simp
      refine hK (fun _=>True) _ _ trivial ?_
      clear hK K hK0 K0
      refine RegK.can_nil ?_
      have hpx:=(HK0.out p).trans HT.out.d
      have hcx:=(HK0.out c).trans HCE.out.2.2
      have H2:=Lib.hid (show (x1.setCell ⟨c,0,none⟩ (.string (xb++s))).heap[p]?=some (.cells (dskC b D1) 86 (0,0))∧(x1.setCell ⟨c,0,none⟩ (.string (xb++s))).heap[c]?=some (.cells (filC { f1 with by_:=f1.by_++s.data.toList.take (s.size) }) 93 (0,0))∧(∀ g,g≠c→(x1.setCell ⟨c,0,none⟩ (.string (xb++s))).heap[g]?=v2.heap[g]?)∧Turns L1 v2 (x1.setCell ⟨c,0,none⟩ (.string (xb++s))) from by
        refine ⟨(setC_other HCE.out.2.1.2.1.symm).trans hpx,?_,fun g hg=>(setC_other hg).trans (HK0.out g),(Turns.of (KeptW.bel hkd)).trans (setC_turns HCE.out.2.1.1)⟩
        rw [heap_setCell_same x1 c 0 (filC f1) _ _ hcx]
        show some (Obj.cells #[Value.string (xb++s),_] _ _)=some (Obj.cells #[Value.string _,_] _ _)
        rw [show xb++s=⟨(f1.by_++s.data.toList.take (s.size)).toArray⟩ by
          apply ByteArray.ext
          apply Array.toList_inj.1
          rw [ByteArray.data_append,Array.toList_append,HXB.out.1]
          first
            | (simp;done)
            | (simp;exact (List.take_of_length_le (Nat.le_of_eq HZ.out.2)).symm)])
      clear hpx hcx hkd HK0
      generalize x1.setCell ⟨c,0,none⟩ (.string (xb++s))=x2 at *
      have e1:x2.cell? ⟨g1,0,none⟩=some (.pointer (some ⟨p,0,none⟩)):=cell_of_row _ _ _ _ _ _ ((H2.out.2.2.2.block g1 (Array.getElem?_eq_some_iff.1 HX.out.1).1 HX.out.2.2.1).trans HX.out.1)
      have e2:x2.cell? ⟨p,1,none⟩=some (.int .i64 (D1.room:Int)):=cell_of_row _ _ _ _ _ _ H2.out.1
      have e3:=thaw0 1 H2.out.1
      have xr:wrap64 ((D1.room:Int) - ((s.size:Nat):Int))=((D1.room - (s.size):Nat):Int):=by unfold wrap64;have:=HXB.out;have:=HRM1.out;have:=HD1.out;have:=HNN.out;omega
      go_upto_region 15 with fail
      have htk:(s.data.toList.take (s.size)).length=(s.size):=by rw [List.length_take,HZ.out.2];have:=HNN.out;omega
      have H3:=Lib.hid (show DskAt (x2.setCell ⟨p,1,none⟩ (.int .i64 ((D1.room - (s.size):Nat):Int))) p b n1 C1 L1 (D1.more f1 (s.data.toList.take (s.size)))∧Turns L1 w (x2.setCell ⟨p,1,none⟩ (.int .i64 ((D1.room - (s.size):Nat):Int)))∧(x2.setCell ⟨p,1,none⟩ (.int .i64 ((D1.room - (s.size):Nat):Int))).cell? ⟨g1,0,none⟩=some (.pointer (some ⟨p,0,none⟩)) from by
        have hpo:=put_old (f:={ f1 with by_:=f1.by_++s.data.toList.take (s.size) }) HT.out.ris HF1.out
        have hgp:g1≠p:=fun e=>HX.out.2.2.1 (by rw [e];exact HT.out.pb.1)
        refine ⟨HT.out.upd (f':={ f1 with by_:=f1.by_++s.data.toList.take (s.size) }) HF1.out rfl rfl ?_ ?_ (fun g _ q1 q2=>(setC_other q1).trans (H2.out.2.2.1 g (by rw [HCE.out.1];exact q2))) ?_ ?_ HT.out.fz,?_,(World.cell?_of_block (setC_other hgp)).trans e1⟩
        · rw [heap_setCell_same x2 p 1 (dskC b D1) _ _ H2.out.1]
          show some (Obj.cells #[_,Value.int .i64 ((D1.room - (s.size):Nat):Int),_,_] _ _)=some (Obj.cells #[_,Value.int .i64 ((D1.room - (s.data.toList.take (s.size)).length:Nat):Int),_,_] _ _)
          rw [htk]
          rfl
        · rw [← HCE.out.1];exact (setC_other HCE.out.2.1.2.1).trans H2.out.2.1
        · show f1.sy≤(f1.by_++s.data.toList.take (s.size)).length
          have:=HT.out.syn f1 (find_nm HF1.out).2
          rw [List.length_append];omega
        · show D1.room - (s.data.toList.take (s.size)).length+totF (putF _ D1.fs)≤4194304
          have h1:=hpo.1
          have h2:=HT.out.sum
          have h3:=HNN.out
          have h4:=HRM1.out
          have h5:=HD1.out
          simp only [List.length_append,htk] at h1
          rw [htk]
          omega
        · exact HTN.out.1.trans (H2.out.2.2.2.trans (setC_turns HT.out.pb.1)))
      clear e1 e2 e3 xr htk
      generalize x2.setCell ⟨p,1,none⟩ (.int .i64 ((D1.room - (s.size):Nat):Int))=x3 at *
      obtain ⟨-, -, f2, -⟩:=H3.out.1.cells
      have f2':x3.cell? ⟨p,2,none⟩=some (.int .i64 (-1)):=by rw [f2];show some (Value.int .i64 (fuseI D1.fuse))=_;rw [HFU.out];rfl
      have f1':=H3.out.2.2
      clear f2
      go_wp2
      go_ret
      refine ⟨0,rfl,?_⟩
      rw [HAP.out]
      unfold wrD
      rw [HFU.out]
      have hfull:s.data.toList.take s.size=s.data.toList:=List.take_of_length_le (Nat.le_of_eq HZ.out.2)
      have h3:=H3.out
      rw [hfull] at h3
      exact ⟨rfl,_,C1,L1,h3.1,h3.2.1.narrow HTN.out.2,HTN.out.2⟩
    | some k =>
      rw [hfu] at d4
      have d4':v2.cell? ⟨p,2,none⟩=some (.int .i64 (k:Int)):=d4
      have hkf:=HT.out.fz k hfu
      have HFU:=Lib.hid (And.intro hfu hkf)
      have hne:((k:Int) != -1)=true:=by rw [bne_iff_ne];omega
      clear d4 hfu hkf
      by_cases hks:k<s.size
      · have hkl:(k:Int)<(s.size:Int):=by omega
        have HNN:=Lib.hid (show k≤s.size by omega)
        have hap : ¬ 9223372036854775807<xb.size+k:=by have:=HXB.out;have:=HRM1.out;have:=HD1.out;omega
        have hks1:k≤s.size:=by omega
        have HKS:=Lib.hid hks
        clear hks
        go_upto_region 13 with fail
        clear d1 d2 d3 d4'
        refine (wpIn_wide (n:=1)).1 ?_
        refine RegK.wpIn_region_can (F:=Fence.wide) (KeptW v2) [(0,0),(1,0),(2,0),(3,0),(4,0),(5,0),(6,0),(7,0),(8,0),(9,0),(10,3)] (by kernel_rfl) (by kernel_rfl) (by kernel_rfl) (fun _ _ d _ _ h=>by cases d <;> exact h) ⟨rfl,rfl,rfl,Nat.le_refl _,fun _ _=>rfl⟩ ?_
        dsimp only [RegK.pick,List.getElem?_cons_zero,List.getElem?_cons_succ]
        change RegK.Can _ _ _ _ _ _ _ _ v2.drew
        have hkd:KeptW v2 v2.drew:=⟨rfl,rfl,rfl,Nat.le_refl _,fun _ _=>rfl⟩
        have HK0:=Lib.hid (show ∀ g:Nat,v2.drew.heap[g]?=v2.heap[g]? from fun _=>rfl)
        generalize v2.drew=x1 at *
        iterate 3 (refine RegK.can_reads ?_;intro K hK;go_simp;(first | refine ⟨_,fun _ _=>rfl,hK _ ?_⟩ | refine hK _ ?_);clear hK K)
        refine RegK.can_reads ?_
        intro K hK
        go_simp
        refine ⟨.string xb,fun y hy=>?_,hK _ ?_⟩
        · obtain ⟨d1,d2,d3,d4⟩:=HCY.out y (KeptW.bel hy)
          go_simp
        clear hK K
        refine RegK.can_reads ?_
        intro K hK
        go_simp
        refine ⟨.string s,fun y hy=>?_,hK _ ?_⟩
        · obtain ⟨d1,d2,d3,d4⟩:=HCY.out y (KeptW.bel hy)
          go_simp
        clear hK K
        iterate 5 (refine RegK.can_reads ?_;intro K hK;go_simp;(first | refine ⟨_,fun _ _=>rfl,hK _ ?_⟩ | refine hK _ ?_);clear hK K)
        have hk1:=KeptW.bel hkd
        have hp1:=(hk1.block c (Array.getElem?_eq_some_iff.1 HCE.out.2.2).1).trans HCE.out.2.2
        have s1:x1.cell? ⟨c,0,none⟩=some (.string xb):=(HCY.out x1 hk1).2.2.1
        have s2:=thaw0 0 hp1
        refine RegK.can_frees (fun _=>trivial) ?_
        intro K K0 hK hK0
        go_simp
        refine hK (fun _=>True) _ _ trivial ?_
        clear hK K hK0 K0
        refine RegK.can_nil ?_
        have hpx:=(HK0.out p).trans HT.out.d
        have hcx:=(HK0.out c).trans HCE.out.2.2
        have H2:=Lib.hid (show (x1.setCell ⟨c,0,none⟩ (.string (xb++s.extract 0 k))).heap[p]?=some (.cells (dskC b D1) 86 (0,0))∧(x1.setCell ⟨c,0,none⟩ (.string (xb++s.extract 0 k))).heap[c]?=some (.cells (filC { f1 with by_:=f1.by_++s.data.toList.take (k) }) 93 (0,0))∧(∀ g,g≠c→(x1.setCell ⟨c,0,none⟩ (.string (xb++s.extract 0 k))).heap[g]?=v2.heap[g]?)∧Turns L1 v2 (x1.setCell ⟨c,0,none⟩ (.string (xb++s.extract 0 k))) from by
          refine ⟨(setC_other HCE.out.2.1.2.1.symm).trans hpx,?_,fun g hg=>(setC_other hg).trans (HK0.out g),(Turns.of (KeptW.bel hkd)).trans (setC_turns HCE.out.2.1.1)⟩
          rw [heap_setCell_same x1 c 0 (filC f1) _ _ hcx]
          show some (Obj.cells #[Value.string (xb++s.extract 0 k),_] _ _)=some (Obj.cells #[Value.string _,_] _ _)
          rw [show xb++s.extract 0 k=⟨(f1.by_++s.data.toList.take (k)).toArray⟩ by
            apply ByteArray.ext
            apply Array.toList_inj.1
            rw [ByteArray.data_append,Array.toList_append,HXB.out.1]
            first
              | (simp [ByteArray.data_extract];done)
              | (simp;exact (List.take_of_length_le (Nat.le_of_eq HZ.out.2)).symm)])
        clear hpx hcx hkd HK0
        generalize x1.setCell ⟨c,0,none⟩ (.string (xb++s.extract 0 k))=x2 at *
        have e1:x2.cell? ⟨g1,0,none⟩=some (.pointer (some ⟨p,0,none⟩)):=cell_of_row _ _ _ _ _ _ ((H2.out.2.2.2.block g1 (Array.getElem?_eq_some_iff.1 HX.out.1).1 HX.out.2.2.1).trans HX.out.1)
        have e2:x2.cell? ⟨p,1,none⟩=some (.int .i64 (D1.room:Int)):=cell_of_row _ _ _ _ _ _ H2.out.1
        have e3:=thaw0 1 H2.out.1
        have xr:wrap64 ((D1.room:Int) - ((k:Nat):Int))=((D1.room - (k):Nat):Int):=by unfold wrap64;have:=HXB.out;have:=HRM1.out;have:=HD1.out;have:=HNN.out;omega
        go_upto_region 15 with fail
        have htk:(s.data.toList.take (k)).length=(k):=by rw [List.length_take,HZ.out.2];have:=HNN.out;omega
        have H3:=Lib.hid (show DskAt (x2.setCell ⟨p,1,none⟩ (.int .i64 ((D1.room - (k):Nat):Int))) p b n1 C1 L1 (D1.more f1 (s.data.toList.take (k)))∧Turns L1 w (x2.setCell ⟨p,1,none⟩ (.int .i64 ((D1.room - (k):Nat):Int)))∧(x2.setCell ⟨p,1,none⟩ (.int .i64 ((D1.room - (k):Nat):Int))).cell? ⟨g1,0,none⟩=some (.pointer (some ⟨p,0,none⟩)) from by
          have hpo:=put_old (f:={ f1 with by_:=f1.by_++s.data.toList.take (k) }) HT.out.ris HF1.out
          have hgp:g1≠p:=fun e=>HX.out.2.2.1 (by rw [e];exact HT.out.pb.1)
          refine ⟨HT.out.upd (f':={ f1 with by_:=f1.by_++s.data.toList.take (k) }) HF1.out rfl rfl ?_ ?_ (fun g _ q1 q2=>(setC_other q1).trans (H2.out.2.2.1 g (by rw [HCE.out.1];exact q2))) ?_ ?_ HT.out.fz,?_,(World.cell?_of_block (setC_other hgp)).trans e1⟩
          · rw [heap_setCell_same x2 p 1 (dskC b D1) _ _ H2.out.1]
            show some (Obj.cells #[_,Value.int .i64 ((D1.room - (k):Nat):Int),_,_] _ _)=some (Obj.cells #[_,Value.int .i64 ((D1.room - (s.data.toList.take (k)).length:Nat):Int),_,_] _ _)
            rw [htk]
            rfl
          · rw [← HCE.out.1];exact (setC_other HCE.out.2.1.2.1).trans H2.out.2.1
          · show f1.sy≤(f1.by_++s.data.toList.take (k)).length
            have:=HT.out.syn f1 (find_nm HF1.out).2
            rw [List.length_append];omega
          · show D1.room - (s.data.toList.take (k)).length+totF (putF _ D1.fs)≤4194304
            have h1:=hpo.1
            have h2:=HT.out.sum
            have h3:=HNN.out
            have h4:=HRM1.out
            have h5:=HD1.out
            simp only [List.length_append,htk] at h1
            rw [htk]
            omega
          · exact HTN.out.1.trans (H2.out.2.2.2.trans (setC_turns HT.out.pb.1)))
        clear e1 e2 e3 xr htk
        generalize x2.setCell ⟨p,1,none⟩ (.int .i64 ((D1.room - (k):Nat):Int))=x3 at *
        have f1':=H3.out.2.2
        have HOFF:=Lib.hid (off_any x3 H3.out.1)
        go_wp2_with (go_at_call 43;refine HOFF.out.mono ?_;rintro e x4 ⟨⟨vv,rfl⟩,q1,q2⟩;have H4:=Lib.hid (And.intro q1 q2);clear q1 q2)
        go_ret
        refine ⟨9,rfl,?_⟩
        rw [HAP.out]
        unfold wrD
        rw [HFU.out.1]
        simp only
        rw [if_pos (by rw [HZ.out.2];exact HKS.out)]
        exact ⟨rfl,_,C1,L1,H4.out.1,(H3.out.2.1.trans H4.out.2).narrow HTN.out.2,HTN.out.2⟩
      · have hkl : ¬ (k:Int)<(s.size:Int):=by omega
        have HNN:=Lib.hid (Nat.le_refl s.size)
        have hap : ¬ 9223372036854775807<xb.size+s.size:=by have:=HXB.out;have:=HRM1.out;have:=HD1.out;omega
        have HKS:=Lib.hid hks
        clear hks
        go_upto_region 13 with fail
        clear d1 d2 d3 d4'
        refine (wpIn_wide (n:=1)).1 ?_
        refine RegK.wpIn_region_can (F:=Fence.wide) (KeptW v2) [(0,0),(1,0),(2,0),(3,0),(4,0),(5,0),(6,0),(7,0),(8,0),(9,0),(10,3)] (by kernel_rfl) (by kernel_rfl) (by kernel_rfl) (fun _ _ d _ _ h=>by cases d <;> exact h) ⟨rfl,rfl,rfl,Nat.le_refl _,fun _ _=>rfl⟩ ?_
        dsimp only [RegK.pick,List.getElem?_cons_zero,List.getElem?_cons_succ]
        change RegK.Can _ _ _ _ _ _ _ _ v2.drew
        have hkd:KeptW v2 v2.drew:=⟨rfl,rfl,rfl,Nat.le_refl _,fun _ _=>rfl⟩
        have HK0:=Lib.hid (show ∀ g:Nat,v2.drew.heap[g]?=v2.heap[g]? from fun _=>rfl)
        generalize v2.drew=x1 at *
        iterate 3 (refine RegK.can_reads ?_;intro K hK;go_simp;(first | refine ⟨_,fun _ _=>rfl,hK _ ?_⟩ | refine hK _ ?_);clear hK K)
        refine RegK.can_reads ?_
        intro K hK
        go_simp
        refine ⟨.string xb,fun y hy=>?_,hK _ ?_⟩
        · obtain ⟨d1,d2,d3,d4⟩:=HCY.out y (KeptW.bel hy)
          go_simp
        clear hK K
        refine RegK.can_reads ?_
        intro K hK
        go_simp
        refine ⟨.string s,fun y hy=>?_,hK _ ?_⟩
        · obtain ⟨d1,d2,d3,d4⟩:=HCY.out y (KeptW.bel hy)
          go_simp
        clear hK K
        iterate 5 (refine RegK.can_reads ?_;intro K hK;go_simp;(first | refine ⟨_,fun _ _=>rfl,hK _ ?_⟩ | refine hK _ ?_);clear hK K)
        have hk1:=KeptW.bel hkd
        have hp1:=(hk1.block c (Array.getElem?_eq_some_iff.1 HCE.out.2.2).1).trans HCE.out.2.2
        have s1:x1.cell? ⟨c,0,none⟩=some (.string xb):=(HCY.out x1 hk1).2.2.1
        have s2:=thaw0 0 hp1
        refine RegK.can_frees (fun _=>trivial) ?_
        intro K K0 hK hK0
        go_simp
        refine hK (fun _=>True) _ _ trivial ?_
        clear hK K hK0 K0
        refine RegK.can_nil ?_
        have hpx:=(HK0.out p).trans HT.out.d
        have hcx:=(HK0.out c).trans HCE.out.2.2
        have H2:=Lib.hid (show (x1.setCell ⟨c,0,none⟩ (.string (xb++s))).heap[p]?=some (.cells (dskC b D1) 86 (0,0))∧(x1.setCell ⟨c,0,none⟩ (.string (xb++s))).heap[c]?=some (.cells (filC { f1 with by_:=f1.by_++s.data.toList.take (s.size) }) 93 (0,0))∧(∀ g,g≠c→(x1.setCell ⟨c,0,none⟩ (.string (xb++s))).heap[g]?=v2.heap[g]?)∧Turns L1 v2 (x1.setCell ⟨c,0,none⟩ (.string (xb++s))) from by
          refine ⟨(setC_other HCE.out.2.1.2.1.symm).trans hpx,?_,fun g hg=>(setC_other hg).trans (HK0.out g),(Turns.of (KeptW.bel hkd)).trans (setC_turns HCE.out.2.1.1)⟩
          rw [heap_setCell_same x1 c 0 (filC f1) _ _ hcx]
          show some (Obj.cells #[Value.string (xb++s),_] _ _)=some (Obj.cells #[Value.string _,_] _ _)
          rw [show xb++s=⟨(f1.by_++s.data.toList.take (s.size)).toArray⟩ by
            apply ByteArray.ext
            apply Array.toList_inj.1
            rw [ByteArray.data_append,Array.toList_append,HXB.out.1]
            first
              | (simp;done)
              | (simp;exact (List.take_of_length_le (Nat.le_of_eq HZ.out.2)).symm)])
        clear hpx hcx hkd HK0
        generalize x1.setCell ⟨c,0,none⟩ (.string (xb++s))=x2 at *
        have e1:x2.cell? ⟨g1,0,none⟩=some (.pointer (some ⟨p,0,none⟩)):=cell_of_row _ _ _ _ _ _ ((H2.out.2.2.2.block g1 (Array.getElem?_eq_some_iff.1 HX.out.1).1 HX.out.2.2.1).trans HX.out.1)
        have e2:x2.cell? ⟨p,1,none⟩=some (.int .i64 (D1.room:Int)):=cell_of_row _ _ _ _ _ _ H2.out.1
        have e3:=thaw0 1 H2.out.1
        have xr:wrap64 ((D1.room:Int) - ((s.size:Nat):Int))=((D1.room - (s.size):Nat):Int):=by unfold wrap64;have:=HXB.out;have:=HRM1.out;have:=HD1.out;have:=HNN.out;omega
        go_upto_region 15 with fail
        have htk:(s.data.toList.take (s.size)).length=(s.size):=by rw [List.length_take,HZ.out.2];have:=HNN.out;omega
        have H3:=Lib.hid (show DskAt (x2.setCell ⟨p,1,none⟩ (.int .i64 ((D1.room - (s.size):Nat):Int))) p b n1 C1 L1 (D1.more f1 (s.data.toList.take (s.size)))∧Turns L1 w (x2.setCell ⟨p,1,none⟩ (.int .i64 ((D1.room - (s.size):Nat):Int)))∧(x2.setCell ⟨p,1,none⟩ (.int .i64 ((D1.room - (s.size):Nat):Int))).cell? ⟨g1,0,none⟩=some (.pointer (some ⟨p,0,none⟩)) from by
          have hpo:=put_old (f:={ f1 with by_:=f1.by_++s.data.toList.take (s.size) }) HT.out.ris HF1.out
          have hgp:g1≠p:=fun e=>HX.out.2.2.1 (by rw [e];exact HT.out.pb.1)
          refine ⟨HT.out.upd (f':={ f1 with by_:=f1.by_++s.data.toList.take (s.size) }) HF1.out rfl rfl ?_ ?_ (fun g _ q1 q2=>(setC_other q1).trans (H2.out.2.2.1 g (by rw [HCE.out.1];exact q2))) ?_ ?_ HT.out.fz,?_,(World.cell?_of_block (setC_other hgp)).trans e1⟩
          · rw [heap_setCell_same x2 p 1 (dskC b D1) _ _ H2.out.1]
            show some (Obj.cells #[_,Value.int .i64 ((D1.room - (s.size):Nat):Int),_,_] _ _)=some (Obj.cells #[_,Value.int .i64 ((D1.room - (s.data.toList.take (s.size)).length:Nat):Int),_,_] _ _)
            rw [htk]
            rfl
          · rw [← HCE.out.1];exact (setC_other HCE.out.2.1.2.1).trans H2.out.2.1
          · show f1.sy≤(f1.by_++s.data.toList.take (s.size)).length
            have:=HT.out.syn f1 (find_nm HF1.out).2
            rw [List.length_append];omega
          · show D1.room - (s.data.toList.take (s.size)).length+totF (putF _ D1.fs)≤4194304
            have h1:=hpo.1
            have h2:=HT.out.sum
            have h3:=HNN.out
            have h4:=HRM1.out
            have h5:=HD1.out
            simp only [List.length_append,htk] at h1
            rw [htk]
            omega
          · exact HTN.out.1.trans (H2.out.2.2.2.trans (setC_turns HT.out.pb.1)))
        clear e1 e2 e3 xr htk
        generalize x2.setCell ⟨p,1,none⟩ (.int .i64 ((D1.room - (s.size):Nat):Int))=x3 at *
        obtain ⟨-, -, f2, -⟩:=H3.out.1.cells
        have f2':x3.cell? ⟨p,2,none⟩=some (.int .i64 (k:Int)):=by rw [f2];show some (Value.int .i64 (fuseI D1.fuse))=_;rw [HFU.out.1];rfl
        have f1':=H3.out.2.2
        have f3:=thaw0 2 H3.out.1.d
        have xk:wrap64 ((k:Int) - (s.size:Int))=((k - s.size:Nat):Int):=by unfold wrap64;have:=HKS.out;have:=HFU.out.2;omega
        clear f2
        go_wp2
        go_ret
        refine ⟨0,rfl,?_⟩
        rw [HAP.out]
        unfold wrD
        rw [HFU.out.1]
        have hfull:s.data.toList.take s.size=s.data.toList:=List.take_of_length_le (Nat.le_of_eq HZ.out.2)
        have h3:=H3.out
        rw [hfull] at h3
        simp only
        rw [if_neg (by rw [HZ.out.2];exact HKS.out)]
        refine ⟨rfl,_,C1,L1,h3.1.head rfl ?_ (fun g _ q1=>setC_other q1) h3.1.sum (fun j hj=>by cases hj;have:=HFU.out.2;omega),?_,HTN.out.2⟩
        · rw [heap_setCell_same x3 p 2 (dskC b (D1.more f1 s.data.toList)) _ _ h3.1.d]
          show some (Obj.cells #[_,_,Value.int .i64 ((k - s.size:Nat):Int),_] _ _)=some (Obj.cells #[_,_,Value.int .i64 ((k - s.data.toList.length:Nat):Int),_] _ _)
          rw [HZ.out.2]
          try rfl
        · exact (h3.2.1.trans (setC_turns HT.out.pb.1)).narrow HTN.out.2
  | none =>
    have HFD:=Lib.hid hfd
    clear hfd
    simp only [Option.map_none,Option.getD_none,Option.isSome_none]
    by_cases hm:1000≤D.fs.length
    · have hm':(D.fs.length:Int) ≥ 1000:=by omega
      have HR:=Lib.hid (show appD D nm.data.toList s.data.toList=(D,7) by unfold appD;rw [HDE.out,if_neg (by decide),if_neg (by rw [HZ.out.1];have:=HNM.out;omega),if_pos (.inr ⟨by rw [HFD.out];rfl,hm⟩)])
      clear hm
      refine (wpIn_wide (n:=1)).1 ?_
      refine RegJ.wpIn_region_plan (F:=Fence.wide) (KeptW v1) (.step 0 0 (.step 1 0 (.step 2 0 (.step 3 0 (.step 4 0 (.step 5 0 (.step 6 0 (.step 7 0 (.step 8 0 (.step 9 0 (.step 10 0 (.step 11 0 (.step 12 0 (.step 13 0 (.step 14 0 (.step 15 0 (.step 16 0 (.step 17 0 (.step 18 0 .nil))))))))))))))))))) (by kernel_rfl) (by kernel_rfl) (by kernel_rfl) (fun _ _ d _ _ h=>by cases d <;> exact h) ⟨rfl,rfl,rfl,Nat.le_refl _,fun _ _=>rfl⟩ ?_
      dsimp only [RegJ.pickJ,List.getElem?_cons_zero,List.getElem?_cons_succ]
      change RegJ.Can _ _ _ _ _ _ _ _ v1.drew
      have hkd:KeptW v1 v1.drew:=⟨rfl,rfl,rfl,Nat.le_refl _,fun _ _=>rfl⟩
      generalize v1.drew=v2 at *
      refine RegJ.reads ?_
      intro K hK
      go_simp
      refine ⟨.string s,fun y hy=>?_,hK _ ?_⟩
      · obtain ⟨c1,c2,c3,c4,c5,c6⟩:=HC.out y (HB.out.trans ((KeptW.bel hy).mono HB.out.size))
        go_simp
      clear hK K
      refine RegJ.reads ?_;intro K hK;go_simp;(first | refine ⟨_,fun _ _=>rfl,hK _ ?_⟩ | refine hK _ ?_);clear hK K
      refine RegJ.reads ?_
      intro K hK
      go_simp
      refine ⟨.pointer (some ⟨p,0,none⟩),fun y hy=>?_,hK _ ?_⟩
      · obtain ⟨c1,c2,c3,c4,c5,c6⟩:=HC.out y (HB.out.trans ((KeptW.bel hy).mono HB.out.size))
        go_simp
      clear hK K
      iterate 2 (refine RegJ.reads ?_;intro K hK;go_simp;(first | refine ⟨_,fun _ _=>rfl,hK _ ?_⟩ | refine hK _ ?_);clear hK K)
      refine RegJ.reads ?_
      intro K hK
      go_simp
      refine ⟨.int .i64 (D.room:Int),fun y hy=>?_,hK _ ?_⟩
      · obtain ⟨c1,c2,c3,c4,c5,c6⟩:=HC.out y (HB.out.trans ((KeptW.bel hy).mono HB.out.size))
        go_simp
      clear hK K
      iterate 5 (refine RegJ.reads ?_;intro K hK;go_simp;(first | refine ⟨_,fun _ _=>rfl,hK _ ?_⟩ | refine hK _ ?_);clear hK K)
      refine RegJ.reads ?_
      intro K hK
      go_simp
      refine ⟨.pointer (some ⟨p,0,none⟩),fun y hy=>?_,hK _ ?_⟩
      · obtain ⟨c1,c2,c3,c4,c5,c6⟩:=HC.out y (HB.out.trans ((KeptW.bel hy).mono HB.out.size))
        go_simp
      clear hK K
      iterate 2 (refine RegJ.reads ?_;intro K hK;go_simp;(first | refine ⟨_,fun _ _=>rfl,hK _ ?_⟩ | refine hK _ ?_);clear hK K)
      refine RegJ.reads ?_
      intro K hK
      go_simp
      refine ⟨.map (some b),fun y hy=>?_,hK _ ?_⟩
      · obtain ⟨c1,c2,c3,c4,c5,c6⟩:=HC.out y (HB.out.trans ((KeptW.bel hy).mono HB.out.size))
        go_simp
      clear hK K
      refine RegJ.reads ?_
      intro K hK
      go_simp
      refine ⟨.int .i64 (D.fs.length:Int),fun y hy=>?_,hK _ ?_⟩
      · have hl:=HLN.out y (HB.out.trans ((KeptW.bel hy).mono HB.out.size))
        go_simp
      clear hK K
      iterate 3 (refine RegJ.reads ?_;intro K hK;go_simp;(first | refine ⟨_,fun _ _=>rfl,hK _ ?_⟩ | refine hK _ ?_);clear hK K)
      refine RegJ.nil ?_
      have HBK:=Lib.hid (HB.out.trans ((KeptW.bel hkd).mono HB.out.size))
      clear hkd
      go_wp2
      go_ret
      exact ⟨7,rfl,by rw [HR.out];exact DkR.same H.out HBK.out 7⟩
    have hm' : ¬ (D.fs.length:Int) ≥ 1000:=by omega
    have HMX:=Lib.hid hm
    clear hm
    refine (wpIn_wide (n:=1)).1 ?_
    refine RegJ.wpIn_region_plan (F:=Fence.wide) (KeptW v1) (.step 0 0 (.step 1 0 (.step 2 0 (.step 3 0 (.step 4 0 (.step 5 0 (.step 6 0 (.step 7 0 (.step 8 0 (.step 9 0 (.step 10 0 (.step 11 0 (.step 12 0 (.step 13 0 (.step 14 0 (.step 15 0 (.step 16 0 (.step 17 0 (.step 18 0 .nil))))))))))))))))))) (by kernel_rfl) (by kernel_rfl) (by kernel_rfl) (fun _ _ d _ _ h=>by cases d <;> exact h) ⟨rfl,rfl,rfl,Nat.le_refl _,fun _ _=>rfl⟩ ?_
    dsimp only [RegJ.pickJ,List.getElem?_cons_zero,List.getElem?_cons_succ]
    change RegJ.Can _ _ _ _ _ _ _ _ v1.drew
    have hkd:KeptW v1 v1.drew:=⟨rfl,rfl,rfl,Nat.le_refl _,fun _ _=>rfl⟩
    generalize v1.drew=v2 at *
    refine RegJ.reads ?_
    intro K hK
    go_simp
    refine ⟨.string s,fun y hy=>?_,hK _ ?_⟩
    · obtain ⟨c1,c2,c3,c4,c5,c6⟩:=HC.out y (HB.out.trans ((KeptW.bel hy).mono HB.out.size))
      go_simp
    clear hK K
    refine RegJ.reads ?_;intro K hK;go_simp;(first | refine ⟨_,fun _ _=>rfl,hK _ ?_⟩ | refine hK _ ?_);clear hK K
    refine RegJ.reads ?_
    intro K hK
    go_simp
    refine ⟨.pointer (some ⟨p,0,none⟩),fun y hy=>?_,hK _ ?_⟩
    · obtain ⟨c1,c2,c3,c4,c5,c6⟩:=HC.out y (HB.out.trans ((KeptW.bel hy).mono HB.out.size))
      go_simp
    clear hK K
    iterate 2 (refine RegJ.reads ?_;intro K hK;go_simp;(first | refine ⟨_,fun _ _=>rfl,hK _ ?_⟩ | refine hK _ ?_);clear hK K)
    refine RegJ.reads ?_
    intro K hK
    go_simp
    refine ⟨.int .i64 (D.room:Int),fun y hy=>?_,hK _ ?_⟩
    · obtain ⟨c1,c2,c3,c4,c5,c6⟩:=HC.out y (HB.out.trans ((KeptW.bel hy).mono HB.out.size))
      go_simp
    clear hK K
    iterate 5 (refine RegJ.reads ?_;intro K hK;go_simp;(first | refine ⟨_,fun _ _=>rfl,hK _ ?_⟩ | refine hK _ ?_);clear hK K)
    refine RegJ.reads ?_
    intro K hK
    go_simp
    refine ⟨.pointer (some ⟨p,0,none⟩),fun y hy=>?_,hK _ ?_⟩
    · obtain ⟨c1,c2,c3,c4,c5,c6⟩:=HC.out y (HB.out.trans ((KeptW.bel hy).mono HB.out.size))
      go_simp
    clear hK K
    iterate 2 (refine RegJ.reads ?_;intro K hK;go_simp;(first | refine ⟨_,fun _ _=>rfl,hK _ ?_⟩ | refine hK _ ?_);clear hK K)
    refine RegJ.reads ?_
    intro K hK
    go_simp
    refine ⟨.map (some b),fun y hy=>?_,hK _ ?_⟩
    · obtain ⟨c1,c2,c3,c4,c5,c6⟩:=HC.out y (HB.out.trans ((KeptW.bel hy).mono HB.out.size))
      go_simp
    clear hK K
    refine RegJ.reads ?_
    intro K hK
    go_simp
    refine ⟨.int .i64 (D.fs.length:Int),fun y hy=>?_,hK _ ?_⟩
    · have hl:=HLN.out y (HB.out.trans ((KeptW.bel hy).mono HB.out.size))
      go_simp
    clear hK K
    iterate 3 (refine RegJ.reads ?_;intro K hK;go_simp;(first | refine ⟨_,fun _ _=>rfl,hK _ ?_⟩ | refine hK _ ?_);clear hK K)
    refine RegJ.nil ?_
    have HBK:=Lib.hid (HB.out.trans ((KeptW.bel hkd).mono HB.out.size))
    clear hkd hr' hm'
    go_upto_region 8 with fail
    change Code.wp _ _ _ _ (v2.alloc (.cells (filC ⟨nm.data.toList,[],0⟩) 93))
    have hb3:=(Below.refl _ v2).alloc (Nat.le_refl _) (.cells (filC ⟨nm.data.toList,[],0⟩) 93)
    have hcn:(v2.alloc (.cells (filC ⟨nm.data.toList,[],0⟩) 93)).heap[v2.heap.size]?=some (.cells (filC ⟨nm.data.toList,[],0⟩) 93 (0,0)):=heap_alloc_new _ _
    have hvz:=HBK.out.size
    generalize v2.alloc (.cells (filC ⟨nm.data.toList,[],0⟩) 93)=v3 at *
    replace HB:=Lib.hid (HBK.out.trans (hb3.mono HBK.out.size))
    generalize v2.heap.size=cN at *
    have HCN:=Lib.hid (And.intro hcn hvz)
    clear hb3 hcn hvz HBK
    clear v2
    refine (wpIn_wide (n:=1)).1 ?_
    refine RegK.wpIn_region_can (F:=Fence.wide) (KeptW v3) [(0,0),(1,0),(2,0),(3,0),(4,0),(5,0),(6,3)] (by kernel_rfl) (by kernel_rfl) (by kernel_rfl) (fun _ _ d _ _ h=>by cases d <;> exact h) ⟨rfl,rfl,rfl,Nat.le_refl _,fun _ _=>rfl⟩ ?_
    dsimp only [RegK.pick,List.getElem?_cons_zero,List.getElem?_cons_succ]
    change RegK.Can _ _ _ _ _ _ _ _ v3.drew
    have hkd:KeptW v3 v3.drew:=⟨rfl,rfl,rfl,Nat.le_refl _,fun _ _=>rfl⟩
    have HK0:=Lib.hid (show ∀ g:Nat,v3.drew.heap[g]?=v3.heap[g]? from fun _=>rfl)
    generalize v3.drew=x0 at *
    refine RegK.can_reads ?_
    intro K hK
    go_simp
    refine ⟨.pointer (some ⟨p,0,none⟩),fun y hy=>?_,hK _ ?_⟩
    · obtain ⟨c1,c2,c3,c4,c5,c6⟩:=HC.out y (HB.out.trans ((KeptW.bel hy).mono HB.out.size))
      go_simp
    clear hK K
    iterate 2 (refine RegK.can_reads ?_;intro K hK;go_simp;(first | refine ⟨_,fun _ _=>rfl,hK _ ?_⟩ | refine hK _ ?_);clear hK K)
    refine RegK.can_reads ?_
    intro K hK
    go_simp
    refine ⟨.map (some b),fun y hy=>?_,hK _ ?_⟩
    · obtain ⟨c1,c2,c3,c4,c5,c6⟩:=HC.out y (HB.out.trans ((KeptW.bel hy).mono HB.out.size))
      go_simp
    clear hK K
    refine RegK.can_reads ?_
    intro K hK
    go_simp
    refine ⟨.string nm,fun y hy=>?_,hK _ ?_⟩
    · obtain ⟨c1,c2,c3,c4,c5,c6⟩:=HC.out y (HB.out.trans ((KeptW.bel hy).mono HB.out.size))
      go_simp
    clear hK K
    refine RegK.can_reads ?_;intro K hK;go_simp;(first | refine ⟨_,fun _ _=>rfl,hK _ ?_⟩ | refine hK _ ?_);clear hK K
    obtain ⟨w4,hrun,hm4,ht4⟩:=(H.out.m.tight.below (HB.out.trans ((KeptW.bel hkd).mono HB.out.size))).store (t:=84) (key:=.string nm) (val:=.pointer (some ⟨cN,0,none⟩)) (kl:=.string nm.data.toList) lawSt Tryz.underlying84 (Nat.lt_of_lt_of_le (Nat.lt_of_not_le HMX.out) (by decide)) (key_st HNS.out.1)
    have H4:=Lib.hid (And.intro hm4 ht4)
    clear hm4 ht4
    refine RegK.can_frees (fun _=>trivial) ?_
    intro K K0 hK hK0
    go_simp
    refine hK (fun _=>True) _ _ trivial ?_
    clear hK K hK0 K0
    refine RegK.can_nil ?_
    have hb4:∀ g,g≠b→w4.heap[g]?=v3.heap[g]?:=fun g hg=>(turned_block H4.out.2 hg).trans (HK0.out g)
    have hKB:=KeptW.bel hkd
    have ht4:Turns (cN::L) w w4:=by
      obtain ⟨es,clock,es',clock',hb,rfl⟩:=H4.out.2
      exact (Turns.of (HB.out.trans (hKB.mono HB.out.size))).trans ⟨rfl,rfl,rfl,by simp [setBlock],fun g _ hn=>heap_setBlock_other hb _ (fun e=>hn (by rw [e];exact List.mem_cons_of_mem _ H.out.pb.2.1))⟩
    have hcL:cN ∉ L:=fun q=>by have:=HLs.out _ q;have:=HCN.out.2;omega
    have hgw:∀ g,g<w.heap.size→g≠b→w4.heap[g]?=w.heap[g]?:=fun g hg h1=>(hb4 g h1).trans (HB.out.block g hg)
    have hcb:cN≠b:=fun e=>hcL (by rw [e];exact H.out.pb.2.1)
    have hmm:MpS Tryz.prog 9 w4 b (D.fs.length+1) (D.fs.length+1) (mpPut (dirM C D.fs) (.string nm.data.toList) (.pointer (some ⟨cN,0,none⟩))):=H4.out.1.congr (fun _ _=>rfl) (by
      show (if ((findF nm.data.toList D.fs).map _).isSome=true then _ else _)=_
      rw [HFD.out]
      rfl)
    have hadd:=H.out.add (w':=w4) HFD.out hcL (fun g hg=>by
      by_cases e:g=b
      · exact .inr e
      · exact .inl (hgw g (HLs.out g hg) e)) hmm ((hb4 cN hcb).trans HCN.out.1)
    have HRM1:=Lib.hid (show s.size≤D.room by have:=HRM.out;omega)
    obtain ⟨f1,hf1⟩:∃ f1:FilV,f1=⟨nm.data.toList,[],0⟩:=⟨_,rfl⟩
    obtain ⟨D1,hD1⟩:∃ D1:DskV,D1={ D with fs:=putF ⟨nm.data.toList,[],0⟩ D.fs }:=⟨_,rfl⟩
    obtain ⟨C1,hC1⟩:∃ C1:Bs→Nat,C1=fun q=>if q=nm.data.toList then cN else C q:=⟨_,rfl⟩
    obtain ⟨L1,hL1⟩:∃ L1,L1=cN::L:=⟨_,rfl⟩
    obtain ⟨n1,hn1⟩:∃ n1,n1=D.fs.length+1:=⟨_,rfl⟩
    rw [← hD1, ← hC1, ← hL1, ← hn1] at hadd
    have HT:=Lib.hid hadd
    have HF1:=Lib.hid (show findF f1.nm D1.fs=some f1 by rw [hD1,hf1];exact put_find)
    have hgb:∀ g,g ∉ L→g≠b:=fun g hg e=>hg (by rw [e];exact H.out.pb.2.1)
    have hgc:∀ g,g ∉ L→g<w.heap.size→g ∉ L1:=fun g hg h1 q=>by
      rw [hL1] at q
      rcases List.mem_cons.1 q with q | q
      · have:=HCN.out.2;omega
      · exact hg q
    have HX:=Lib.hid (show w4.heap[g1]?=some (.cells #[.pointer (some ⟨p,0,none⟩)] 46 (0,0))∧w4.heap[g2]?=some (.cells #[.string s] 9 (0,0))∧g1 ∉ L1∧g2 ∉ L1 from by
      obtain ⟨q0,q1,q2,q3,q4,q5⟩:=HG.out
      have r1:=(Array.getElem?_eq_some_iff.1 q1).1
      have r2:=(Array.getElem?_eq_some_iff.1 q2).1
      exact ⟨(hgw _ r1 (hgb _ q4)).trans q1,(hgw _ r2 (hgb _ q5)).trans q2,hgc _ q4 r1,hgc _ q5 r2⟩)
    have HTN:=Lib.hid (show Turns L1 w w4∧∀ g ∈ L1,g ∈ L∨w.heap.size≤g from ⟨by rw [hL1];exact ht4,fun g hg=>by
      rw [hL1] at hg
      rcases List.mem_cons.1 hg with q | q
      · exact .inr (by rw [q];exact HCN.out.2)
      · exact .inl q⟩)
    have HD1:=Lib.hid (show D1.room=D.room from by rw [hD1])
    have HAP:=Lib.hid (show appD D nm.data.toList s.data.toList=wrD D1 f1 s.data.toList by rw [hD1,hf1];exact app_new HDE.out (by rw [HZ.out.1];have:=HNM.out;omega) (by rw [HZ.out.2];exact HRM.out) HFD.out HMX.out)
    have hcc1:cN=C1 f1.nm:=by rw [hC1,hf1];simp
    rw [hcc1]
    clear hcc1 hgc hgb hadd hmm hcb hgw hcL ht4 hKB hb4 hf1 hD1 hC1 hL1 hn1 hkd hrun
    have hcl:=HT.out.cl f1 (find_nm HF1.out).2
    have hcc:=HT.out.c f1 (find_nm HF1.out).2
    obtain ⟨c,hce⟩:∃ c,c=C1 f1.nm:=⟨_,rfl⟩
    rw [← hce] at hcl hcc ⊢
    have HCE:=Lib.hid (And.intro hce (And.intro hcl hcc))
    clear hce hcl hcc
    obtain ⟨xb,hxb⟩:∃ xb:ByteArray,xb=⟨f1.by_.toArray⟩:=⟨_,rfl⟩
    have HXB:=Lib.hid (show xb=⟨f1.by_.toArray⟩∧xb.size=f1.by_.length∧f1.by_.length+D1.room≤4194304 from ⟨hxb,by rw [hxb];simp [ByteArray.size],by
      have h1:=put_old (f:={ f1 with by_:=[] }) HT.out.ris HF1.out
      have h2:=HT.out.sum
      simp at h1
      omega⟩)
    clear hxb
    have HCY:=Lib.hid (fun (y:World) (hy:Below w4.heap.size w4 y)=>(show y.cell? ⟨g1,0,none⟩=some (.pointer (some ⟨p,0,none⟩))∧y.cell? ⟨g2,0,none⟩=some (.string s)∧y.cell? ⟨c,0,none⟩=some (.string xb)∧y.cell? ⟨p,2,none⟩=some (.int .i64 (fuseI D1.fuse)) from
      ⟨cell_of_row _ _ _ _ _ _ ((hy.block _ (Array.getElem?_eq_some_iff.1 HX.out.1).1).trans HX.out.1),cell_of_row _ _ _ _ _ _ ((hy.block _ (Array.getElem?_eq_some_iff.1 HX.out.2.1).1).trans HX.out.2.1),by rw [HXB.out.1];exact cell_of_row _ _ _ _ _ _ ((hy.block _ (Array.getElem?_eq_some_iff.1 HCE.out.2.2).1).trans HCE.out.2.2),(HT.out.below hy).cells.2.2.1⟩))
    obtain ⟨d1,d2,d3,d4⟩:=HCY.out w4 (Below.refl _ _)
    cases hfu:D1.fuse with
    | none =>
      rw [hfu] at d4
      have d4':w4.cell? ⟨p,2,none⟩=some (.int .i64 (-1)):=d4
      have HFU:=Lib.hid hfu
      clear d4 hfu
      have HNN:=Lib.hid (Nat.le_refl s.size)
      have hap : ¬ 9223372036854775807<xb.size+s.size:=by have:=HXB.out;have:=HRM1.out;have:=HD1.out;omega
      go_upto_region 13 with fail
      clear d1 d2 d3 d4'
      refine (wpIn_wide (n:=1)).1 ?_
      refine RegK.wpIn_region_can (F:=Fence.wide) (KeptW w4) [(0,0),(1,0),(2,0),(3,0),(4,0),(5,0),(6,0),(7,0),(8,0),(9,0),(10,3)] (by kernel_rfl) (by kernel_rfl) (by kernel_rfl) (fun _ _ d _ _ h=>by cases d <;> exact h) ⟨rfl,rfl,rfl,Nat.le_refl _,fun _ _=>rfl⟩ ?_
      dsimp only [RegK.pick,List.getElem?_cons_zero,List.getElem?_cons_succ]
      change RegK.Can _ _ _ _ _ _ _ _ w4.drew
      have hkd:KeptW w4 w4.drew:=⟨rfl,rfl,rfl,Nat.le_refl _,fun _ _=>rfl⟩
      have HK0:=Lib.hid (show ∀ g:Nat,w4.drew.heap[g]?=w4.heap[g]? from fun _=>rfl)
      generalize w4.drew=x1 at *
      iterate 3 (refine RegK.can_reads ?_;intro K hK;go_simp;(first | refine ⟨_,fun _ _=>rfl,hK _ ?_⟩ | refine hK _ ?_);clear hK K)
      refine RegK.can_reads ?_
      intro K hK
      go_simp
      refine ⟨.string xb,fun y hy=>?_,hK _ ?_⟩
      · obtain ⟨d1,d2,d3,d4⟩:=HCY.out y (KeptW.bel hy)
        go_simp
      clear hK K
      refine RegK.can_reads ?_
      intro K hK
      go_simp
      refine ⟨.string s,fun y hy=>?_,hK _ ?_⟩
      · obtain ⟨d1,d2,d3,d4⟩:=HCY.out y (KeptW.bel hy)
        go_simp
      clear hK K
      iterate 5 (refine RegK.can_reads ?_;intro K hK;go_simp;(first | refine ⟨_,fun _ _=>rfl,hK _ ?_⟩ | refine hK _ ?_);clear hK K)
      have hk1:=KeptW.bel hkd
      have hp1:=(hk1.block c (Array.getElem?_eq_some_iff.1 HCE.out.2.2).1).trans HCE.out.2.2
      have s1:x1.cell? ⟨c,0,none⟩=some (.string xb):=(HCY.out x1 hk1).2.2.1
      have s2:=thaw0 0 hp1
      refine RegK.can_frees (fun _=>trivial) ?_
      intro K K0 hK hK0
      go_simp
      refine hK (fun _=>True) _ _ trivial ?_
      clear hK K hK0 K0
      refine RegK.can_nil ?_
      have hpx:=(HK0.out p).trans HT.out.d
      have hcx:=(HK0.out c).trans HCE.out.2.2
      have H2:=Lib.hid (show (x1.setCell ⟨c,0,none⟩ (.string (xb++s))).heap[p]?=some (.cells (dskC b D1) 86 (0,0))∧(x1.setCell ⟨c,0,none⟩ (.string (xb++s))).heap[c]?=some (.cells (filC { f1 with by_:=f1.by_++s.data.toList.take (s.size) }) 93 (0,0))∧(∀ g,g≠c→(x1.setCell ⟨c,0,none⟩ (.string (xb++s))).heap[g]?=w4.heap[g]?)∧Turns L1 w4 (x1.setCell ⟨c,0,none⟩ (.string (xb++s))) from by
        refine ⟨(setC_other HCE.out.2.1.2.1.symm).trans hpx,?_,fun g hg=>(setC_other hg).trans (HK0.out g),(Turns.of (KeptW.bel hkd)).trans (setC_turns HCE.out.2.1.1)⟩
        rw [heap_setCell_same x1 c 0 (filC f1) _ _ hcx]
        show some (Obj.cells #[Value.string (xb++s),_] _ _)=some (Obj.cells #[Value.string _,_] _ _)
        rw [show xb++s=⟨(f1.by_++s.data.toList.take (s.size)).toArray⟩ by
          apply ByteArray.ext
          apply Array.toList_inj.1
          rw [ByteArray.data_append,Array.toList_append,HXB.out.1]
          first
            | (simp;done)
            | (simp;exact (List.take_of_length_le (Nat.le_of_eq HZ.out.2)).symm)])
      clear hpx hcx hkd HK0
      generalize x1.setCell ⟨c,0,none⟩ (.string (xb++s))=x2 at *
      have e1:x2.cell? ⟨g1,0,none⟩=some (.pointer (some ⟨p,0,none⟩)):=cell_of_row _ _ _ _ _ _ ((H2.out.2.2.2.block g1 (Array.getElem?_eq_some_iff.1 HX.out.1).1 HX.out.2.2.1).trans HX.out.1)
      have e2:x2.cell? ⟨p,1,none⟩=some (.int .i64 (D1.room:Int)):=cell_of_row _ _ _ _ _ _ H2.out.1
      have e3:=thaw0 1 H2.out.1
      have xr:wrap64 ((D1.room:Int) - ((s.size:Nat):Int))=((D1.room - (s.size):Nat):Int):=by unfold wrap64;have:=HXB.out;have:=HRM1.out;have:=HD1.out;have:=HNN.out;omega
      go_upto_region 15 with fail
      have htk:(s.data.toList.take (s.size)).length=(s.size):=by rw [List.length_take,HZ.out.2];have:=HNN.out;omega
      have H3:=Lib.hid (show DskAt (x2.setCell ⟨p,1,none⟩ (.int .i64 ((D1.room - (s.size):Nat):Int))) p b n1 C1 L1 (D1.more f1 (s.data.toList.take (s.size)))∧Turns L1 w (x2.setCell ⟨p,1,none⟩ (.int .i64 ((D1.room - (s.size):Nat):Int)))∧(x2.setCell ⟨p,1,none⟩ (.int .i64 ((D1.room - (s.size):Nat):Int))).cell? ⟨g1,0,none⟩=some (.pointer (some ⟨p,0,none⟩)) from by
        have hpo:=put_old (f:={ f1 with by_:=f1.by_++s.data.toList.take (s.size) }) HT.out.ris HF1.out
        have hgp:g1≠p:=fun e=>HX.out.2.2.1 (by rw [e];exact HT.out.pb.1)
        refine ⟨HT.out.upd (f':={ f1 with by_:=f1.by_++s.data.toList.take (s.size) }) HF1.out rfl rfl ?_ ?_ (fun g _ q1 q2=>(setC_other q1).trans (H2.out.2.2.1 g (by rw [HCE.out.1];exact q2))) ?_ ?_ HT.out.fz,?_,(World.cell?_of_block (setC_other hgp)).trans e1⟩
        · rw [heap_setCell_same x2 p 1 (dskC b D1) _ _ H2.out.1]
          show some (Obj.cells #[_,Value.int .i64 ((D1.room - (s.size):Nat):Int),_,_] _ _)=some (Obj.cells #[_,Value.int .i64 ((D1.room - (s.data.toList.take (s.size)).length:Nat):Int),_,_] _ _)
          rw [htk]
          rfl
        · rw [← HCE.out.1];exact (setC_other HCE.out.2.1.2.1).trans H2.out.2.1
        · show f1.sy≤(f1.by_++s.data.toList.take (s.size)).length
          have:=HT.out.syn f1 (find_nm HF1.out).2
          rw [List.length_append];omega
        · show D1.room - (s.data.toList.take (s.size)).length+totF (putF _ D1.fs)≤4194304
          have h1:=hpo.1
          have h2:=HT.out.sum
          have h3:=HNN.out
          have h4:=HRM1.out
          have h5:=HD1.out
          simp only [List.length_append,htk] at h1
          rw [htk]
          omega
        · exact HTN.out.1.trans (H2.out.2.2.2.trans (setC_turns HT.out.pb.1)))
      clear e1 e2 e3 xr htk
      generalize x2.setCell ⟨p,1,none⟩ (.int .i64 ((D1.room - (s.size):Nat):Int))=x3 at *
      obtain ⟨-, -, f2, -⟩:=H3.out.1.cells
      have f2':x3.cell? ⟨p,2,none⟩=some (.int .i64 (-1)):=by rw [f2];show some (Value.int .i64 (fuseI D1.fuse))=_;rw [HFU.out];rfl
      have f1':=H3.out.2.2
      clear f2
      go_wp2
      go_ret
      refine ⟨0,rfl,?_⟩
      rw [HAP.out]
      unfold wrD
      rw [HFU.out]
      have hfull:s.data.toList.take s.size=s.data.toList:=List.take_of_length_le (Nat.le_of_eq HZ.out.2)
      have h3:=H3.out
      rw [hfull] at h3
      exact ⟨rfl,_,C1,L1,h3.1,h3.2.1.narrow HTN.out.2,HTN.out.2⟩
    | some k =>
      rw [hfu] at d4
      have d4':w4.cell? ⟨p,2,none⟩=some (.int .i64 (k:Int)):=d4
      have hkf:=HT.out.fz k hfu
      have HFU:=Lib.hid (And.intro hfu hkf)
      have hne:((k:Int) != -1)=true:=by rw [bne_iff_ne];omega
      clear d4 hfu hkf
      by_cases hks:k<s.size
      · have hkl:(k:Int)<(s.size:Int):=by omega
        have HNN:=Lib.hid (show k≤s.size by omega)
        have hap : ¬ 9223372036854775807<xb.size+k:=by have:=HXB.out;have:=HRM1.out;have:=HD1.out;omega
        have hks1:k≤s.size:=by omega
        have HKS:=Lib.hid hks
        clear hks
        go_upto_region 13 with fail
        clear d1 d2 d3 d4'
        refine (wpIn_wide (n:=1)).1 ?_
        refine RegK.wpIn_region_can (F:=Fence.wide) (KeptW w4) [(0,0),(1,0),(2,0),(3,0),(4,0),(5,0),(6,0),(7,0),(8,0),(9,0),(10,3)] (by kernel_rfl) (by kernel_rfl) (by kernel_rfl) (fun _ _ d _ _ h=>by cases d <;> exact h) ⟨rfl,rfl,rfl,Nat.le_refl _,fun _ _=>rfl⟩ ?_
        dsimp only [RegK.pick,List.getElem?_cons_zero,List.getElem?_cons_succ]
        change RegK.Can _ _ _ _ _ _ _ _ w4.drew
        have hkd:KeptW w4 w4.drew:=⟨rfl,rfl,rfl,Nat.le_refl _,fun _ _=>rfl⟩
        have HK0:=Lib.hid (show ∀ g:Nat,w4.drew.heap[g]?=w4.heap[g]? from fun _=>rfl)
        generalize w4.drew=x1 at *
        iterate 3 (refine RegK.can_reads ?_;intro K hK;go_simp;(first | refine ⟨_,fun _ _=>rfl,hK _ ?_⟩ | refine hK _ ?_);clear hK K)
        refine RegK.can_reads ?_
        intro K hK
        go_simp
        refine ⟨.string xb,fun y hy=>?_,hK _ ?_⟩
        · obtain ⟨d1,d2,d3,d4⟩:=HCY.out y (KeptW.bel hy)
          go_simp
        clear hK K
        refine RegK.can_reads ?_
        intro K hK
        go_simp
        refine ⟨.string s,fun y hy=>?_,hK _ ?_⟩
        · obtain ⟨d1,d2,d3,d4⟩:=HCY.out y (KeptW.bel hy)
          go_simp
        clear hK K
        iterate 5 (refine RegK.can_reads ?_;intro K hK;go_simp;(first | refine ⟨_,fun _ _=>rfl,hK _ ?_⟩ | refine hK _ ?_);clear hK K)
        have hk1:=KeptW.bel hkd
        have hp1:=(hk1.block c (Array.getElem?_eq_some_iff.1 HCE.out.2.2).1).trans HCE.out.2.2
        have s1:x1.cell? ⟨c,0,none⟩=some (.string xb):=(HCY.out x1 hk1).2.2.1
        have s2:=thaw0 0 hp1
        refine RegK.can_frees (fun _=>trivial) ?_
        intro K K0 hK hK0
        go_simp
        refine hK (fun _=>True) _ _ trivial ?_
        clear hK K hK0 K0
        refine RegK.can_nil ?_
        have hpx:=(HK0.out p).trans HT.out.d
        have hcx:=(HK0.out c).trans HCE.out.2.2
        have H2:=Lib.hid (show (x1.setCell ⟨c,0,none⟩ (.string (xb++s.extract 0 k))).heap[p]?=some (.cells (dskC b D1) 86 (0,0))∧(x1.setCell ⟨c,0,none⟩ (.string (xb++s.extract 0 k))).heap[c]?=some (.cells (filC { f1 with by_:=f1.by_++s.data.toList.take (k) }) 93 (0,0))∧(∀ g,g≠c→(x1.setCell ⟨c,0,none⟩ (.string (xb++s.extract 0 k))).heap[g]?=w4.heap[g]?)∧Turns L1 w4 (x1.setCell ⟨c,0,none⟩ (.string (xb++s.extract 0 k))) from by
          refine ⟨(setC_other HCE.out.2.1.2.1.symm).trans hpx,?_,fun g hg=>(setC_other hg).trans (HK0.out g),(Turns.of (KeptW.bel hkd)).trans (setC_turns HCE.out.2.1.1)⟩
          rw [heap_setCell_same x1 c 0 (filC f1) _ _ hcx]
          show some (Obj.cells #[Value.string (xb++s.extract 0 k),_] _ _)=some (Obj.cells #[Value.string _,_] _ _)
          rw [show xb++s.extract 0 k=⟨(f1.by_++s.data.toList.take (k)).toArray⟩ by
            apply ByteArray.ext
            apply Array.toList_inj.1
            rw [ByteArray.data_append,Array.toList_append,HXB.out.1]
            first
              | (simp [ByteArray.data_extract];done)
              | (simp;exact (List.take_of_length_le (Nat.le_of_eq HZ.out.2)).symm)])
        clear hpx hcx hkd HK0
        generalize x1.setCell ⟨c,0,none⟩ (.string (xb++s.extract 0 k))=x2 at *
        have e1:x2.cell? ⟨g1,0,none⟩=some (.pointer (some ⟨p,0,none⟩)):=cell_of_row _ _ _ _ _ _ ((H2.out.2.2.2.block g1 (Array.getElem?_eq_some_iff.1 HX.out.1).1 HX.out.2.2.1).trans HX.out.1)
        have e2:x2.cell? ⟨p,1,none⟩=some (.int .i64 (D1.room:Int)):=cell_of_row _ _ _ _ _ _ H2.out.1
        have e3:=thaw0 1 H2.out.1
        have xr:wrap64 ((D1.room:Int) - ((k:Nat):Int))=((D1.room - (k):Nat):Int):=by unfold wrap64;have:=HXB.out;have:=HRM1.out;have:=HD1.out;have:=HNN.out;omega
        go_upto_region 15 with fail
        have htk:(s.data.toList.take (k)).length=(k):=by rw [List.length_take,HZ.out.2];have:=HNN.out;omega
        have H3:=Lib.hid (show DskAt (x2.setCell ⟨p,1,none⟩ (.int .i64 ((D1.room - (k):Nat):Int))) p b n1 C1 L1 (D1.more f1 (s.data.toList.take (k)))∧Turns L1 w (x2.setCell ⟨p,1,none⟩ (.int .i64 ((D1.room - (k):Nat):Int)))∧(x2.setCell ⟨p,1,none⟩ (.int .i64 ((D1.room - (k):Nat):Int))).cell? ⟨g1,0,none⟩=some (.pointer (some ⟨p,0,none⟩)) from by
          have hpo:=put_old (f:={ f1 with by_:=f1.by_++s.data.toList.take (k) }) HT.out.ris HF1.out
          have hgp:g1≠p:=fun e=>HX.out.2.2.1 (by rw [e];exact HT.out.pb.1)
          refine ⟨HT.out.upd (f':={ f1 with by_:=f1.by_++s.data.toList.take (k) }) HF1.out rfl rfl ?_ ?_ (fun g _ q1 q2=>(setC_other q1).trans (H2.out.2.2.1 g (by rw [HCE.out.1];exact q2))) ?_ ?_ HT.out.fz,?_,(World.cell?_of_block (setC_other hgp)).trans e1⟩
          · rw [heap_setCell_same x2 p 1 (dskC b D1) _ _ H2.out.1]
            show some (Obj.cells #[_,Value.int .i64 ((D1.room - (k):Nat):Int),_,_] _ _)=some (Obj.cells #[_,Value.int .i64 ((D1.room - (s.data.toList.take (k)).length:Nat):Int),_,_] _ _)
            rw [htk]
            rfl
          · rw [← HCE.out.1];exact (setC_other HCE.out.2.1.2.1).trans H2.out.2.1
          · show f1.sy≤(f1.by_++s.data.toList.take (k)).length
            have:=HT.out.syn f1 (find_nm HF1.out).2
            rw [List.length_append];omega
          · show D1.room - (s.data.toList.take (k)).length+totF (putF _ D1.fs)≤4194304
            have h1:=hpo.1
            have h2:=HT.out.sum
            have h3:=HNN.out
            have h4:=HRM1.out
            have h5:=HD1.out
            simp only [List.length_append,htk] at h1
            rw [htk]
            omega
          · exact HTN.out.1.trans (H2.out.2.2.2.trans (setC_turns HT.out.pb.1)))
        clear e1 e2 e3 xr htk
        generalize x2.setCell ⟨p,1,none⟩ (.int .i64 ((D1.room - (k):Nat):Int))=x3 at *
        have f1':=H3.out.2.2
        have HOFF:=Lib.hid (off_any x3 H3.out.1)
        go_wp2_with (go_at_call 43;refine HOFF.out.mono ?_;rintro e x4 ⟨⟨vv,rfl⟩,q1,q2⟩;have H4:=Lib.hid (And.intro q1 q2);clear q1 q2)
        go_ret
        refine ⟨9,rfl,?_⟩
        rw [HAP.out]
        unfold wrD
        rw [HFU.out.1]
        simp only
        rw [if_pos (by rw [HZ.out.2];exact HKS.out)]
        exact ⟨rfl,_,C1,L1,H4.out.1,(H3.out.2.1.trans H4.out.2).narrow HTN.out.2,HTN.out.2⟩
      · have hkl : ¬ (k:Int)<(s.size:Int):=by omega
        have HNN:=Lib.hid (Nat.le_refl s.size)
        have hap : ¬ 9223372036854775807<xb.size+s.size:=by have:=HXB.out;have:=HRM1.out;have:=HD1.out;omega
        have HKS:=Lib.hid hks
        clear hks
        go_upto_region 13 with fail
        clear d1 d2 d3 d4'
        refine (wpIn_wide (n:=1)).1 ?_
        refine RegK.wpIn_region_can (F:=Fence.wide) (KeptW w4) [(0,0),(1,0),(2,0),(3,0),(4,0),(5,0),(6,0),(7,0),(8,0),(9,0),(10,3)] (by kernel_rfl) (by kernel_rfl) (by kernel_rfl) (fun _ _ d _ _ h=>by cases d <;> exact h) ⟨rfl,rfl,rfl,Nat.le_refl _,fun _ _=>rfl⟩ ?_
        dsimp only [RegK.pick,List.getElem?_cons_zero,List.getElem?_cons_succ]
        change RegK.Can _ _ _ _ _ _ _ _ w4.drew
        have hkd:KeptW w4 w4.drew:=⟨rfl,rfl,rfl,Nat.le_refl _,fun _ _=>rfl⟩
        have HK0:=Lib.hid (show ∀ g:Nat,w4.drew.heap[g]?=w4.heap[g]? from fun _=>rfl)
        generalize w4.drew=x1 at *
        iterate 3 (refine RegK.can_reads ?_;intro K hK;go_simp;(first | refine ⟨_,fun _ _=>rfl,hK _ ?_⟩ | refine hK _ ?_);clear hK K)
        refine RegK.can_reads ?_
        intro K hK
        go_simp
        refine ⟨.string xb,fun y hy=>?_,hK _ ?_⟩
        · obtain ⟨d1,d2,d3,d4⟩:=HCY.out y (KeptW.bel hy)
          go_simp
        clear hK K
        refine RegK.can_reads ?_
        intro K hK
        go_simp
        refine ⟨.string s,fun y hy=>?_,hK _ ?_⟩
        · obtain ⟨d1,d2,d3,d4⟩:=HCY.out y (KeptW.bel hy)
          go_simp
        clear hK K
        iterate 5 (refine RegK.can_reads ?_;intro K hK;go_simp;(first | refine ⟨_,fun _ _=>rfl,hK _ ?_⟩ | refine hK _ ?_);clear hK K)
        have hk1:=KeptW.bel hkd
        have hp1:=(hk1.block c (Array.getElem?_eq_some_iff.1 HCE.out.2.2).1).trans HCE.out.2.2
        have s1:x1.cell? ⟨c,0,none⟩=some (.string xb):=(HCY.out x1 hk1).2.2.1
        have s2:=thaw0 0 hp1
        refine RegK.can_frees (fun _=>trivial) ?_
        intro K K0 hK hK0
        go_simp
        refine hK (fun _=>True) _ _ trivial ?_
        clear hK K hK0 K0
        refine RegK.can_nil ?_
        have hpx:=(HK0.out p).trans HT.out.d
        have hcx:=(HK0.out c).trans HCE.out.2.2
        have H2:=Lib.hid (show (x1.setCell ⟨c,0,none⟩ (.string (xb++s))).heap[p]?=some (.cells (dskC b D1) 86 (0,0))∧(x1.setCell ⟨c,0,none⟩ (.string (xb++s))).heap[c]?=some (.cells (filC { f1 with by_:=f1.by_++s.data.toList.take (s.size) }) 93 (0,0))∧(∀ g,g≠c→(x1.setCell ⟨c,0,none⟩ (.string (xb++s))).heap[g]?=w4.heap[g]?)∧Turns L1 w4 (x1.setCell ⟨c,0,none⟩ (.string (xb++s))) from by
          refine ⟨(setC_other HCE.out.2.1.2.1.symm).trans hpx,?_,fun g hg=>(setC_other hg).trans (HK0.out g),(Turns.of (KeptW.bel hkd)).trans (setC_turns HCE.out.2.1.1)⟩
          rw [heap_setCell_same x1 c 0 (filC f1) _ _ hcx]
          show some (Obj.cells #[Value.string (xb++s),_] _ _)=some (Obj.cells #[Value.string _,_] _ _)
          rw [show xb++s=⟨(f1.by_++s.data.toList.take (s.size)).toArray⟩ by
            apply ByteArray.ext
            apply Array.toList_inj.1
            rw [ByteArray.data_append,Array.toList_append,HXB.out.1]
            first
              | (simp;done)
              | (simp;exact (List.take_of_length_le (Nat.le_of_eq HZ.out.2)).symm)])
        clear hpx hcx hkd HK0
        generalize x1.setCell ⟨c,0,none⟩ (.string (xb++s))=x2 at *
        have e1:x2.cell? ⟨g1,0,none⟩=some (.pointer (some ⟨p,0,none⟩)):=cell_of_row _ _ _ _ _ _ ((H2.out.2.2.2.block g1 (Array.getElem?_eq_some_iff.1 HX.out.1).1 HX.out.2.2.1).trans HX.out.1)
        have e2:x2.cell? ⟨p,1,none⟩=some (.int .i64 (D1.room:Int)):=cell_of_row _ _ _ _ _ _ H2.out.1
        have e3:=thaw0 1 H2.out.1
        have xr:wrap64 ((D1.room:Int) - ((s.size:Nat):Int))=((D1.room - (s.size):Nat):Int):=by unfold wrap64;have:=HXB.out;have:=HRM1.out;have:=HD1.out;have:=HNN.out;omega
        go_upto_region 15 with fail
        have htk:(s.data.toList.take (s.size)).length=(s.size):=by rw [List.length_take,HZ.out.2];have:=HNN.out;omega
        have H3:=Lib.hid (show DskAt (x2.setCell ⟨p,1,none⟩ (.int .i64 ((D1.room - (s.size):Nat):Int))) p b n1 C1 L1 (D1.more f1 (s.data.toList.take (s.size)))∧Turns L1 w (x2.setCell ⟨p,1,none⟩ (.int .i64 ((D1.room - (s.size):Nat):Int)))∧(x2.setCell ⟨p,1,none⟩ (.int .i64 ((D1.room - (s.size):Nat):Int))).cell? ⟨g1,0,none⟩=some (.pointer (some ⟨p,0,none⟩)) from by
          have hpo:=put_old (f:={ f1 with by_:=f1.by_++s.data.toList.take (s.size) }) HT.out.ris HF1.out
          have hgp:g1≠p:=fun e=>HX.out.2.2.1 (by rw [e];exact HT.out.pb.1)
          refine ⟨HT.out.upd (f':={ f1 with by_:=f1.by_++s.data.toList.take (s.size) }) HF1.out rfl rfl ?_ ?_ (fun g _ q1 q2=>(setC_other q1).trans (H2.out.2.2.1 g (by rw [HCE.out.1];exact q2))) ?_ ?_ HT.out.fz,?_,(World.cell?_of_block (setC_other hgp)).trans e1⟩
          · rw [heap_setCell_same x2 p 1 (dskC b D1) _ _ H2.out.1]
            show some (Obj.cells #[_,Value.int .i64 ((D1.room - (s.size):Nat):Int),_,_] _ _)=some (Obj.cells #[_,Value.int .i64 ((D1.room - (s.data.toList.take (s.size)).length:Nat):Int),_,_] _ _)
            rw [htk]
            rfl
          · rw [← HCE.out.1];exact (setC_other HCE.out.2.1.2.1).trans H2.out.2.1
          · show f1.sy≤(f1.by_++s.data.toList.take (s.size)).length
            have:=HT.out.syn f1 (find_nm HF1.out).2
            rw [List.length_append];omega
          · show D1.room - (s.data.toList.take (s.size)).length+totF (putF _ D1.fs)≤4194304
            have h1:=hpo.1
            have h2:=HT.out.sum
            have h3:=HNN.out
            have h4:=HRM1.out
            have h5:=HD1.out
            simp only [List.length_append,htk] at h1
            rw [htk]
            omega
          · exact HTN.out.1.trans (H2.out.2.2.2.trans (setC_turns HT.out.pb.1)))
        clear e1 e2 e3 xr htk
        generalize x2.setCell ⟨p,1,none⟩ (.int .i64 ((D1.room - (s.size):Nat):Int))=x3 at *
        obtain ⟨-, -, f2, -⟩:=H3.out.1.cells
        have f2':x3.cell? ⟨p,2,none⟩=some (.int .i64 (k:Int)):=by rw [f2];show some (Value.int .i64 (fuseI D1.fuse))=_;rw [HFU.out.1];rfl
        have f1':=H3.out.2.2
        have f3:=thaw0 2 H3.out.1.d
        have xk:wrap64 ((k:Int) - (s.size:Int))=((k - s.size:Nat):Int):=by unfold wrap64;have:=HKS.out;have:=HFU.out.2;omega
        clear f2
        go_wp2
        go_ret
        refine ⟨0,rfl,?_⟩
        rw [HAP.out]
        unfold wrD
        rw [HFU.out.1]
        have hfull:s.data.toList.take s.size=s.data.toList:=List.take_of_length_le (Nat.le_of_eq HZ.out.2)
        have h3:=H3.out
        rw [hfull] at h3
        simp only
        rw [if_neg (by rw [HZ.out.2];exact HKS.out)]
        refine ⟨rfl,_,C1,L1,h3.1.head rfl ?_ (fun g _ q1=>setC_other q1) h3.1.sum (fun j hj=>by cases hj;have:=HFU.out.2;omega),?_,HTN.out.2⟩
        · rw [heap_setCell_same x3 p 2 (dskC b (D1.more f1 s.data.toList)) _ _ h3.1.d]
          show some (Obj.cells #[_,_,Value.int .i64 ((k - s.size:Nat):Int),_] _ _)=some (Obj.cells #[_,_,Value.int .i64 ((k - s.data.toList.length:Nat):Int),_] _ _)
          rw [HZ.out.2]
          try rfl
        · exact (h3.2.1.trans (setC_turns HT.out.pb.1)).narrow HTN.out.2
end Go.Proofs.YticjodhkmidljaaGreatDoor
