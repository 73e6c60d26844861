/- Disk: with. Condition: as each theorem says. -/
import Derived.Shelf.Abstract
import Derived.Test.YticjodhkmidljaaGreatDoorZKeepNil4
import Derived.Test.YticjodhkmidljaaGreatDoorZKeepNil3
import Derived.Test.YticjodhkmidljaaGreatDoorZKeepNil0
import Derived.IntWalk
import Derived.Test.YticjodhkmidljaaGreatDoorZKeepNil2
import Derived.Lib.Walk
import Derived.BigGuard
namespace Go.Proofs.YticjodhkmidljaaGreatDoor
open Go.RowKit
open Go.Maps (Keyed)
open Go.ChangeMaps Go.MapKept
theorem key_st {s:ByteArray} (h:s.size≤maxLen):keyOf Tryz.prog 9 (.string s)=some (.string s.data.toList):=Go.WideMaps.keyOf_string_mk Tryz.underlying9 h
theorem zero_ptr (w:World):(zeroValue 91).run Tryz.prog w=.ok (.pointer none) w:=by kernel_rfl
theorem MpS.below {P:Program} {k:TypeId} {w w':World} {b n s:Nat} {M:Lit→Option Value} (h:MpS P k w b n s M) (hb:Below w.heap.size w w'):MpS P k w' b n s M:=h.stay (hb.block b h.lt)
theorem DskAt.below {w w':World} {p b n:Nat} {C:Bs→Nat} {L:List Nat} {D:DskV} (h:DskAt w p b n C L D) (hb:Below w.heap.size w w'):DskAt w' p b n C L D :=
  ⟨(hb.block p h.lt).trans h.d,h.m.below hb,fun f hf=>(hb.block _ (Array.getElem?_eq_some_iff.1 (h.c f hf)).1).trans (h.c f hf),h.inj,h.pb,h.cl,h.ris,h.syn,h.sum,h.fz⟩
set_option maxRecDepth 100000 in
set_option maxHeartbeats 4000000 in
theorem with1_any {p b n:Nat} {C:Bs→Nat} {L:List Nat} {D:DskV} (nm:ByteArray) (hn:nm.size≤maxLen) (f:FuncId) (hE:∀ (xs:Array Value) (y:World),(callFunc f xs).run Tryz.prog y=.ok (.enter f xs) y) (cap:Array Value) (g1 g2 g3:Nat) (w:World) (h:DskAt w p b n C L D)
    (h1:w.cell? ⟨g1,0,none⟩=some (.pointer (some ⟨p,0,none⟩))) (h2:w.cell? ⟨g2,0,none⟩=some (.string nm)) (h3:w.cell? ⟨g3,0,none⟩=some (.func (.func f) #[] cap)) (hg:g1<w.heap.size∧g2<w.heap.size∧g3<w.heap.size) {R:Int→World→Prop}
    (hno:findF nm.data.toList D.fs=none→∀ y,Below w.heap.size w y→R 11 y)
    (hf:∀ fl,findF nm.data.toList D.fs=some fl→∀ y,Below w.heap.size w y→Calls Tryz.prog f (#[.pointer (some ⟨C fl.nm,0,none⟩)]++cap) y fun e w'=>∃ k,e=.returned (.int .i64 k)∧R k w') :
    Calls Tryz.prog 108 #[.pointer (some ⟨g1,0,none⟩),.pointer (some ⟨g2,0,none⟩),.pointer (some ⟨g3,0,none⟩)] w fun e w'=>∃ k,e=.returned (.int .i64 k)∧R k w':=by
  have H:=Lib.hid h
  have HNo:=Lib.hid hno
  have HF:=Lib.hid hf
  have HC:=Lib.hid (fun (y:World) (hy:Below w.heap.size w y)=>(show y.cell? ⟨g1,0,none⟩=some (.pointer (some ⟨p,0,none⟩))∧y.cell? ⟨g2,0,none⟩=some (.string nm)∧y.cell? ⟨g3,0,none⟩=some (.func (.func f) #[] cap)∧y.cell? ⟨p,0,none⟩=some (.map (some b)) from
    ⟨(World.cell?_of_block (hy.block _ hg.1)).trans h1,(World.cell?_of_block (hy.block _ hg.2.1)).trans h2,(World.cell?_of_block (hy.block _ hg.2.2)).trans h3,(World.cell?_of_block (hy.block _ h.lt)).trans h.cells.1⟩))
  have HL:=Lib.hid (fun (y:World) (hy:Below w.heap.size w y)=>(h.m.below hy).at_.look_ok (t:=84) (key:=.string nm) (kl:=.string nm.data.toList) lawSt Tryz.underlying84 (zero_ptr y) (key_st hn))
  clear h h1 h2 h3 hg hno hf
  go_enter Tryz.func108,Tryz.ntmps108
  go_upto_region 1 with fail
  refine (wpIn_wide (n:=1)).1 ?_
  refine RegJ.wpIn_region_plan (F:=Fence.wide) (KeptW w) (.step 0 0 (.step 1 0 (.step 2 0 (.step 3 0 (.step 4 0 (.step 5 0 (.step 6 0 (.step 7 0 (.step 8 0 (.step 9 0 (.step 10 0 .nil))))))))))) (by kernel_rfl) (by kernel_rfl) (by kernel_rfl) (fun _ _ d _ _ h=>by cases d <;> exact h) ⟨rfl,rfl,rfl,Nat.le_refl _,fun _ _=>rfl⟩ ?_
  dsimp only [RegJ.pickJ,List.getElem?_cons_zero,List.getElem?_cons_succ]
  change RegJ.Can _ _ _ _ _ _ _ _ w.drew
  have hkd:KeptW w w.drew:=⟨rfl,rfl,rfl,Nat.le_refl _,fun _ _=>rfl⟩
  generalize w.drew=v1 at *
  refine RegJ.reads ?_
  intro K hK
  go_simp
  refine ⟨.pointer (some ⟨p,0,none⟩),fun y hy=>?_,hK _ ?_⟩
  · obtain ⟨c1,c2,c3,c4⟩:=HC.out y (KeptW.bel hy)
    go_simp
  clear hK K
  iterate 2 (refine RegJ.reads ?_;intro K hK;go_simp;(first | refine ⟨_,fun _ _=>rfl,hK _ ?_⟩ | refine hK _ ?_);clear hK K)
  refine RegJ.reads ?_
  intro K hK
  go_simp
  refine ⟨.map (some b),fun y hy=>?_,hK _ ?_⟩
  · obtain ⟨c1,c2,c3,c4⟩:=HC.out y (KeptW.bel hy)
    go_simp
  clear hK K
  refine RegJ.reads ?_
  intro K hK
  go_simp
  refine ⟨.string nm,fun y hy=>?_,hK _ ?_⟩
  · obtain ⟨c1,c2,c3,c4⟩:=HC.out y (KeptW.bel hy)
    go_simp
  clear hK K
  refine RegJ.reads ?_
  intro K hK
  go_simp
  refine ⟨.tuple #[((dirM C D.fs) (.string nm.data.toList)).getD (.pointer none),.bool ((dirM C D.fs) (.string nm.data.toList)).isSome],fun y hy=>?_,hK _ ?_⟩
  · have hl:=HL.out y (KeptW.bel hy)
    go_simp
  clear hK K
  iterate 5 (refine RegJ.reads ?_;intro K hK;go_simp;(first | refine ⟨_,fun _ _=>rfl,hK _ ?_⟩ | refine hK _ ?_);clear hK K)
  refine RegJ.nil ?_
  have Hvk:=Lib.hid (KeptW.bel hkd)
  clear hkd
  have hdir:dirM C D.fs (Lit.string nm.data.toList)=(findF nm.data.toList D.fs).map (fun f=>.pointer (some ⟨C f.nm,0,none⟩)):=rfl
  rw [hdir]
  clear hdir
  cases hfd:findF nm.data.toList D.fs with
  | none =>
    have HN:=Lib.hid (HNo.out hfd v1 Hvk.out)
    clear hfd
    simp only [Option.map_none,Option.getD_none,Option.isSome_none]
    go_wp2
    go_ret
    exact ⟨11,rfl,HN.out⟩
  | some fl =>
    obtain ⟨d1,d2,d3,d4⟩:=HC.out v1 Hvk.out
    have HFF:=Lib.hid (HF.out fl hfd v1 Hvk.out)
    clear hfd
    simp only [Option.map_some,Option.getD_some,Option.isSome_some]
    go_upto_region 4 with fail
    go_wp2_with fail
    refine HFF.out.mono ?_
    rintro e w' ⟨k,rfl,hr⟩
    have HR:=Lib.hid hr
    clear hr
    go_wp2
    go_ret
    exact ⟨k,rfl,HR.out⟩
set_option maxRecDepth 100000 in
set_option maxHeartbeats 4000000 in
theorem with_any {p b n:Nat} {C:Bs→Nat} {L:List Nat} {D:DskV} (nm:ByteArray) (hn:nm.size≤maxLen) (f:FuncId) (hE:∀ (xs:Array Value) (y:World),(callFunc f xs).run Tryz.prog y=.ok (.enter f xs) y) (cap:Array Value) (w:World) (h:DskAt w p b n C L D) {R:Int→World→Prop}
    (hdead:D.dead=true→∀ y,Below w.heap.size w y→R 8 y) (hno:D.dead=false→findF nm.data.toList D.fs=none→∀ y,Below w.heap.size w y→R 11 y)
    (hf:D.dead=false→∀ fl,findF nm.data.toList D.fs=some fl→∀ y,Below w.heap.size w y→Calls Tryz.prog f (#[.pointer (some ⟨C fl.nm,0,none⟩)]++cap) y fun e w'=>∃ k,e=.returned (.int .i64 k)∧R k w') :
    Calls Tryz.prog 81 #[.pointer (some ⟨p,0,none⟩),.string nm,.func (.func f) #[] cap] w fun e w'=>∃ k,e=.returned (.int .i64 k)∧R k w':=by
  have H:=Lib.hid h
  have HDD:=Lib.hid hdead
  have HNo:=Lib.hid hno
  have HF:=Lib.hid hf
  clear h hdead hno hf
  go_enter Tryz.func81,Tryz.ntmps81
  go_upto_region 1 with fail
  have hb3:=(((Below.refl _ w).alloc (Nat.le_refl _) (.cells #[.pointer (some ⟨p,0,none⟩)] 46)).alloc (by simp) (.cells #[.string nm] 9)).alloc (by simp;omega) (.cells #[.func (.func f) #[] cap] 144)
  have q3:(((w.alloc (.cells #[.pointer (some ⟨p,0,none⟩)] 46)).alloc (.cells #[.string nm] 9)).alloc (.cells #[.func (.func f) #[] cap] 144)).heap[w.heap.size+1+1]?=some (.cells #[.func (.func f) #[] cap] 144 (0,0)):=by
    have h:=heap_alloc_new ((w.alloc (.cells #[.pointer (some ⟨p,0,none⟩)] 46)).alloc (.cells #[.string nm] 9)) (.cells #[.func (.func f) #[] cap] 144)
    simpa using h
  have q2:(((w.alloc (.cells #[.pointer (some ⟨p,0,none⟩)] 46)).alloc (.cells #[.string nm] 9)).alloc (.cells #[.func (.func f) #[] cap] 144)).heap[w.heap.size+1]?=some (.cells #[.string nm] 9 (0,0)):=by
    rw [heap_alloc_old _ _ (by simp)]
    have h:=heap_alloc_new (w.alloc (.cells #[.pointer (some ⟨p,0,none⟩)] 46)) (.cells #[.string nm] 9)
    simpa using h
  have q1:(((w.alloc (.cells #[.pointer (some ⟨p,0,none⟩)] 46)).alloc (.cells #[.string nm] 9)).alloc (.cells #[.func (.func f) #[] cap] 144)).heap[w.heap.size]?=some (.cells #[.pointer (some ⟨p,0,none⟩)] 46 (0,0)):=by
    rw [heap_alloc_old _ _ (by simp;omega),heap_alloc_old _ _ (by simp)]
    exact heap_alloc_new _ _
  have hz:(((w.alloc (.cells #[.pointer (some ⟨p,0,none⟩)] 46)).alloc (.cells #[.string nm] 9)).alloc (.cells #[.func (.func f) #[] cap] 144)).heap.size=w.heap.size+1+1+1:=by simp
  generalize ((w.alloc (.cells #[.pointer (some ⟨p,0,none⟩)] 46)).alloc (.cells #[.string nm] 9)).alloc (.cells #[.func (.func f) #[] cap] 144)=w3 at *
  have c1:=cell_of_row w3 w.heap.size 0 _ _ _ q1
  have c2:=cell_of_row w3 (w.heap.size+1) 0 _ _ _ q2
  have c3:=cell_of_row w3 (w.heap.size+1+1) 0 _ _ _ q3
  have HB:=Lib.hid hb3
  have H3:=Lib.hid (H.out.below hb3)
  have HW1:=Lib.hid (fun (hd:D.dead=false)=>with1_any nm hn f hE cap w.heap.size (w.heap.size+1) (w.heap.size+1+1) w3 H3.out c1 c2 c3 (by omega) (R:=R) (fun h y hy=>HNo.out hd h y (HB.out.trans (hy.mono HB.out.size))) (fun fl h y hy=>HF.out hd fl h y (HB.out.trans (hy.mono HB.out.size))))
  clear hb3 q1 q2 q3 hz c2 c3
  cases hd:D.dead with
  | true =>
    have HP:=Lib.hid (powered_dead w3 H3.out hd 108 #[.pointer (some ⟨w.heap.size,0,none⟩),.pointer (some ⟨w.heap.size+1,0,none⟩),.pointer (some ⟨w.heap.size+1+1,0,none⟩)])
    have HR:=Lib.hid (HDD.out hd w3 HB.out)
    clear hd
    go_wp2_with (go_at_call 38;refine HP.out.mono ?_;rintro e w' ⟨rfl,rfl⟩)
    go_ret
    exact ⟨8,rfl,HR.out⟩
  | false =>
    have HP:=Lib.hid (powered_any w3 H3.out hd 108 (enters_of Tryz.func108 (by kernel_rfl) rfl) #[.pointer (some ⟨w.heap.size,0,none⟩),.pointer (some ⟨w.heap.size+1,0,none⟩),.pointer (some ⟨w.heap.size+1+1,0,none⟩)] (R:=R) (HW1.out hd))
    clear hd
    go_wp2_with (go_at_call 38;refine HP.out.mono ?_;rintro e w' ⟨k,rfl,hr⟩;have HR:=Lib.hid hr;clear hr)
    go_ret
    exact ⟨k,rfl,HR.out⟩
end Go.Proofs.YticjodhkmidljaaGreatDoor
namespace Go.Proofs.YticjodhkmidljaaGreatDoor
open Go.RowKit
open Go.Maps (Keyed)
open Go.ChangeMaps Go.MapKept
theorem rise_uniq:∀ {l:List FilV},Rise l→∀ {f g:FilV},f ∈ l→g ∈ l→f.nm=g.nm→f=g
  | x::r,h,f,g,hf,hg,e=>by
    obtain ⟨h1,h2⟩:=List.pairwise_cons.1 h
    rcases List.mem_cons.1 hf with rfl | hf2 <;> rcases List.mem_cons.1 hg with rfl | hg2
    · rfl
    · have:=h1 g hg2
      rw [e] at this
      exact (List.lt_irrefl _ this).elim
    · have:=h1 f hf2
      rw [← e] at this
      exact (List.lt_irrefl _ this).elim
    · exact rise_uniq h2 hf2 hg2 e
theorem find_of {l:List FilV} (h:Rise l) {f:FilV} (hf:f ∈ l):findF f.nm l=some f:=by
  cases hq:findF f.nm l with
  | none =>
    unfold findF at hq
    rw [List.find?_eq_none] at hq
    have:=hq f hf
    simp at this
  | some g =>
    obtain ⟨h1,h2⟩:=find_nm hq
    rw [rise_uniq h h2 hf h1]
theorem DskAt.upd {w w':World} {p b n:Nat} {C:Bs→Nat} {L:List Nat} {D D':DskV} (h:DskAt w p b n C L D) {f f':FilV} (hf:findF f.nm D.fs=some f) (hn:f'.nm=f.nm) (hD:D'.fs=putF f' D.fs)
    (hp:w'.heap[p]?=some (.cells (dskC b D') 86 (0,0))) (hw:w'.heap[C f.nm]?=some (.cells (filC f') 93 (0,0)))
    (ho:∀ g ∈ L,g≠p→g≠C f.nm→w'.heap[g]?=w.heap[g]?) (hsy:f'.sy≤f'.by_.length) (hsum:D'.room+totF D'.fs≤4194304) (hfz:∀ k,D'.fuse=some k→k≤9223372036854775807):DskAt w' p b n C L D':=by
  have hf':findF f'.nm D.fs=some f:=by rw [hn];exact hf
  have hfm:=(find_nm hf).2
  have hr:Rise D'.fs:=by rw [hD];exact put_rise h.ris
  have hcase:∀ g ∈ D'.fs,g=f'∨(g ∈ D.fs∧g.nm≠f.nm):=fun g hg=>by
    by_cases e:g.nm=f.nm
    · refine .inl (rise_uniq hr hg ?_ (by rw [e,hn]))
      rw [hD]
      exact (find_nm (put_find (f:=f') (l:=D.fs))).2
    · rw [hD] at hg
      rcases put_mem hg with q | q
      · exact (e (by rw [q,hn])).elim
      · exact .inr ⟨q,e⟩
  have hC:C f'.nm=C f.nm:=by rw [hn]
  refine ⟨hp,?_,fun g hg=>?_,fun g hg q hq e=>?_,h.pb,fun g hg=>?_,hr,fun g hg=>?_,hsum,hfz⟩
  · refine (h.m.stay (ho b h.pb.2.1 h.pb.2.2.symm (h.cl f hfm).2.2.symm)).congr (fun l _=>?_) (by rw [hD];exact (put_old h.ris hf').2.symm)
    cases l with
    | string q =>
      show (findF q D.fs).map _=(findF q D'.fs).map _
      rw [hD]
      by_cases e:q=f'.nm
      · rw [e,hf',put_find]
        simp [hn]
      · rw [put_other e]
    | _=>rfl
  · rcases hcase g hg with rfl | ⟨q,e⟩
    · rw [hC];exact hw
    · obtain ⟨r1,r2,r3⟩:=h.cl g q
      rw [ho _ r1 r2 (fun e2=>e (h.inj g q f hfm e2))]
      exact h.c g q
  · rcases hcase g hg with rfl | ⟨q1,e1⟩ <;> rcases hcase q hq with rfl | ⟨q2,e2⟩
    · rfl
    · rw [hC] at e
      rw [hn]
      exact h.inj f hfm q q2 e
    · rw [hC] at e
      rw [hn]
      exact h.inj g q1 f hfm e
    · exact h.inj g q1 q q2 e
  · rcases hcase g hg with rfl | ⟨q,_⟩
    · rw [hC];exact h.cl f hfm
    · exact h.cl g q
  · rcases hcase g hg with rfl | ⟨q,_⟩
    · exact hsy
    · exact h.syn g q
/-- What an act on a disk tells. -/
def DkR (p b:Nat) (L:List Nat) (R:DskV × Nat) (w:World) (k:Int) (w':World):Prop:=k=(R.2:Int)∧∃ n C L',DskAt w' p b n C L' R.1∧Turns L w w'∧∀ g ∈ L',g ∈ L∨w.heap.size≤g
theorem DkR.same {p b n:Nat} {C:Bs→Nat} {L:List Nat} {D:DskV} {w w':World} (h:DskAt w p b n C L D) (hb:Below w.heap.size w w') (k:Nat):DkR p b L (D,k) w (k:Int) w':=⟨rfl,n,C,L,h.below hb,Turns.of hb,fun _ hg=>.inl hg⟩
theorem setC_other {y:World} {g i:Nat} {v:Value} {q:Nat} (h:q≠g):(y.setCell ⟨g,i,none⟩ v).heap[q]?=y.heap[q]?:=Below.heap_setCell _ _ _ _ h
theorem setC_turns {y:World} {g i:Nat} {v:Value} {L:List Nat} (h:g ∈ L):Turns L y (y.setCell ⟨g,i,none⟩ v):=⟨rfl,rfl,rfl,by simp,fun q _ hn=>setC_other (fun e=>hn (by rw [e];exact h))⟩
set_option maxRecDepth 100000 in
theorem sync1_any {p b n:Nat} {C:Bs→Nat} {L:List Nat} {D:DskV} (f:FilV) (hf:findF f.nm D.fs=some f) (w:World) (h:DskAt w p b n C L D) :
    Calls Tryz.prog 93 #[.pointer (some ⟨C f.nm,0,none⟩)] w fun e w'=>e=.returned (.int .i64 0)∧DskAt w' p b n C L { D with fs:=putF { f with sy:=f.by_.length } D.fs }∧Turns L w w':=by
  have hfm:=(find_nm hf).2
  have hc:=h.c f hfm
  have c0:w.cell? ⟨C f.nm,0,none⟩=some (.string ⟨f.by_.toArray⟩):=cell_of_row _ _ _ _ _ _ hc
  have c1:w.cell? ⟨C f.nm,1,none⟩=some (.int .i64 (f.sy:Int)):=cell_of_row _ _ _ _ _ _ hc
  have hth:=thaw0 1 hc
  have hz:(⟨f.by_.toArray⟩:ByteArray).size=f.by_.length:=by simp [ByteArray.size]
  obtain ⟨c,hcc⟩:∃ c,c=C f.nm:=⟨_,rfl⟩
  rw [← hcc] at c0 c1 hth hc ⊢
  have H:=Lib.hid (And.intro h (And.intro hf (And.intro hfm (And.intro hc hcc))))
  clear h hf hfm hc hcc
  go_enter Tryz.func93,Tryz.ntmps93
  go_wp2
  go_ret
  obtain ⟨h,hf,hfm,hc,rfl⟩:=H.out
  have hcl:=h.cl f hfm
  refine ⟨rfl,h.upd (f':={ f with sy:=f.by_.length }) hf rfl rfl ?_ ?_ (fun g _ _ hg=>setC_other hg) (Nat.le_refl _) ?_ h.fz,setC_turns hcl.1⟩
  · rw [setC_other hcl.2.1.symm];exact h.d
  · exact heap_setCell_same w _ 1 #[.string ⟨f.by_.toArray⟩,.int .i64 (f.sy:Int)] _ _ hc
  · have:=put_old (f:={ f with sy:=f.by_.length }) h.ris hf
    have hs:=h.sum
    have e:=this.1
    show D.room+totF (putF { f with sy:=f.by_.length } D.fs)≤_
    simp only at e
    omega
end Go.Proofs.YticjodhkmidljaaGreatDoor
namespace Go.Proofs.YticjodhkmidljaaGreatDoor
open Go.RowKit Go.Shelf
def hexC1 (d:Nat):UInt8:=if d<10 then UInt8.ofNat (48+d) else UInt8.ofNat (87+d)
/-- The last k digits of a number at base 16. -/
def hexW:Nat→Nat→Bs
  | 0,_=>[]
  | k+1,n=>hexW k (n / 16)++[hexC1 (n % 16)]
theorem hexW_len:∀ k n,(hexW k n).length=k
  | 0,_=>rfl
  | k+1,n=>by rw [hexW,List.length_append,hexW_len];rfl
theorem hexW_cons:∀ k n,hexW (k+1) n=hexC1 (n / 16 ^ k % 16)::hexW k n
  | 0,n=>by simp [hexW]
  | k+1,n=>by
    rw [hexW,hexW_cons k,hexW,Nat.div_div_eq_div_mul,Nat.pow_succ,Nat.mul_comm 16,List.cons_append]
theorem hexW_pad:∀ j k n,n<16 ^ k→hexW (k+j) n=List.replicate j 48++hexW k n
  | 0,_,_,_=>by simp
  | j+1,k,n,h=>by
    have h1:n<16 ^ (k+j):=Nat.lt_of_lt_of_le h (Nat.pow_le_pow_right (by decide) (by omega))
    rw [show k+(j+1)=(k+j)+1 by omega,hexW_cons,Nat.div_eq_of_lt h1,hexW_pad j k n h,List.replicate_succ]
    rfl
set_option maxRecDepth 100000 in
theorem tz64_any (w:World) (hv:PV w):Calls Tryz.prog 187 #[.int .u64 16] w fun e w'=>e=.returned (.int .i64 4)∧w=w':=by
  have hc:=hv.tz 15 (by decide)
  rw [show ((Lib.deBruijn64tab.getD 15 0:Nat):Int)=4 from by decide] at hc
  have k1:IntKind.u64.wrap (bits .and .u64 (16:Int) (IntKind.u64.wrap (-16))*285870213051353865) / 288230376151711744=15:=by decide
  go_enter Tryz.func187,Tryz.ntmps187
  go_wp2
  go_ret
  exact ⟨rfl,rfl⟩
set_option maxRecDepth 100000 in
theorem tz_any (w:World) (hv:PV w):Calls Tryz.prog 176 #[.int .u64 16] w fun e w'=>e=.returned (.int .i64 4)∧w=w':=by
  have H:=Lib.hid (tz64_any w hv)
  clear hv
  go_enter Tryz.func176,Tryz.ntmps176
  go_wp2_with (go_at_call 187;refine H.out.mono ?_;rintro e w' ⟨rfl,rfl⟩)
  go_ret
  exact ⟨rfl,rfl⟩
set_option maxRecDepth 100000 in
theorem p2_any (w:World):Calls Tryz.prog 175 #[.int .i64 16] w fun e w'=>e=.returned (.bool true)∧w=w':=by
  have k1:bits .and .i64 (16:Int) 15=0:=by decide
  go_enter Tryz.func175,Tryz.ntmps175
  go_wp2
  go_ret
  exact ⟨rfl,rfl⟩
/-- The low digits of a number stand at the end of 65 bytes. -/
structure HexAt (w:World) (g u k:Nat):Prop where
  row:∃ cs:Array Value,w.heap[g]?=some (.cells cs 238 (0,0))∧cs.size=65∧cs.toList.drop (65 - k)=bcells (hexW k u)
theorem hexAt_put {w:World} {g u k i:Nat} {cs:Array Value} {b:UInt8} (hr:w.heap[g]?=some (.cells cs 238 (0,0))) (hcs:cs.size=65) (hd:cs.toList.drop (65 - k)=bcells (hexW k u)) (hi:i=64 - k) (hk:k≤64) (hb:b=hexC1 (u / 16 ^ k % 16)) :
    HexAt (w.setCell ⟨g,i,none⟩ (.int .u8 (b.toNat:Int))) g u (k+1):=by
  refine ⟨⟨_,heap_setCell_same w g i cs _ _ hr,by simpa using hcs,?_⟩⟩
  have e:65 - (k+1)=i:=by omega
  have e2:65 - k=i+1:=by omega
  have hil:i<cs.toList.length:=by rw [Array.length_toList];omega
  rw [e,Array.toList_setIfInBounds,hexW_cons, ← hb]
  rw [List.drop_eq_getElem_cons (by simpa using hil),List.getElem_set_self,List.drop_set_of_lt (by omega), ← e2,hd]
  rfl
theorem hexB_all:∀ d:Fin 16,(⟨#[48,49,50,51,52,53,54,55,56,57,97,98,99,100,101,102,103,104,105,106,107,108,109,110,111,112,113,114,115,116,117,118,119,120,121,122]⟩:ByteArray)[d.val]'(Nat.lt_trans d.isLt (by decide))=hexC1 d.val:=by decide +kernel
theorem hexB_get (d:Nat) (hd:d<16):(⟨#[48,49,50,51,52,53,54,55,56,57,97,98,99,100,101,102,103,104,105,106,107,108,109,110,111,112,113,114,115,116,117,118,119,120,121,122]⟩:ByteArray)[d]'(Nat.lt_trans hd (by decide))=hexC1 d:=hexB_all ⟨d,hd⟩
theorem and15 (v:Nat) (hv:v<18446744073709551616):bits .and .u64 (v:Int) 15=((v % 16:Nat):Int):=by
  have h:=bits_and_u64_nat v 15 hv (by decide)
  rw [show v &&& 15=v % 16 from Nat.and_two_pow_sub_one_eq_mod v 4] at h
  exact h
set_option maxRecDepth 100000 in
set_option maxHeartbeats 8000000 in
theorem fbits_any (u:Nat) (hu:u<18446744073709551616) (w:World) (hv:PV w) :
    Calls Tryz.prog 146 #[.slice none 0 0,.int .u64 (u:Int),.int .i64 16,.bool false,.bool false] w fun e w'=>∃ m,1≤m∧m≤16∧u<16 ^ m∧e=.returned (.tuple #[.slice none 0 0,.string ⟨(hexW m u).toArray⟩])∧Below w.heap.size w w':=by
  have Hp:=Lib.hid (fun y=>p2_any y)
  have Ht:=Lib.hid (fun (y:World) (hy:Below w.heap.size w y)=>tz_any y (hv.below hy))
  have HB:=Lib.hid (fun (o:Obj)=>(Below.refl w.heap.size w).alloc (Nat.le_refl _) o)
  clear hv
  go_enter Tryz.func146,Tryz.ntmps146
  go_wp2_with (first
    | (go_at_call 175;refine (Hp.out _).mono ?_;rintro e w' ⟨rfl,rfl⟩)
    | (go_at_call 176;refine (Ht.out _ (HB.out _)).mono ?_;rintro e w' ⟨rfl,rfl⟩))
  have hz0:HexAt (w.alloc (.cells Tryz.zeroCells238 238)) w.heap.size u 0:=⟨⟨_,heap_alloc_new _ _,by kernel_rfl,by
    rw [show (Tryz.zeroCells238).toList.drop (65 - 0)=[] by kernel_rfl]
    rfl⟩⟩
  have HZ0:=Lib.hid (And.intro hz0 (HB.out (.cells Tryz.zeroCells238 238)))
  clear hz0
  generalize w.alloc (.cells Tryz.zeroCells238 238)=w1 at *
  generalize hg:w.heap.size=g at *
  go_loopw [1,13] (fun s1 s13 wr=>∃ k:Nat,k≤15∧s1=.int .u64 ((u / 16 ^ k:Nat):Int)∧s13=.int .i64 ((65 - k:Nat):Int)∧HexAt wr g u k∧Below g w wr) (fun s1 _ _=>(intOf s1).toNat)
  case atStart=>exact ⟨0,by omega,by simp,rfl,HZ0.out.1,HZ0.out.2⟩
  case round =>
    obtain ⟨k,hk,rfl,rfl,hh,hb⟩:=hrel
    obtain ⟨v,hv⟩:∃ v,v=u / 16 ^ k:=⟨_,rfl⟩
    rw [← hv]
    have hvl:v<18446744073709551616:=by rw [hv];exact Nat.lt_of_le_of_lt (Nat.div_le_self _ _) hu
    obtain ⟨i,hi⟩:∃ i,i=64 - k:=⟨_,rfl⟩
    have e0:(65 - k:Nat)=i+1:=by omega
    have e1:wrap64 (((i+1:Nat):Int) - 1)=(i:Int):=by unfold wrap64;omega
    have hil:(i:Int)<65:=by omega
    have hin:i<65:=by omega
    obtain ⟨cs,hrow,hcs,hdr⟩:=hh.row
    have ht:=thaw0 i hrow
    have hcell:=cell_of_row wr g i _ _ _ hrow
    rw [Array.getElem?_eq_getElem (show i<cs.size by omega)] at hcell
    generalize cs[i]'(show i<cs.size by omega)=old at hcell
    have HH:=Lib.hid (And.intro hrow (And.intro hcs (And.intro hdr hb)))
    rw [e0]
    by_cases h16:16≤v
    · have h16':(16:Int)≤(v:Int):=by omega
      have e2:=and15 v hvl
      obtain ⟨d,hd⟩:∃ d,d=v % 16:=⟨_,rfl⟩
      rw [← hd] at e2
      have hd16:d<16:=by omega
      have hdi:(d:Int)<36:=by omega
      have hget:=hexB_get d hd16
      have HD:=Lib.hid (And.intro hv (And.intro hi (And.intro e0 (And.intro hd h16))))
      clear hrow hcs hdr hb hh hv hi hd h16 e0
      go_wp2
      have hD:=HD.out
      have hH:=HH.out
      have hk15:k+1≤15:=by
        rcases Nat.lt_or_ge k 15 with h | h
        · omega
        · have hk15:k=15:=by omega
          have h1:=hD.1
          rw [hk15] at h1
          have:u / 16 ^ 15<16:=Nat.div_lt_of_lt_mul (by simpa using hu)
          omega
      refine ⟨⟨k+1,hk15,?_,?_,?_,hH.2.2.2.setCell (p:=⟨g,i,none⟩) (Nat.le_refl _) _⟩,?_⟩
      · rw [Nat.pow_succ, ← Nat.div_div_eq_div_mul, ← hD.1]
        rfl
      · rw [show 65 - (k+1)=i by omega]
      · refine hexAt_put hH.1 hH.2.1 hH.2.2.1 hD.2.1 (by omega) ?_
        rw [← hD.1, ← hD.2.2.2.1]
      · simp only [intOf]
        have:v / 16<v:=Nat.div_lt_self (by omega) (by omega)
        omega
    · have h16' : ¬ (16:Int)≤(v:Int):=by omega
      have hd16:v<16:=by omega
      have hdi:(v:Int)<36:=by omega
      have hget:=hexB_get v hd16
      have HD:=Lib.hid (And.intro hv (And.intro hi (And.intro e0 (And.intro h16 hk))))
      have hal:Tryz.prog.arrayLen 238=65:=by simp [Program.arrayLen,Tryz.underlying238]
      have hsl:∀ W,(Instr.sliceAt 238 (.pointer (some ⟨g,0,none⟩)) (some (.int .i64 (i:Int))) none none).run Tryz.prog W=.ok (.slice (some ⟨g,i,none⟩) (65 - i) (65 - i)) W:=fun W=>by
        rw [run_sliceAt_array_l W 238 ⟨g,0,none⟩ (by simp [Program.arrayLen,Program.elem,Tryz.underlying238]) .i64 (i:Int) (by omega) (by rw [hal];omega)]
        rw [hal]
        go_simp
        try omega
      have hput:HexAt (wr.setCell ⟨g,i,none⟩ (.int .u8 ((hexC1 v).toNat:Int))) g u (k+1):=hexAt_put hrow hcs hdr hi (by omega) (by rw [← hv,Nat.mod_eq_of_lt hd16])
      have hcv:(convert 121 9 (.slice (some ⟨g,i,none⟩) (65 - i) (65 - i))).run Tryz.prog (wr.setCell ⟨g,i,none⟩ (.int .u8 ((hexC1 v).toNat:Int)))=.ok (.string ⟨(hexW (k+1) u).toArray⟩) (wr.setCell ⟨g,i,none⟩ (.int .u8 ((hexC1 v).toNat:Int))):=by
        obtain ⟨cs2,hr2,hs2,hd2⟩:=hput.row
        have h:=run_convert_bytes_back (P:=Tryz.prog) (wr.setCell ⟨g,i,none⟩ (.int .u8 ((hexC1 v).toNat:Int))) 121 9 5 ⟨g,i,none⟩ (65 - i) (hexW (k+1) u) Tryz.underlying121 Tryz.underlying5 Tryz.underlying9 (fun j hj=>by
          have h3:=cell_of_row _ g (i+j) _ _ _ hr2
          rw [Lib.add_plain,h3]
          have h4:(cs2.toList.drop (65 - (k+1)))[j]?=some (.int .u8 ((hexW (k+1) u)[j].toNat:Int)):=by rw [hd2];exact bcells_get hj
          rw [List.getElem?_drop,show 65 - (k+1)+j=i+j by omega,Array.getElem?_toList] at h4
          exact h4)
        rw [hexW_len,show k+1=65 - i by omega] at h
        rw [show k+1=65 - i by omega]
        exact h
      clear hrow hcs hdr hb hh hv hi h16 e0 hk hal hput
      go_wp2
      go_ret2
      have hD:=HD.out
      refine ⟨k+1,by omega,by omega,?_,rfl,HH.out.2.2.2.setCell (p:=⟨g,i,none⟩) (Nat.le_refl _) _⟩
      rw [Nat.pow_succ]
      have h1:u / 16 ^ k<16:=by rw [← hD.1];exact hd16
      exact (Nat.div_lt_iff_lt_mul (Nat.pow_pos (by decide))).1 h1 |> fun h=>by rw [Nat.mul_comm];exact h
set_option maxRecDepth 100000 in
theorem ifu_any (u:Nat) (hu:u<18446744073709551616) (w:World) (hv:PV w) :
    Calls Tryz.prog 117 #[.int .u64 (u:Int),.int .i64 16] w fun e w'=>∃ m,1≤m∧m≤16∧u<16 ^ m∧e=.returned (.string ⟨(hexW m u).toArray⟩)∧Below w.heap.size w w':=by
  have H:=Lib.hid (fbits_any u hu w hv)
  clear hv hu
  go_enter Tryz.func117,Tryz.ntmps117
  go_wp2_with ((with_reducible refine H.out.mono ?_);rintro e w' ⟨m,h1,h2,h3,rfl,hb⟩;have HM:=Lib.hid (And.intro h1 (And.intro h2 (And.intro h3 hb)));clear h1 h2 h3 hb)
  go_ret
  exact ⟨m,HM.out.1,HM.out.2.1,HM.out.2.2.1,rfl,HM.out.2.2.2⟩
set_option maxRecDepth 100000 in
theorem fu_any (u:Nat) (hu:u<18446744073709551616) (w:World) (hv:PV w) :
    Calls Tryz.prog 96 #[.int .u64 (u:Int),.int .i64 16] w fun e w'=>∃ m,1≤m∧m≤16∧u<16 ^ m∧e=.returned (.string ⟨(hexW m u).toArray⟩)∧Below w.heap.size w w':=by
  have H:=Lib.hid (ifu_any u hu w hv)
  clear hv hu
  go_enter Tryz.func96,Tryz.ntmps96
  go_wp2_with ((with_reducible refine H.out.mono ?_);rintro e w' ⟨m,h1,h2,h3,rfl,hb⟩;have HM:=Lib.hid (And.intro h1 (And.intro h2 (And.intro h3 hb)));clear h1 h2 h3 hb)
  go_ret
  exact ⟨m,HM.out.1,HM.out.2.1,HM.out.2.2.1,rfl,HM.out.2.2.2⟩
/-- The name of a base's file. -/
def bname (u:Nat):Bs:=98::hexW 16 u
set_option maxRecDepth 100000 in
theorem name_any (u:Nat) (hu:u<18446744073709551616) (w:World) (hv:PV w) :
    Calls Tryz.prog 67 #[.int .u64 (u:Int)] w fun e w'=>e=.returned (.string ⟨(bname u).toArray⟩)∧Below w.heap.size w w':=by
  have H:=Lib.hid (fu_any u hu w hv)
  have HR:=Lib.hid (fun (c:Nat) (hc:c≤1000) (y:World)=>show Calls Tryz.prog 97 #[.string ⟨#[48]⟩,.int .i64 (c:Int)] y fun e w'=>e=.returned (.string ⟨(Lib.repeatL [48] c).toArray⟩)∧Below y.heap.size y w' from rep_any ⟨#[48]⟩ c y hc (by decide))
  clear hv hu
  go_enter Tryz.func67,Tryz.ntmps67
  go_upto_region 2 with (first
    | ((with_reducible refine H.out.mono ?_);rintro e w1 ⟨m,h1,h2,h3,rfl,hb⟩;have HM:=Lib.hid (And.intro h1 (And.intro h2 (And.intro h3 hb)));clear h1 h2 h3 hb))
  obtain ⟨x,hx⟩:∃ x:ByteArray,x=⟨(hexW m u).toArray⟩:=⟨_,rfl⟩
  rw [← hx]
  have hxs:x.size=m:=by rw [hx];simp [ByteArray.size,hexW_len]
  obtain ⟨c,hc⟩:∃ c,c=16 - m:=⟨_,rfl⟩
  have hw:wrap64 (16 - (x.size:Int))=(c:Int):=by have:=HM.out;unfold wrap64;omega
  obtain ⟨Z,hZ⟩:∃ Z:ByteArray,Z=⟨(Lib.repeatL [48] c).toArray⟩:=⟨_,rfl⟩
  have hZs:Z.size=c:=by rw [hZ];simp [ByteArray.size,Lib.repeatL_length]
  have hc1:=HR.out c (by omega) w1
  rw [← hZ,show ((c:Nat):Int)=16 - (x.size:Int) by have:=HM.out;omega] at hc1
  have HC:=Lib.hid hc1
  have HX:=Lib.hid (And.intro hx (And.intro hxs (And.intro hc hZ)))
  have hx16:x.size≤16:=by rw [hxs];exact HM.out.2.1
  have hZ16:Z.size≤16:=by omega
  have hn1:(9223372036854775807<1+Z.size)=False:=by simp;omega
  have hn2:(9223372036854775807<1+Z.size+x.size)=False:=by simp;omega
  clear hx hxs hc hZ hZs hc1
  go_wp2_with ((with_reducible refine HC.out.mono ?_);rintro e w2 ⟨rfl,hb⟩;have HB:=Lib.hid hb;clear hb)
  go_ret
  refine ⟨?_,HM.out.2.2.2.trans (HB.out.mono HM.out.2.2.2.size)⟩
  show Ending.returned (Value.string (({ data:=#[98] }:ByteArray)++Z++x))=_
  congr 2
  apply ByteArray.ext
  apply Array.toList_inj.1
  have hrep:∀ k,Lib.repeatL [48] k=List.replicate k 48:=fun k=>by
    induction k with
    | zero=>rfl
    | succ k ih=>rw [Lib.repeatL,ih,List.replicate_succ];rfl
  rw [ByteArray.data_append,ByteArray.data_append,Array.toList_append,Array.toList_append,HX.out.1,HX.out.2.2.2,hrep]
  have h:=hexW_pad c m u HM.out.2.2.1
  rw [show m+c=16 by have:=HM.out;have:=HX.out;omega] at h
  show [98]++List.replicate c 48++hexW m u=98::hexW 16 u
  rw [h]
  simp
end Go.Proofs.YticjodhkmidljaaGreatDoor
namespace Go.Proofs.YticjodhkmidljaaGreatDoor
open Go.RowKit Go.Shelf
def hexV (c:UInt8):Option Nat:=if 48≤c.toNat∧c.toNat≤57 then some (c.toNat - 48) else if 97≤c.toNat∧c.toNat≤102 then some (c.toNat - 87) else if 65≤c.toNat∧c.toNat≤70 then some (c.toNat - 55) else none
/-- 'c | 32'. -/
def lowN (c:Nat):Nat:=c ||| 32
theorem lower_any (c:Nat) (hc:c<256) (w:World):Calls Tryz.prog 167 #[.int .u8 (c:Int)] w fun e w'=>e=.returned (.int .u8 (lowN c:Int))∧w'=w:=by
  have h:=u8_or_nat c 32 hc (by decide)
  go_enter Tryz.func167,Tryz.ntmps167
  go_wp2
  go_ret
  refine ⟨?_,rfl⟩
  first | rfl | (rw [h];rfl) | (simp only [lowN];exact congrArg _ (congrArg _ h))
/-- What a byte is to ParseUint at base 16. -/
inductive HexC (c:Nat):Option Nat→Prop
  | dig (d:Nat) (h0:48≤c) (h1:c≤57) (h2:d=c - 48):HexC c (some d)
  | lo (d:Nat) (h0 : ¬ (48≤c∧c≤57)) (h1:97≤lowN c) (h2:lowN c≤122) (h3:d=lowN c - 97+10) (h4:d<16) (h5:c≠95):HexC c (some d)
  | far (d:Nat) (h0 : ¬ (48≤c∧c≤57)) (h1:97≤lowN c) (h2:lowN c≤122) (h3:d=lowN c - 97+10) (h4:16≤d) (h5:c≠95):HexC c none
  | none (h0 : ¬ (48≤c∧c≤57)) (h1 : ¬ (97≤lowN c∧lowN c≤122)):HexC c none
theorem hexC_fin:∀ c:Fin 256,if 48≤c.val∧c.val≤57 then hexV (UInt8.ofNat c.val)=some (c.val - 48) else if 97≤lowN c.val∧lowN c.val≤122 then c.val≠95∧lowN c.val<128∧(if lowN c.val - 97+10<16 then hexV (UInt8.ofNat c.val)=some (lowN c.val - 97+10) else hexV (UInt8.ofNat c.val)=none) else hexV (UInt8.ofNat c.val)=none:=by decide +kernel
theorem hexC (b:UInt8):HexC b.toNat (hexV b):=by
  have h:=hexC_fin ⟨b.toNat,b.toNat_lt⟩
  simp only [UInt8.ofNat_toNat] at h
  by_cases h1:48≤b.toNat∧b.toNat≤57
  · rw [if_pos h1] at h
    rw [h]
    exact .dig _ h1.1 h1.2 rfl
  · rw [if_neg h1] at h
    by_cases h2:97≤lowN b.toNat∧lowN b.toNat≤122
    · rw [if_pos h2] at h
      obtain ⟨h3,_,h4⟩:=h
      by_cases h5:lowN b.toNat - 97+10<16
      · rw [if_pos h5] at h4
        rw [h4]
        exact .lo _ h1 h2.1 h2.2 rfl h5 h3
      · rw [if_neg h5] at h4
        rw [h4]
        exact .far _ h1 h2.1 h2.2 rfl (by omega) h3
    · rw [if_neg h2] at h
      rw [h]
      exact .none h1 h2
/-- What bytes spell at base 16. -/
def hexStep (o:Option Nat) (b:UInt8):Option Nat:=match o,hexV b with
  | some n,some d=>some (n*16+d)
  | _,_=>none
def hexAcc (l:Bs):Option Nat:=l.foldl hexStep (some 0)
theorem hexAcc_snoc (l:Bs) (b:UInt8):hexAcc (l++[b])=hexStep (hexAcc l) b:=by simp [hexAcc]
theorem hexAcc_none:∀ (l:Bs),l.foldl hexStep none=none
  | []=>rfl
  | _::r=>hexAcc_none r
theorem hexAcc_app (l r:Bs) (h:hexAcc l=none):hexAcc (l++r)=none:=by
  unfold hexAcc at h ⊢
  rw [List.foldl_append,h,hexAcc_none]
theorem hexV_lt {c:UInt8} {d:Nat} (h:hexV c=some d):d<16:=by
  have:=hexC c
  rw [h] at this
  cases this <;> omega
/-- What ParseUint tells of sixteen bytes. -/
def IP16 (l:Bs) (w:World) (e:Ending) (w':World):Prop:=Below w.heap.size w w'∧match hexAcc l with
  | some n=>e=.returned (.tuple #[.int .u64 (n:Int),.nilIface])
  | none=>e=.returned (.tuple #[.int .u64 0,.iface 230 (.int .i64 2)])
theorem IP16.ok {l:Bs} {w w':World} {n:Nat} (hb:Below w.heap.size w w') (h:hexAcc l=some n):IP16 l w (.returned (.tuple #[.int .u64 (n:Int),.nilIface])) w':=by
  unfold IP16
  rw [h]
  exact ⟨hb,rfl⟩
theorem IP16.bad {l:Bs} {w w':World} (hb:Below w.heap.size w w') (h:hexAcc l=none):IP16 l w (.returned (.tuple #[.int .u64 0,.iface 230 (.int .i64 2)])) w':=by
  unfold IP16
  rw [h]
  exact ⟨hb,rfl⟩
set_option maxHeartbeats 6400000 in
set_option maxRecDepth 100000 in
theorem ip16_any (x:ByteArray) (hx:x.size=16) (w:World) :
    Calls Tryz.prog 137 #[.string x,.int .i64 16,.int .i64 64] w (IP16 x.data.toList w):=by
  have hcv:=Lib.run_convert_string_bytes (P:=Tryz.prog) w 9 121 5 x Tryz.underlying9 Tryz.underlying121 Tryz.underlying5
  rw [hx] at hcv
  have Hlw:=Lib.hid (fun (c:Nat) (hc:c<256) (y:World)=>lower_any c hc y)
  obtain ⟨l,hl⟩:∃ l,l=x.data.toList:=⟨_,rfl⟩
  have hll:l.length=16:=by rw [hl,Array.length_toList];exact hx
  rw [← hl]
  have hne:(x.toList.isEmpty)=false:=by
    rw [Lib.toList_data, ← hl]
    cases hq:l with
    | nil=>rw [hq] at hll;cases hll
    | cons _ _=>rfl
  have hne2:(x.toList == [])=false:=by
    rw [Lib.toList_data, ← hl,beq_eq_false_iff_ne]
    intro e
    rw [e] at hll
    cases hll
  go_enter Tryz.func137,Tryz.ntmps137
  go_upto_region 36 with fail
  rw [show IntKind.u64.wrap (IntKind.u64.wrap 18446744073709551616 - 1)=18446744073709551615 from by decide]
  have HW:=Lib.hid (show ∀ j (hj:j<16),(Lib.bytesWorld w 5 x).cell? ⟨w.heap.size,j,none⟩=some (.int .u8 ((l[j]'(by omega)).toNat:Int)) from fun j hj=>by
    rw [Lib.bytesWorld_cell w 5 x j (by omega), ← hl,List.getD_eq_getElem?_getD,List.getElem?_eq_getElem (by omega)]
    rfl)
  have HB:=Lib.hid (Lib.bytesWorld_below w 5 x)
  have HL:=Lib.hid hll
  clear hcv hl hne hne2
  generalize Lib.bytesWorld w 5 x=w1 at *
  generalize w.heap.size=g at HW ⊢
  go_loopw [12,13,101] (fun s12 s13 s101 wr=>∃ i n:Nat,s12=.bool false∧s101=.int .i64 (i:Int)∧s13=.int .u64 (n:Int)∧i≤16∧n<16 ^ i∧hexAcc (l.take i)=some n∧wr=w1) (fun _ _ s101 _=>16 - (intOf s101).toNat)
  case atStart=>exact ⟨0,0,rfl,rfl,rfl,by decide,by decide,rfl,rfl⟩
  case round =>
    obtain ⟨i,n,rfl,rfl,rfl,hi,hn,hA,rfl⟩:=hrel
    by_cases hi2:i=16
    · subst hi2
      have HA:=Lib.hid (show hexAcc l=some n from by rw [← hA,List.take_of_length_le (by omega)])
      clear hA hn
      go_wp2
      go_ret2
      exact .ok HB.out HA.out
    · have hlt:(i:Int)<16:=by omega
      have hi16:i<16:=by omega
      have hget:=HW.out i hi16
      obtain ⟨c,hc⟩:∃ c,c=l[i]'(by omega):=⟨_,rfl⟩
      rw [← hc] at hget
      have htk:l.take (i+1)=l.take i++[c]:=by rw [List.take_add_one,List.getElem?_eq_getElem (by omega),hc];rfl
      have hx2:=hexC c
      have hcl:=c.toNat_lt
      obtain ⟨cn,hcn⟩:∃ n,n=c.toNat:=⟨_,rfl⟩
      rw [← hcn] at hx2 hcl hget
      obtain ⟨hv,hhv⟩:∃ v,v=hexV c:=⟨_,rfl⟩
      rw [← hhv] at hx2
      have hn60:n<1152921504606846976:=by
        have h1:(16:Nat) ^ i≤16 ^ 15:=Nat.pow_le_pow_right (by decide) (by omega)
        have h2:(16:Nat) ^ 15=1152921504606846976:=by decide
        omega
      have hstep:∀ d,hv=some d→d<16→hexAcc (l.take (i+1))=some (n*16+d)∧n*16+d<16 ^ (i+1):=by
        intro d hd hd16
        rw [htk,hexAcc_snoc,hA]
        refine ⟨?_,by rw [Nat.pow_succ];omega⟩
        unfold hexStep
        rw [← hhv,hd]
      have hstop:hv=none→hexAcc l=none:=by
        intro hd
        have h1:hexAcc (l.take (i+1))=none:=by
          rw [htk,hexAcc_snoc,hA]
          unfold hexStep
          rw [← hhv,hd]
        have h2:=hexAcc_app _ (l.drop (i+1)) h1
        rwa [List.take_append_drop] at h2
      have HF:=Lib.hid (And.intro hstep (And.intro hstop (And.intro hn60 hi16)))
      clear hstep hstop hn60 hhv hA hcn hn htk hc hi2 hi
      have Hlc:=Lib.hid (Hlw.out cn hcl)
      cases hx2 with
      | dig d h0 h1 h2 =>
        have e1:((cn:Int) == 95)=false:=by rw [beq_eq_false_iff_ne];omega
        have e2:((48:Int)≤(cn:Int))=True:=by simp;omega
        have e3:((cn:Int)≤57)=True:=by simp;omega
        have e4:IntKind.u8.wrap ((cn:Int) - 48)=(d:Int):=by rw [IntKind.wrap_u8'];omega
        have hd16:d<16:=by omega
        clear h0 h1 h2
        have e5:((16:Int)≤(d:Int))=False:=by simp;omega
        have e6:((1152921504606846976:Int)≤(n:Int))=False:=by simp;have:=HF.out.2.2.1;omega
        obtain ⟨k,hk⟩:∃ k,k=n*16:=⟨_,rfl⟩
        obtain ⟨m,hm⟩:∃ m,m=k+d:=⟨_,rfl⟩
        have e7:IntKind.u64.wrap ((n:Int)*16)=(k:Int):=by rw [IntKind.wrap_u64];have:=HF.out.2.2.1;omega
        have e8:IntKind.u64.wrap ((k:Int)+(d:Int))=(m:Int):=by rw [IntKind.wrap_u64];have:=HF.out.2.2.1;omega
        have e14:IntKind.u64.wrap (d:Int)=(d:Int):=by rw [IntKind.wrap_u64];omega
        have e9:((m:Int)<(k:Int))=False:=by simp;omega
        have e10:((18446744073709551615:Int)<(m:Int))=False:=by simp;have:=HF.out.2.2.1;omega
        have e11:IntKind.i64.wrap ((i:Int)+1)=((i+1:Nat):Int):=by rw [IntKind.wrap_i64];omega
        have HM:=Lib.hid (show hexAcc (l.take (i+1))=some m∧m<16 ^ (i+1) from by rw [hm,hk];exact HF.out.1 d rfl hd16)
        clear hd16 hk hm
        go_wp2
        exact ⟨⟨i+1,m,rfl,rfl,rfl,by omega,HM.out.2,HM.out.1,trivial⟩,by simp only [intOf];omega⟩
      | lo d h0 h1 h2 h3 h4 h5 =>
        rcases (show cn<48∨(48≤cn∧57<cn) by omega) with q | q
        · have e2:((48:Int)≤(cn:Int))=False:=by simp;omega
          have e1:((cn:Int) == 95)=false:=by rw [beq_eq_false_iff_ne];omega
          have e3:((97:Int)≤(lowN cn:Int))=True:=by simp;omega
          have e4:((lowN cn:Int)≤122)=True:=by simp;omega
          obtain ⟨l9,hl9⟩:∃ l,l=lowN cn - 97:=⟨_,rfl⟩
          have e12:IntKind.u8.wrap ((lowN cn:Int) - 97)=(l9:Int):=by rw [IntKind.wrap_u8'];omega
          have e13:IntKind.u8.wrap ((l9:Int)+10)=(d:Int):=by rw [IntKind.wrap_u8'];omega
          have hd16:=h4
          clear h0 h1 h2 h3 h4 h5 q hl9
          generalize lowN cn=lc at *
          have e5:((16:Int)≤(d:Int))=False:=by simp;omega
          have e6:((1152921504606846976:Int)≤(n:Int))=False:=by simp;have:=HF.out.2.2.1;omega
          obtain ⟨k,hk⟩:∃ k,k=n*16:=⟨_,rfl⟩
          obtain ⟨m,hm⟩:∃ m,m=k+d:=⟨_,rfl⟩
          have e7:IntKind.u64.wrap ((n:Int)*16)=(k:Int):=by rw [IntKind.wrap_u64];have:=HF.out.2.2.1;omega
          have e8:IntKind.u64.wrap ((k:Int)+(d:Int))=(m:Int):=by rw [IntKind.wrap_u64];have:=HF.out.2.2.1;omega
          have e14:IntKind.u64.wrap (d:Int)=(d:Int):=by rw [IntKind.wrap_u64];omega
          have e9:((m:Int)<(k:Int))=False:=by simp;omega
          have e10:((18446744073709551615:Int)<(m:Int))=False:=by simp;have:=HF.out.2.2.1;omega
          have e11:IntKind.i64.wrap ((i:Int)+1)=((i+1:Nat):Int):=by rw [IntKind.wrap_i64];omega
          have HM:=Lib.hid (show hexAcc (l.take (i+1))=some m∧m<16 ^ (i+1) from by rw [hm,hk];exact HF.out.1 d rfl hd16)
          clear hd16 hk hm
          go_wp2_with ((with_reducible refine (Hlc.out _).mono ?_);rintro e w' ⟨rfl,rfl⟩)
          exact ⟨⟨i+1,m,rfl,rfl,rfl,by omega,HM.out.2,HM.out.1,trivial⟩,by simp only [intOf];omega⟩
        · have e2:((48:Int)≤(cn:Int))=True:=by simp;omega
          have e15:((cn:Int)≤57)=False:=by simp;omega
          have e1:((cn:Int) == 95)=false:=by rw [beq_eq_false_iff_ne];omega
          have e3:((97:Int)≤(lowN cn:Int))=True:=by simp;omega
          have e4:((lowN cn:Int)≤122)=True:=by simp;omega
          obtain ⟨l9,hl9⟩:∃ l,l=lowN cn - 97:=⟨_,rfl⟩
          have e12:IntKind.u8.wrap ((lowN cn:Int) - 97)=(l9:Int):=by rw [IntKind.wrap_u8'];omega
          have e13:IntKind.u8.wrap ((l9:Int)+10)=(d:Int):=by rw [IntKind.wrap_u8'];omega
          have hd16:=h4
          clear h0 h1 h2 h3 h4 h5 q hl9
          generalize lowN cn=lc at *
          have e5:((16:Int)≤(d:Int))=False:=by simp;omega
          have e6:((1152921504606846976:Int)≤(n:Int))=False:=by simp;have:=HF.out.2.2.1;omega
          obtain ⟨k,hk⟩:∃ k,k=n*16:=⟨_,rfl⟩
          obtain ⟨m,hm⟩:∃ m,m=k+d:=⟨_,rfl⟩
          have e7:IntKind.u64.wrap ((n:Int)*16)=(k:Int):=by rw [IntKind.wrap_u64];have:=HF.out.2.2.1;omega
          have e8:IntKind.u64.wrap ((k:Int)+(d:Int))=(m:Int):=by rw [IntKind.wrap_u64];have:=HF.out.2.2.1;omega
          have e14:IntKind.u64.wrap (d:Int)=(d:Int):=by rw [IntKind.wrap_u64];omega
          have e9:((m:Int)<(k:Int))=False:=by simp;omega
          have e10:((18446744073709551615:Int)<(m:Int))=False:=by simp;have:=HF.out.2.2.1;omega
          have e11:IntKind.i64.wrap ((i:Int)+1)=((i+1:Nat):Int):=by rw [IntKind.wrap_i64];omega
          have HM:=Lib.hid (show hexAcc (l.take (i+1))=some m∧m<16 ^ (i+1) from by rw [hm,hk];exact HF.out.1 d rfl hd16)
          clear hd16 hk hm
          go_wp2_with ((with_reducible refine (Hlc.out _).mono ?_);rintro e w' ⟨rfl,rfl⟩)
          exact ⟨⟨i+1,m,rfl,rfl,rfl,by omega,HM.out.2,HM.out.1,trivial⟩,by simp only [intOf];omega⟩
      | far d h0 h1 h2 h3 h4 h5 =>
        rcases (show cn<48∨(48≤cn∧57<cn) by omega) with q | q
        · have e2:((48:Int)≤(cn:Int))=False:=by simp;omega
          have e1:((cn:Int) == 95)=false:=by rw [beq_eq_false_iff_ne];omega
          have e3:((97:Int)≤(lowN cn:Int))=True:=by simp;omega
          have e4:((lowN cn:Int)≤122)=True:=by simp;omega
          obtain ⟨l9,hl9⟩:∃ l,l=lowN cn - 97:=⟨_,rfl⟩
          have e12:IntKind.u8.wrap ((lowN cn:Int) - 97)=(l9:Int):=by rw [IntKind.wrap_u8'];omega
          have e13:IntKind.u8.wrap ((l9:Int)+10)=(d:Int):=by rw [IntKind.wrap_u8'];omega
          have HS:=Lib.hid (HF.out.2.1 rfl)
          have e5:((16:Int)≤(d:Int))=True:=by simp;omega
          clear h0 h1 h2 h3 h4 h5 q hl9
          generalize lowN cn=lc at *
          go_wp2_with ((with_reducible refine (Hlc.out _).mono ?_);rintro e w' ⟨rfl,rfl⟩)
          go_ret2
          exact .bad HB.out HS.out
        · have e2:((48:Int)≤(cn:Int))=True:=by simp;omega
          have e15:((cn:Int)≤57)=False:=by simp;omega
          have e1:((cn:Int) == 95)=false:=by rw [beq_eq_false_iff_ne];omega
          have e3:((97:Int)≤(lowN cn:Int))=True:=by simp;omega
          have e4:((lowN cn:Int)≤122)=True:=by simp;omega
          obtain ⟨l9,hl9⟩:∃ l,l=lowN cn - 97:=⟨_,rfl⟩
          have e12:IntKind.u8.wrap ((lowN cn:Int) - 97)=(l9:Int):=by rw [IntKind.wrap_u8'];omega
          have e13:IntKind.u8.wrap ((l9:Int)+10)=(d:Int):=by rw [IntKind.wrap_u8'];omega
          have HS:=Lib.hid (HF.out.2.1 rfl)
          have e5:((16:Int)≤(d:Int))=True:=by simp;omega
          clear h0 h1 h2 h3 h4 h5 q hl9
          generalize lowN cn=lc at *
          go_wp2_with ((with_reducible refine (Hlc.out _).mono ?_);rintro e w' ⟨rfl,rfl⟩)
          go_ret2
          exact .bad HB.out HS.out
      | none h0 h1 =>
        have HS:=Lib.hid (HF.out.2.1 rfl)
        rcases (show cn<48∨(48≤cn∧57<cn) by omega) with q | q
        · have e2:((48:Int)≤(cn:Int))=False:=by simp;omega
          by_cases h95:cn=95
          · have e1:((cn:Int) == 95)=true:=by simp;omega
            clear h95
            rcases (show lowN cn<97∨(97≤lowN cn∧122<lowN cn) by omega) with r | r
            · have e3:((97:Int)≤(lowN cn:Int))=False:=by simp;omega
              clear h0 h1 q r
              generalize lowN cn=lc at *
              go_wp2_with ((with_reducible refine (Hlc.out _).mono ?_);rintro e w' ⟨rfl,rfl⟩)
              go_ret2
              exact .bad HB.out HS.out
            · have e3:((97:Int)≤(lowN cn:Int))=True:=by simp;omega
              have e4:((lowN cn:Int)≤122)=False:=by simp;omega
              clear h0 h1 q r
              generalize lowN cn=lc at *
              go_wp2_with ((with_reducible refine (Hlc.out _).mono ?_);rintro e w' ⟨rfl,rfl⟩)
              go_ret2
              exact .bad HB.out HS.out
          · have e1:((cn:Int) == 95)=false:=by rw [beq_eq_false_iff_ne];omega
            clear h95
            rcases (show lowN cn<97∨(97≤lowN cn∧122<lowN cn) by omega) with r | r
            · have e3:((97:Int)≤(lowN cn:Int))=False:=by simp;omega
              clear h0 h1 q r
              generalize lowN cn=lc at *
              go_wp2_with ((with_reducible refine (Hlc.out _).mono ?_);rintro e w' ⟨rfl,rfl⟩)
              go_ret2
              exact .bad HB.out HS.out
            · have e3:((97:Int)≤(lowN cn:Int))=True:=by simp;omega
              have e4:((lowN cn:Int)≤122)=False:=by simp;omega
              clear h0 h1 q r
              generalize lowN cn=lc at *
              go_wp2_with ((with_reducible refine (Hlc.out _).mono ?_);rintro e w' ⟨rfl,rfl⟩)
              go_ret2
              exact .bad HB.out HS.out
        · have e2:((48:Int)≤(cn:Int))=True:=by simp;omega
          have e15:((cn:Int)≤57)=False:=by simp;omega
          by_cases h95:cn=95
          · have e1:((cn:Int) == 95)=true:=by simp;omega
            clear h95
            rcases (show lowN cn<97∨(97≤lowN cn∧122<lowN cn) by omega) with r | r
            · have e3:((97:Int)≤(lowN cn:Int))=False:=by simp;omega
              clear h0 h1 q r
              generalize lowN cn=lc at *
              go_wp2_with ((with_reducible refine (Hlc.out _).mono ?_);rintro e w' ⟨rfl,rfl⟩)
              go_ret2
              exact .bad HB.out HS.out
            · have e3:((97:Int)≤(lowN cn:Int))=True:=by simp;omega
              have e4:((lowN cn:Int)≤122)=False:=by simp;omega
              clear h0 h1 q r
              generalize lowN cn=lc at *
              go_wp2_with ((with_reducible refine (Hlc.out _).mono ?_);rintro e w' ⟨rfl,rfl⟩)
              go_ret2
              exact .bad HB.out HS.out
          · have e1:((cn:Int) == 95)=false:=by rw [beq_eq_false_iff_ne];omega
            clear h95
            rcases (show lowN cn<97∨(97≤lowN cn∧122<lowN cn) by omega) with r | r
            · have e3:((97:Int)≤(lowN cn:Int))=False:=by simp;omega
              clear h0 h1 q r
              generalize lowN cn=lc at *
              go_wp2_with ((with_reducible refine (Hlc.out _).mono ?_);rintro e w' ⟨rfl,rfl⟩)
              go_ret2
              exact .bad HB.out HS.out
            · have e3:((97:Int)≤(lowN cn:Int))=True:=by simp;omega
              have e4:((lowN cn:Int)≤122)=False:=by simp;omega
              clear h0 h1 q r
              generalize lowN cn=lc at *
              go_wp2_with ((with_reducible refine (Hlc.out _).mono ?_);rintro e w' ⟨rfl,rfl⟩)
              go_ret2
              exact .bad HB.out HS.out
end Go.Proofs.YticjodhkmidljaaGreatDoor
namespace Go.Proofs.YticjodhkmidljaaGreatDoor
open Go.RowKit Go.Shelf
theorem p16_any (x:ByteArray) (hx:x.size=16) (w:World) (hv:PV w) :
    Calls Tryz.prog 105 #[.string x,.int .i64 16,.int .i64 64] w (UintR (hexAcc x.data.toList) w):=by
  have H:=Lib.hid (ip16_any x hx w)
  obtain ⟨tp,p,hv1⟩:=hv.syn
  have hvc:w.cell? ⟨nmRen.g 15,0,none⟩=some (.iface tp p):=by have h0:=World.var?_cell lay_toerr.m15 hv1 0;simpa using h0
  have Hte:=Lib.hid (fun (y:World) (hy:Below w.heap.size w y)=>(show Calls Tryz.prog 138 #[.string ⟨#[80,97,114,115,101,85,105,110,116]⟩,.string x,.int .i64 16,.int .i64 64,.iface 230 (.int .i64 2)] y (fun e w'=>∃ N,e=.returned (.iface 232 (.pointer (some ⟨N,0,none⟩)))∧y.heap.size≤N∧w'.heap[N]?=some (.cells #[.string ⟨#[80,97,114,115,101,85,105,110,116]⟩,.string x,.iface tp p] 250 (0,0))∧Below y.heap.size y w') from
    Any.strconv_toError_syntax lay_toerr ⟨#[80,97,114,115,101,85,105,110,116]⟩ x 16 64 (.iface tp p) y (by rw [hx];decide) ((World.cell?_of_block (hy.block _ (cell_lt hvc))).trans hvc) (.inr ⟨tp,p,rfl⟩)))
  clear hvc hv1 hv
  go_enter Tryz.func105,Tryz.ntmps105
  cases hA:hexAcc x.data.toList with
  | some n =>
    have HA:=Lib.hid hA
    clear hA
    go_wp2_with (go_at_call 137;refine H.out.mono ?_;intro e w1 h;obtain ⟨hb,h2⟩:=h;rw [HA.out] at h2;subst h2;have HB:=Lib.hid hb;clear hb)
    go_ret2
    exact ⟨HB.out,rfl⟩
  | none =>
    have HA:=Lib.hid hA
    clear hA
    go_wp2_with (first
      | (go_at_call 137;refine H.out.mono ?_;intro e w1 h;obtain ⟨hb,h2⟩:=h;rw [HA.out] at h2;subst h2;have HB:=Lib.hid hb;clear hb)
      | (go_at_call 138;refine (Hte.out _ HB.out).mono ?_;rintro e w2 ⟨N,rfl, -, -, hb2⟩;have HB2:=Lib.hid hb2;clear hb2))
    go_ret2
    exact ⟨HB.out.trans (HB2.out.mono HB.out.size),0,_,_,by decide,rfl⟩
theorem hexAcc_from:∀ (l:Bs) (a k n:Nat),a<16 ^ k→l.foldl hexStep (some a)=some n→n<16 ^ (k+l.length)
  | [],a,k,n,ha,h=>by cases h;exact ha
  | b::r,a,k,n,ha,h=>by
    rw [List.foldl_cons] at h
    cases hb:hexV b with
    | none =>
      have e:hexStep (some a) b=none:=by unfold hexStep;rw [hb]
      rw [e,hexAcc_none] at h
      cases h
    | some d =>
      have e:hexStep (some a) b=some (a*16+d):=by unfold hexStep;rw [hb]
      rw [e] at h
      have hd:=hexV_lt hb
      have h2:=hexAcc_from r (a*16+d) (k+1) n (by rw [Nat.pow_succ];omega) h
      rw [List.length_cons,show k+(r.length+1)=k+1+r.length by omega]
      exact h2
theorem hexAcc_lt (l:Bs) (n:Nat) (h:hexAcc l=some n):n<16 ^ l.length:=by
  have h2:=hexAcc_from l 0 0 n (by decide) h
  rwa [Nat.zero_add] at h2
/-- The slot of the base whose file has this name. -/
def slotD (nm:Bs):Option Nat:=if nm.length=17 then (hexAcc (nm.drop 1)).bind (fun n=>if n≠0∧bname n=nm then some n else none) else none
theorem bs_beq (a b:ByteArray):(a.toList == b.toList)=decide (a.data.toList=b.data.toList):=by
  rw [Bool.eq_iff_iff,beq_iff_eq,decide_eq_true_iff,Lib.toList_data,Lib.toList_data]
set_option maxRecDepth 100000 in
set_option maxHeartbeats 4000000 in
theorem slotOf_any (x:ByteArray) (_:x.size≤maxLen) (w:World) (hv:PV w) :
    Calls Tryz.prog 79 #[.string x] w fun e w'=>e=.returned (.tuple #[.int .u64 (((slotD x.data.toList).getD 0:Nat):Int),.bool (slotD x.data.toList).isSome])∧Below w.heap.size w w':=by
  have hxl:x.data.toList.length=x.size:=Array.length_toList
  by_cases h17:x.size=17
  · obtain ⟨y,hy⟩:∃ y,y=x.extract 1 17:=⟨_,rfl⟩
    have hyl:y.data.toList=x.data.toList.drop 1:=by
      rw [hy,ByteArray.data_extract,Array.toList_extract,List.extract_eq_take_drop,List.take_of_length_le (by rw [List.length_drop];omega)]
    have hys:y.size=16:=by
      have h:=congrArg List.length hyl
      rw [List.length_drop,hxl] at h
      have h2:y.data.toList.length=y.size:=Array.length_toList
      omega
    have Hp:=Lib.hid (p16_any y hys w hv)
    have Hn:=Lib.hid (fun (u:Nat) (hu:u<18446744073709551616) (z:World) (hz:Below w.heap.size w z)=>name_any u hu z (hv.below hz))
    have hsl:slotD x.data.toList=(hexAcc y.data.toList).bind (fun n=>if n≠0∧bname n=x.data.toList then some n else none):=by
      unfold slotD
      rw [if_pos (by omega),hyl]
    rw [hsl]
    have hlt:=hexAcc_lt y.data.toList
    have hyl2:y.data.toList.length=16:=by rw [Array.length_toList];exact hys
    rw [hyl2] at hlt
    clear hsl hyl hys hxl hv hyl2
    generalize hexAcc y.data.toList=R at *
    have Hy:=Lib.hid hy
    clear hy
    have h17i:((x.size:Int) != 17)=false:=by rw [h17];rfl
    cases R with
    | none =>
      go_enter Tryz.func79,Tryz.ntmps79
      go_wp2_with (rw [← Hy.out];go_at_call 105;refine Hp.out.mono ?_;rintro e w1 ⟨hb,q,t,p,hq,rfl⟩;have HB:=Lib.hid hb;clear hb hq)
      go_ret2
      exact ⟨rfl,HB.out⟩
    | some n =>
      have hn:=hlt n rfl
      clear hlt
      by_cases h0:n=0
      · subst h0
        go_enter Tryz.func79,Tryz.ntmps79
        go_wp2_with (rw [← Hy.out];go_at_call 105;refine Hp.out.mono ?_;rintro e w1 ⟨hb,rfl⟩;have HB:=Lib.hid hb;clear hb)
        go_ret2
        exact ⟨rfl,HB.out⟩
      · have hn0:((n:Int) == 0)=false:=by rw [beq_eq_false_iff_ne];omega
        obtain ⟨z,hz⟩:∃ z:ByteArray,z=⟨(bname n).toArray⟩:=⟨_,rfl⟩
        have hzl:z.data.toList=bname n:=by rw [hz]
        have Hn2:=Lib.hid (fun (y:World) (hy:Below w.heap.size w y)=>(show Calls Tryz.prog 67 #[.int .u64 (n:Int)] y fun e w'=>e=.returned (.string z)∧Below y.heap.size y w' from by rw [hz];exact Hn.out n (by simpa using hn) y hy))
        have hcmp:=bs_beq z x
        rw [hzl] at hcmp
        clear hz hzl
        by_cases hb:bname n=x.data.toList
        · rw [show (some n).bind (fun n=>if n≠0∧bname n=x.data.toList then some n else none)=some n by rw [Option.bind_some,if_pos ⟨h0,hb⟩]]
          have hcm:(z.toList == x.toList)=true:=by rw [hcmp,hb];simp
          clear hcmp hb
          go_enter Tryz.func79,Tryz.ntmps79
          go_wp2_with (first
            | (rw [← Hy.out];go_at_call 105;refine Hp.out.mono ?_;rintro e w1 ⟨hb,rfl⟩;have HB:=Lib.hid hb;clear hb)
            | (go_at_call 67;refine (Hn2.out _ HB.out).mono ?_;rintro e w2 ⟨rfl,hb2⟩;have HB2:=Lib.hid hb2;clear hb2))
          go_ret2
          exact ⟨rfl,HB.out.trans (HB2.out.mono HB.out.size)⟩
        · rw [show (some n).bind (fun n=>if n≠0∧bname n=x.data.toList then some n else none)=none by rw [Option.bind_some,if_neg (fun h=>hb h.2)]]
          have hcm:(z.toList == x.toList)=false:=by rw [hcmp];simp [hb]
          clear hcmp hb
          go_enter Tryz.func79,Tryz.ntmps79
          go_wp2_with (first
            | (rw [← Hy.out];go_at_call 105;refine Hp.out.mono ?_;rintro e w1 ⟨hb,rfl⟩;have HB:=Lib.hid hb;clear hb)
            | (go_at_call 67;refine (Hn2.out _ HB.out).mono ?_;rintro e w2 ⟨rfl,hb2⟩;have HB2:=Lib.hid hb2;clear hb2))
          go_ret2
          exact ⟨rfl,HB.out.trans (HB2.out.mono HB.out.size)⟩
  · have h17i:((x.size:Int) != 17)=true:=by rw [bne_iff_ne];omega
    rw [show slotD x.data.toList=none by unfold slotD;rw [if_neg (by omega)]]
    clear h17 hv hxl
    go_enter Tryz.func79,Tryz.ntmps79
    go_wp2
    go_ret2
    exact ⟨rfl,Below.refl _ _⟩
end Go.Proofs.YticjodhkmidljaaGreatDoor
