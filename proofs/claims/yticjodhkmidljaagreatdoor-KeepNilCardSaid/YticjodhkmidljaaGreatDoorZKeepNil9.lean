/- Disk: Files. Condition: as each theorem says. -/
import Derived.Test.YticjodhkmidljaaGreatDoorZKeepNil8
import Derived.Test.YticjodhkmidljaaGreatDoorZKeepNil2
import Derived.Test.YticjodhkmidljaaGreatDoorZKeepNil3
import Derived.IntWalk
namespace Go.Proofs.YticjodhkmidljaaGreatDoor
open Go.RowKit Go.Shelf
attribute [local go_sem] Oper.semAt_some
def filE (f:FilV):List Value:=filR ⟨f.nm.toArray⟩ ⟨f.by_.toArray⟩ (f.sy:Int)
theorem filE_len (f:FilV):(filE f).length=3:=rfl
theorem filE_one (f:FilV):∀ u ∈ filE f,u.oneCell'=true:=by
  intro u hu
  simp [filE,filR] at hu
  rcases hu with rfl | rfl | rfl <;> rfl
theorem infoFil:(Tryz.prog.info? 101).map (fun i=>(i.zero,i.size,i.bytes))=some (some (.agg #[.string ⟨#[]⟩,.string ⟨#[]⟩,.int .i64 0]),3,40):=by kernel_rfl
theorem own_stay {w w':World} {base:Nat} {e:TypeId} {size:Nat} {v:Value} {n:Nat} {xs:List Value} (h:w.ownsRow base e size v n xs) (hk:∀ k,v.ownBlock=some k→base≤k→k<w.heap.size→w'.heap[k]?=w.heap[k]?):w'.ownsRow base e size v n xs:=by
  refine ⟨h.1,?_⟩
  rcases h.2 with q | ⟨g,cap,cur,rfl,hb,hg,r⟩
  · exact .inl q
  · exact .inr ⟨g,cap,cur,rfl,hb,(hk g rfl hb (Array.getElem?_eq_some_iff.1 hg).1).trans hg,r⟩
theorem own_base {w:World} {base base':Nat} {e:TypeId} {size:Nat} {v:Value} {n:Nat} {xs:List Value} (h:w.ownsRow base e size v n xs) (hb:base'≤base):w.ownsRow base' e size v n xs:=by
  refine ⟨h.1,?_⟩
  rcases h.2 with q | ⟨g,cap,cur,rfl,hb2,r⟩
  · exact .inl q
  · exact .inr ⟨g,cap,cur,rfl,Nat.le_trans hb hb2,r⟩
theorem own_at {w:World} {base:Nat} {e:TypeId} {size:Nat} {v:Value} {n:Nat} {xs:List Value} (h:w.ownsRow base e size v n xs) {k:Nat} (hk:v.ownBlock=some k):base≤k∧k<w.heap.size:=by
  rcases h.2 with ⟨rfl,_⟩ | ⟨g,cap,cur,rfl,hb,hg,_⟩
  · cases hk
  · cases hk
    exact ⟨hb,(Array.getElem?_eq_some_iff.1 hg).1⟩
theorem cells_newF (w:World) (cs:List Value) (t:TypeId):∀ j u,cs[j]?=some u→(w.alloc (.cells cs.toArray t)).cell? ((⟨w.heap.size,0,none⟩:Addr).add j)=some u:=by
  intro j u hj
  rw [WideShapes.add_plain]
  show (w.alloc (.cells cs.toArray t)).cell? ⟨w.heap.size,0+j,none⟩=_
  rw [World.cell?_alloc_new]
  simpa using hj
/-- Files, between its rounds. -/
structure FilI (p:Nat) (w:World) (Y:Nat→Prop) (pre:List FilV) (y:World) (v:Value) (B:Nat):Prop where
  box:y.heap[w.heap.size]?=some (.cells #[v] 137 (0,0))
  own:y.ownsRow B 101 3 v pre.length (flat filE pre)
  far:w.heap.size+2≤B∧(v=.slice none 0 0∧pre=[]∨∀ r,Y r→r<B)
  srt:y.heap[w.heap.size+1]?=some (.cells #[.pointer (some ⟨p,0,none⟩)] 46 (0,0))
  bel:Below w.heap.size w y
theorem FilI.turn {p:Nat} {w w2:World} {Y:Nat→Prop} {pre:List FilV} {y:World} {v:Value} {B:Nat} (h:FilI p w Y pre y v B) (hw:w.heap.size+2≤w2.heap.size) (hY:NewY Y w2) {y':World} {row:Option Nat} (hg:y.grownBy y' row) (hr:∀ r,row=some r→Y r):FilI p w Y pre y' v B:=by
  have hz:∀ r,row=some r→w.heap.size+2≤r:=fun r e=>Nat.le_trans hw (hY r (hr r e))
  refine ⟨(hg.block _ (Array.getElem?_eq_some_iff.1 h.box).1 (fun e=>by have:=hz _ e.symm;omega)).trans h.box,own_stay h.own (fun k hk hB hl=>hg.block k hl (fun e=>?_)),h.far,(hg.block _ (Array.getElem?_eq_some_iff.1 h.srt).1 (fun e=>by have:=hz _ e.symm;omega)).trans h.srt,
    below_grown hg h.bel h.bel.size (fun k e=>by have:=hz k e;omega)⟩
  rcases h.far.2 with ⟨rfl,_⟩ | q
  · cases hk
  · have:=q k (hr k e.symm)
    omega
/-- A file is put behind the others. -/
theorem FilI.next {p:Nat} {w w2:World} {Y:Nat→Prop} {pre:List FilV} {f:FilV} {W v2 w4:World} {v v4:Value} {B:Nat} (h:FilI p w Y pre W v B) (hw:w.heap.size+2≤w2.heap.size) (hY:NewY Y w2) (hYl:∀ r,Y r→r<B)
    (hk:KeptW W v2) (ho:w4.ownsRow B 101 3 v4 (pre.length+1) (flat filE pre++filE f)) (hg:v2.grownBy w4 v.ownBlock):KeptZ Y W (w4.setCell ⟨w.heap.size,0,none⟩ v4)∧FilI p w Y (pre++[f]) (w4.setCell ⟨w.heap.size,0,none⟩ v4) v4 B:=by
  have hb2:=KeptW.bel hk
  have hf:=h.far.1
  have hvb:∀ k,v.ownBlock=some k→B≤k:=fun k e=>(own_at h.own e).1
  have hbl:∀ k,k<W.heap.size→k<B→w4.heap[k]?=W.heap[k]?:=fun k hl hB=>(hg.block k (Nat.lt_of_lt_of_le hl hb2.size) (fun e=>by have:=hvb k e.symm;omega)).trans (hb2.block k hl)
  have hset:∀ k,k≠w.heap.size→(w4.setCell ⟨w.heap.size,0,none⟩ v4).heap[k]?=w4.heap[k]?:=fun k hk=>setC_other hk
  have hbox:=(hbl _ (Array.getElem?_eq_some_iff.1 h.box).1 (by omega)).trans h.box
  have hb4:Below w.heap.size w w4:=below_grown hg (h.bel.trans (hb2.mono h.bel.size)) (Nat.le_trans h.bel.size hb2.size) (fun k e=>by have:=hvb k e;omega)
  refine ⟨fun r o hr ho2=>(hset r (by have:=hY r hr;omega)).trans ((hbl r (Array.getElem?_eq_some_iff.1 ho2).1 (hYl r hr)).trans ho2),?_,?_,⟨hf,.inr hYl⟩,(hset _ (by omega)).trans ((hbl _ (Array.getElem?_eq_some_iff.1 h.srt).1 (by omega)).trans h.srt),hb4.setCell (p:=⟨w.heap.size,0,none⟩) (Nat.le_refl _) v4⟩
  · exact heap_setCell_same w4 w.heap.size 0 #[v] _ v4 hbox
  · rw [List.length_append,List.length_singleton,flat_app,show flat filE [f]=filE f by simp [flat]]
    exact own_stay ho (fun k hk hB _=>hset k (by omega))
set_option maxRecDepth 100000 in
set_option maxHeartbeats 4000000 in
theorem files_in (p b n:Nat) (C:Bs→Nat) (L:List Nat) (D:DskV) (hlen:D.fs.length≤1000000) (w:World) (h:DskAt w p b n C L D) :
    CallsIn Fence.wide 9 Tryz.prog 78 #[.pointer (some ⟨p,0,none⟩)] w fun e w'=>∃ v,e=.returned v∧w'.ownsRow w.heap.size 101 3 v D.fs.length (flat filE D.fs)∧Below w.heap.size w w':=by
  have H:=Lib.hid h
  clear h
  refine callsIn_of_wp_marks Tryz.func78 rfl trivial ?_ rfl
  simp only [Tryz.ntmps78,List.size_toArray,List.length_cons,List.length_nil,Nat.reduceAdd,Nat.reduceSub,Array.replicate_succ,Array.replicate_zero,List.push_toArray,List.append_toArray,List.nil_append,List.cons_append]
  gi_wp2_with (first
    | (refine ⟨trivial,?_⟩;refine (callsIn_wide.2 (sorted_any p _)).mono ?_;rintro e w2 ⟨rfl,hbx,hb2⟩;dsimp only)
    | gi_in)
  have e1:(w.alloc (.cells #[.slice none 0 0] 137)).heap.size=w.heap.size+1:=World.size_alloc _ _
  rw [e1] at hbx hb2 ⊢
  have b1:=(Below.refl _ w).alloc (Nat.le_refl _) (.cells #[.slice none 0 0] 137)
  have r1:=(hb2.block w.heap.size (by omega)).trans (heap_alloc_new w (.cells #[.slice none 0 0] 137))
  have bA:=b1.trans (hb2.mono (by omega))
  have hz2:w.heap.size+2≤w2.heap.size:=(Array.getElem?_eq_some_iff.1 hbx).1
  have HI0:=Lib.hid (fun (Y:Nat→Prop)=>show FilI p w Y [] w2 (.slice none 0 0) (w.heap.size+2) from ⟨r1,World.ownsRow_nil _ _ _ _,⟨Nat.le_refl _,.inl ⟨rfl,rfl⟩⟩,hbx,bA⟩)
  have hD2:=H.out.below bA
  have HZ:=Lib.hid hz2
  clear b1 r1 hb2 e1 bA
  refine wpIn_rangeY rfl (by decide) (gf:=74) (lb:=#[.pointer (some ⟨w.heap.size+1,0,none⟩)]) rfl trivial (enters_of Tryz.func74 (by kernel_rfl) rfl)
    (sorted_stops _ (w.heap.size+1) p b n C L D hlen w2 hD2 hbx) (Below.refl _ _) (fun _=>rfl)
    (fun Y pre W'=>∃ v B,FilI p w Y pre W' v B) (fun _ _ _ _=>False)
    (fun Y hY s A B row hs hg hr=>?hI) (fun _ _ _ _ _ _ _ h _ _=>h) (fun Y pre W' hI=>?hRd) (fun Y _=>⟨_,_,HI0.out Y⟩)
    (fun f=>{ tmps:=#[.pointer (some ⟨p,0,none⟩),undef,.slice none 0 0,.pointer (some ⟨w.heap.size,0,none⟩),.string ⟨f.nm.toArray⟩,.pointer (some ⟨C f.nm,0,none⟩),.pointer (some ⟨p,0,none⟩),.bool false,.pointer (some ⟨p,0,none⟩),.func (.func 74) #[] #[.pointer (some ⟨w.heap.size+1,0,none⟩)],.string ⟨f.nm.toArray⟩,.pointer (some ⟨C f.nm,0,none⟩),undef,undef,undef,undef,undef,undef,undef,undef,undef,undef,undef,undef,undef,undef],defers:=[] }) ?assign ?body ?done ?stop
  case hI =>
    obtain ⟨v,B,hs⟩:=hs
    exact ⟨v,B,hs.turn HZ.out hY hg hr⟩
  case hRd =>
    obtain ⟨v,B,hI⟩:=hI
    have hd:=H.out.below hI.bel
    exact ⟨hI.srt,hd.cells.1,hd.m⟩
  case assign =>
    intro l' f W' K hK
    simp only [encF]
    gi_wp2
    exact hK
  case body =>
    rintro l' Y pre f W hY hYl ⟨v,B,hI⟩ hSp
    obtain ⟨iF,hiF,hzF,hsF,hbF⟩:=info_parts infoFil
    have hd:=H.out.below hI.bel
    have hfm:f ∈ D.fs:=hSp.subset (by simp)
    have hpl:pre.length+1≤1000000:=by
      obtain ⟨c,hc⟩:=hSp
      rw [← hc] at hlen
      simp at hlen
      omega
    have hfc:=hd.c f hfm
    obtain ⟨B',hB',hBW,hI'⟩:∃ B',(∀ r,Y r→r<B')∧B'≤W.heap.size∧FilI p w Y pre W v B':=by
      rcases hI.own.2 with ⟨rfl,h0⟩ | ⟨g,cap,cur,rfl,hb,hg,_⟩
      · have hp0:pre=[]:=List.length_eq_zero_iff.1 h0
        subst hp0
        exact ⟨W.heap.size,hYl,Nat.le_refl _,hI.box,World.ownsRow_nil _ _ _ _,⟨(Array.getElem?_eq_some_iff.1 hI.srt).1,.inl ⟨rfl,rfl⟩⟩,hI.srt,hI.bel⟩
      · exact ⟨B,hI.far.2.resolve_left (fun q=>by cases q.1),Nat.le_trans hb (Nat.le_of_lt (Array.getElem?_eq_some_iff.1 hg).1),hI⟩
    have HC:=Lib.hid (fun (y:World) (hy:Below W.heap.size W y)=>(show y.cell? ⟨w.heap.size,0,none⟩=some v∧y.cell? ⟨C f.nm,0,none⟩=some (.string ⟨f.by_.toArray⟩)∧y.cell? ⟨C f.nm,1,none⟩=some (.int .i64 (f.sy:Int)) from
      ⟨cell_of_row _ _ _ _ _ _ ((hy.block _ (Array.getElem?_eq_some_iff.1 hI'.box).1).trans hI'.box),cell_of_row _ _ _ _ _ _ ((hy.block _ (Array.getElem?_eq_some_iff.1 hfc).1).trans hfc),cell_of_row _ _ _ _ _ _ ((hy.block _ (Array.getElem?_eq_some_iff.1 hfc).1).trans hfc)⟩))
    have HI:=Lib.hid hI'
    have HY:=Lib.hid (And.intro hY (And.intro hB' hBW))
    have HP:=Lib.hid (show pre.length+1≤maxLen∧(pre.length+1)*40≤140737488355328 from by unfold maxLen;omega)
    have HF:=Lib.hid (And.intro hiF (And.intro hzF (And.intro hsF hbF)))
    clear hd hI hI' hfm hfc hY hYl hB' hBW hSp hpl hiF hzF hsF hbF
    refine wpIn_block ?_
    refine RegK.wpIn_region_can (F:=(Fence.wide.inRound l')) (KeptW W) [(0,0),(1,0),(2,0),(3,0),(4,0),(5,0),(6,0),(7,0),(8,0),(9,0),(10,0),(11,1),(12,3),(13,3)] (by kernel_rfl) (by kernel_rfl) (by kernel_rfl) (fun _ _ d _ _ h=>by cases d <;> exact h) ⟨rfl,rfl,rfl,Nat.le_refl _,fun _ _=>rfl⟩ ?_
    dsimp only [RegK.pick,List.getElem?_cons_zero,List.getElem?_cons_succ]
    change RegK.Can _ _ _ _ _ _ _ _ W.drew
    have hkd:KeptW W W.drew:=⟨rfl,rfl,rfl,Nat.le_refl _,fun _ _=>rfl⟩
    generalize W.drew=v1 at *
    refine RegK.can_reads ?_
    intro K hK
    go_simp
    refine ⟨v,fun y hy=>?_,hK _ ?_⟩
    · obtain ⟨c1,c2,c3⟩:=HC.out y (KeptW.bel hy)
      go_simp
    clear hK K
    iterate 4 (refine RegK.can_reads ?_;intro K hK;go_simp;(first | refine ⟨_,fun _ _=>rfl,hK _ ?_⟩ | refine hK _ ?_);clear hK K)
    refine RegK.can_reads ?_
    intro K hK
    go_simp
    refine ⟨.string ⟨f.by_.toArray⟩,fun y hy=>?_,hK _ ?_⟩
    · obtain ⟨c1,c2,c3⟩:=HC.out y (KeptW.bel hy)
      go_simp
    clear hK K
    iterate 3 (refine RegK.can_reads ?_;intro K hK;go_simp;(first | refine ⟨_,fun _ _=>rfl,hK _ ?_⟩ | refine hK _ ?_);clear hK K)
    refine RegK.can_reads ?_
    intro K hK
    go_simp
    refine ⟨.int .i64 (f.sy:Int),fun y hy=>?_,hK _ ?_⟩
    · obtain ⟨c1,c2,c3⟩:=HC.out y (KeptW.bel hy)
      go_simp
    clear hK K
    refine RegK.can_reads ?_;intro K hK;go_simp;(first | refine ⟨_,fun _ _=>rfl,hK _ ?_⟩ | refine hK _ ?_);clear hK K
    refine RegK.can_turns (fun _=>trivial) ?_
    intro K K0 hK hK0
    go_simp
    have hkA:=KeptW.mono hkd ((Below.refl v1.heap.size v1).alloc (Nat.le_refl _) (.cells #[.string ⟨f.nm.toArray⟩,.string ⟨f.by_.toArray⟩,.int .i64 (f.sy:Int)] 101))
    refine hK _ _ hkA ?_
    clear hK K hK0 K0
    have HN:=Lib.hid (cells_newF v1 (filE f) 101)
    have hownA:=World.ownsRow.alloc HI.out.own (.cells #[.string ⟨f.nm.toArray⟩,.string ⟨f.by_.toArray⟩,.int .i64 (f.sy:Int)] 101)
    have hown1:v1.ownsRow B' 101 3 v pre.length (flat filE pre):=own_stay HI.out.own (fun k _ _ hl=>(KeptW.bel hkd).block k hl)
    have HO:=Lib.hid (World.ownsRow.alloc hown1 (.cells (filE f).toArray 101))
    have HS:=Lib.hid (show B'≤(v1.alloc (.cells (filE f).toArray 101)).heap.size from by have:=(KeptW.bel hkd).size;have:=HY.out.2.2;simp;omega)
    change RegK.Can _ _ _ _ _ _ _ _ (v1.alloc (.cells (filE f).toArray 101))
    have HKA:=Lib.hid (show KeptW W (v1.alloc (.cells (filE f).toArray 101)) from hkA)
    clear hownA hown1 hkA hkd
    generalize v1.heap.size=g1 at *
    generalize v1.alloc (.cells (filE f).toArray 101)=v2 at *
    refine RegK.can_frees (fun _=>trivial) ?_
    intro K K0 hK hK0
    rw [if_pos (by simp [Region.wanted])]
    refine opIn_append _ _ _ 137 rfl B' 101 iF _ 3 40 Tryz.underlying137 HF.out.1 HF.out.2.1 HF.out.2.2.1 HF.out.2.2.2 rfl (by decide) v pre.length (flat filE pre) rfl HO.out ⟨g1,0,none⟩ 1 1 (filE f) rfl rfl HN.out (filE_one f) HP.out.1 HP.out.2 HS.out ?_
    intro v4 w4 ho4 hg4 _
    obtain ⟨A4,q4,rfl⟩:=own_slice_of ho4
    refine hK (fun _=>True) _ _ trivial ?_
    clear hK K hK0 K0
    have hbx4:w4.heap[w.heap.size]?=some (.cells #[v] 137 (0,0)):=by
      have h0:=(HI.out.box)
      have h1:=((KeptW.bel HKA.out).block _ (Array.getElem?_eq_some_iff.1 h0).1).trans h0
      refine (hg4.block _ (Array.getElem?_eq_some_iff.1 h1).1 (fun e=>?_)).trans h1
      have:=(own_at HI.out.own e.symm).1
      have:=HI.out.far.1
      omega
    have c4:w4.cell? ⟨w.heap.size,0,none⟩=some v:=cell_of_row _ _ _ _ _ _ hbx4
    have t4:=thaw0 0 hbx4
    have HX:=Lib.hid (HI.out.next HZ.out HY.out.1 HY.out.2.1 HKA.out ho4 hg4)
    clear hbx4 ho4 hg4
    refine RegK.can_frees (fun _=>trivial) ?_
    intro K K0 hK hK0
    go_simp
    refine hK (fun _=>True) _ _ trivial ?_
    clear hK K hK0 K0
    refine RegK.can_nil ?_
    exact ⟨HX.out.1,_,_,HX.out.2⟩
  case stop =>
    intro Y c pre W hY hYw hSp hx
    exact hx.elim
  case done =>
    rintro Y ys W hY hYw rfl ⟨v,B,hI⟩ hK
    have c0:W.cell? ⟨w.heap.size,0,none⟩=some v:=cell_of_row _ _ _ _ _ _ hI.box
    have HI:=Lib.hid hI
    have hIT:=hI.turn HZ.out hY (grownBy_putObj' W w2.heap.size (.deferred none)) (fun r e=>by cases e;exact hYw)
    have HT:=Lib.hid hIT
    clear hI hIT
    gi_wp2
    refine ⟨by simp,.inl ⟨_,_,rfl,run_takeDeferred hK,?_⟩⟩
    refine ⟨v,?_,v,rfl,own_base HT.out.own (by have:=HT.out.far.1;omega),HT.out.bel⟩
    simp [results,Tryz.results78,go_sem]
end Go.Proofs.YticjodhkmidljaaGreatDoor
namespace Go.Proofs.YticjodhkmidljaaGreatDoor
/-- Of all bytes that are not synced the first k stay (none: all). -/
def stayN (k:Option Nat) (f:FilV):Nat:=match k with
  | none=>f.by_.length - f.sy
  | some k=>min (f.by_.length - f.sy) k
def cutF (k:Option Nat) (f:FilV):FilV:={ f with by_:=f.by_.take (f.sy+stayN k f) }
def leftN (k:Option Nat) (f:FilV):Option Nat:=k.map (fun x=>x - stayN k f)
def cutK:Option Nat→List FilV→List FilV
  | _,[]=>[]
  | k,f::r=>cutF k f::cutK (leftN k f) r
def keepN (n:Int):Option Nat:=if n<0 then none else some n.toNat
def crStep (s:DskV × Option Nat) (f:FilV):DskV × Option Nat :=
  ({ s.1 with fs:=putF (cutF s.2 f) s.1.fs,room:=s.1.room+(f.by_.length - (f.sy+stayN s.2 f)) },leftN s.2 f)
def crAll (D:DskV) (k:Option Nat) (l:List FilV):DskV × Option Nat:=l.foldl crStep (D,k)
def crashD (D:DskV) (n:Int):DskV × Nat:=if D.dead then (D,8) else ({ (crAll D (keepN n) D.fs).1 with fuse:=none,dead:=true },0)
theorem crAll_snoc (D:DskV) (k:Option Nat) (l:List FilV) (f:FilV):crAll D k (l++[f])=crStep (crAll D k l) f:=by simp [crAll]
theorem crAll_cons (D:DskV) (k:Option Nat) (f:FilV) (l:List FilV):crAll D k (f::l)=crAll (crStep (D,k) f).1 (crStep (D,k) f).2 l:=rfl
theorem stay_le (k:Option Nat) (f:FilV):stayN k f≤f.by_.length - f.sy:=by
  cases k with
  | none=>exact Nat.le_refl _
  | some k=>exact Nat.min_le_left _ _
theorem cr_find {nm:Bs}:∀ (l:List FilV) (D:DskV) (k:Option Nat),(∀ f ∈ l,f.nm≠nm)→findF nm (crAll D k l).1.fs=findF nm D.fs
  | [],_,_,_=>rfl
  | f::r,D,k,h=>by
    rw [crAll_cons,cr_find r _ _ (fun g hg=>h g (List.mem_cons_of_mem _ hg))]
    exact put_other (f:=cutF k f) (Ne.symm (h f (List.mem_cons_self ..)))
theorem rise_app {l:List FilV} {f:FilV} (h:Rise (l++[f])):∀ g ∈ l,g.nm≠f.nm:=fun g hg e=>by
  have h1:=(List.pairwise_append.1 h).2.2 g hg f (by simp)
  rw [e] at h1
  exact List.lt_irrefl _ h1
theorem cr_next {D:DskV} {k:Option Nat} {pre:List FilV} {f:FilV} (hr:Rise D.fs) (h:pre++[f] <+: D.fs):findF f.nm (crAll D k pre).1.fs=some f:=by
  rw [cr_find _ _ _ (rise_app (hr.sublist h.sublist))]
  exact find_of hr (h.subset (by simp))
theorem put_mid {f g:FilV} (hn:g.nm=f.nm):∀ {a r:List FilV},Rise (a++f::r)→putF g (a++f::r)=a++g::r
  | [],r,_=>by simp [putF,hn]
  | x::a,r,h=>by
    have h2:=List.pairwise_cons.1 h
    have hx:=h2.1 f (by simp)
    rw [List.cons_append,putF,if_neg (fun e=>by rw [e,hn] at hx;exact List.lt_irrefl _ hx),if_neg (fun e=>by rw [hn] at e;exact List.lt_irrefl _ (List.lt_trans hx e)),put_mid hn h2.2]
    rfl
theorem cr_from (z:List FilV) (r:List FilV):∀ (a:List FilV) (D:DskV) (k:Option Nat),D.fs=a++(r++z)→Rise D.fs→(crAll D k r).1.fs=a++(cutK k r++z):=by
  induction r with
  | nil=>intro a D k h _;rw [show crAll D k []=(D,k) from rfl,h];rfl
  | cons f r ih =>
    intro a D k h hr
    rw [crAll_cons]
    have e1:putF (cutF k f) D.fs=a++cutF k f::(r++z):=by rw [h] at hr ⊢; exact put_mid (f:=f) (g:=cutF k f) rfl hr
    have h2:=ih (a++[cutF k f]) (crStep (D,k) f).1 (crStep (D,k) f).2 (by
      show putF (cutF k f) D.fs=_
      rw [e1];simp) (by show Rise (putF (cutF k f) D.fs);exact put_rise hr)
    rw [h2]
    show _=a++(cutF k f::cutK (leftN k f) r++z)
    simp [crStep]
theorem cr_fs (D:DskV) (k:Option Nat) (hr:Rise D.fs):(crAll D k D.fs).1.fs=cutK k D.fs:=by
  have h:=cr_from [] D.fs [] D k (by simp) hr
  simpa using h
theorem cutK_nms:∀ (k:Option Nat) (l:List FilV),(cutK k l).map (fun f=>f.nm)=l.map (fun f=>f.nm)
  | _,[]=>rfl
  | k,f::r=>by
    show (cutF k f).nm::(cutK (leftN k f) r).map (fun f=>f.nm)=_
    rw [cutK_nms]
    rfl
theorem cr_nms {D:DskV} {k:Option Nat} {pre:List FilV} (hr:Rise D.fs) (h:pre <+: D.fs):(crAll D k pre).1.fs.map (fun f=>f.nm)=D.fs.map (fun f=>f.nm):=by
  obtain ⟨z,hz⟩:=h
  rw [cr_from z pre [] D k (by rw [← hz];rfl) hr, ← hz]
  simp [cutK_nms]
theorem dirM_nms {C:Bs→Nat} {l m:List FilV} (h:l.map (fun f=>f.nm)=m.map (fun f=>f.nm)) (q:Lit):dirM C l q=dirM C m q:=by
  cases q with
  | string x =>
    have one:∀ l:List FilV,(findF x l).map (fun f=>Value.pointer (some ⟨C f.nm,0,none⟩))=if x ∈ l.map (fun f=>f.nm) then some (Value.pointer (some ⟨C x,0,none⟩)) else none:=fun l=>by
      cases hf:findF x l with
      | none=>rw [if_neg (fun q=>by have:=find_some.2 q;rw [hf] at this;cases this)];rfl
      | some f=>rw [if_pos (find_some.1 (by rw [hf];rfl)), ← (find_nm hf).1];rfl
    show (findF x l).map _=(findF x m).map _
    rw [one l,one m,h]
  | _=>rfl
theorem cr_room (z:List FilV) (r:List FilV):∀ (a:List FilV) (D:DskV) (k:Option Nat),D.fs=a++(r++z)→Rise D.fs→(∀ f ∈ r,f.sy≤f.by_.length)→(crAll D k r).1.room+totF (crAll D k r).1.fs=D.room+totF D.fs:=by
  induction r with
  | nil=>intro a D k _ _ _;rfl
  | cons f r ih =>
    intro a D k h hr hs
    have e1:putF (cutF k f) D.fs=a++cutF k f::(r++z):=by rw [h] at hr ⊢; exact put_mid (f:=f) (g:=cutF k f) rfl hr
    rw [crAll_cons,ih (a++[cutF k f]) _ _ (by
      show putF (cutF k f) D.fs=_
      rw [e1];simp) (by show Rise (putF (cutF k f) D.fs);exact put_rise hr) (fun g hg=>hs g (List.mem_cons_of_mem _ hg))]
    show D.room+(f.by_.length - (f.sy+stayN k f))+totF (putF (cutF k f) D.fs)=_
    have h1:=stay_le k f
    have h2:=hs f (List.mem_cons_self ..)
    rw [e1,h]
    simp only [totF,List.map_append,List.map_cons,List.sum_append,List.sum_cons,cutF,List.length_take,List.cons_append]
    omega
end Go.Proofs.YticjodhkmidljaaGreatDoor
namespace Go.Proofs.YticjodhkmidljaaGreatDoor
open Go.RowKit Go.Shelf
attribute [local go_sem] Oper.semAt_some
theorem shorten_dsk {w w':World} {p b n:Nat} {C:Bs→Nat} {L:List Nat} {D:DskV} (h:DskAt w p b n C L D) {f:FilV} (hf:findF f.nm D.fs=some f) {m:Nat} (hm:m≤f.by_.length) (hs:f.sy≤m)
    (r1:w'.heap[p]?=some (.cells (dskC b { D with room:=D.room+(f.by_.length - m) }) 86 (0,0))) (r2:w'.heap[C f.nm]?=some (.cells (filC { f with by_:=f.by_.take m }) 93 (0,0))) (r3:∀ g,g≠p→g≠C f.nm→w'.heap[g]?=w.heap[g]?) :
    DskAt w' p b n C L { D with fs:=putF { f with by_:=f.by_.take m } D.fs,room:=D.room+(f.by_.length - m) }:=by
  refine h.upd (f':={ f with by_:=f.by_.take m }) hf rfl rfl r1 r2 (fun g _ a1 a2=>r3 g a1 a2) ?_ ?_ h.fz
  · show f.sy≤(f.by_.take m).length
    rw [List.length_take]
    omega
  · have h1:=put_old (f:={ f with by_:=f.by_.take m }) h.ris hf
    have h2:=h.sum
    have h3:=h1.1
    simp only [List.length_take] at h3
    show D.room+(f.by_.length - m)+totF (putF { f with by_:=f.by_.take m } D.fs)≤_
    omega
theorem Turns.grown {L:List Nat} {w y y':World} {row:Option Nat} (h:Turns L w y) (hg:y.grownBy y' row) (hr:∀ r,row=some r→w.heap.size≤r):Turns L w y' :=
  ⟨hg.os.trans h.os,hg.tape.trans h.tape,hg.output.trans h.out,Nat.le_trans h.size hg.size,fun g hl hn=>(hg.block g (Nat.lt_of_lt_of_le hl h.size) (fun e=>by have:=hr g e.symm;omega)).trans (h.block g hl hn)⟩
def leftI (keep:Int):Option Nat→Int
  | none=>keep
  | some x=>(x:Int)
theorem leftI0 {D:DskV} (keep:Int):leftI keep (crAll D (keepN keep) []).2=keep:=by
  show leftI keep (keepN keep)=keep
  unfold keepN
  split
  · rfl
  · simp only [leftI];omega
theorem cr_left (l:List FilV):∀ (D:DskV) (k:Option Nat),(k=none→(crAll D k l).2=none)∧∀ x,k=some x→∃ m,m≤x∧(crAll D k l).2=some m:=by
  induction l with
  | nil=>intro D k;exact ⟨fun h=>h,fun x h=>⟨x,Nat.le_refl _,h⟩⟩
  | cons f r ih =>
    intro D k
    rw [crAll_cons]
    obtain ⟨h1,h2⟩:=ih (crStep (D,k) f).1 (crStep (D,k) f).2
    refine ⟨fun h=>h1 (by subst h;rfl),fun x h=>?_⟩
    subst h
    obtain ⟨m,h3,h4⟩:=h2 (x - stayN (some x) f) rfl
    exact ⟨m,by omega,h4⟩
/-- Crash, between its rounds. -/
structure CrI (p b n:Nat) (C:Bs→Nat) (L:List Nat) (D:DskV) (k:Option Nat) (keep:Int) (g0 g1:Nat) (w:World) (pre:List FilV) (y:World):Prop where
  dsk:DskAt y p b n C L (crAll D k pre).1
  lft:y.heap[w.heap.size]?=some (.cells #[.int .i64 (leftI keep (crAll D k pre).2)] 3 (0,0))
  kp:y.heap[g0]?=some (.cells #[.int .i64 keep] 3 (0,0))
  dp:y.heap[g1]?=some (.cells #[.pointer (some ⟨p,0,none⟩)] 46 (0,0))
  srt:y.heap[w.heap.size+1]?=some (.cells #[.pointer (some ⟨p,0,none⟩)] 46 (0,0))
  tur:Turns L w y
  pr:pre <+: D.fs
theorem CrI.turn {p b n:Nat} {C:Bs→Nat} {L:List Nat} {D:DskV} {k:Option Nat} {keep:Int} {g0 g1:Nat} {w w2:World} {pre:List FilV} {y:World} (h:CrI p b n C L D k keep g0 g1 w pre y) (hL:(∀ g ∈ L,g<w.heap.size)∧g0<w.heap.size∧g1<w.heap.size) (hw:w.heap.size+2≤w2.heap.size) {Y:Nat→Prop} (hY:NewY Y w2) {y':World} {row:Option Nat} (hg:y.grownBy y' row) (hr:∀ r,row=some r→Y r):CrI p b n C L D k keep g0 g1 w pre y':=by
  have hz:∀ r,row=some r→w.heap.size+2≤r:=fun r e=>Nat.le_trans hw (hY r (hr r e))
  have up:∀ {q:Nat} {o:Obj},q<w.heap.size+2→y.heap[q]?=some o→y'.heap[q]?=some o:=fun {q o} hq h=>(hg.block _ (Array.getElem?_eq_some_iff.1 h).1 (fun e=>by have:=hz _ e.symm;omega)).trans h
  have hs:=h.tur.size
  refine ⟨h.dsk.keep (fun g hgL=>hg.block g (by have:=hL.1 g hgL;omega) (fun e=>by have:=hz _ e.symm;have:=hL.1 g hgL;omega)),up (by omega) h.lft,up (by omega) h.kp,up (by omega) h.dp,up (by omega) h.srt,h.tur.grown hg (fun r e=>by have:=hz r e;omega),h.pr⟩
theorem CrI.step {p b n:Nat} {C:Bs→Nat} {L:List Nat} {D D':DskV} {k k':Option Nat} {keep:Int} {g0 g1:Nat} {w w2:World} {Y:Nat→Prop} {pre:List FilV} {f:FilV} {W wz v8 w5:World} {q:Nat}
    (h:CrI p b n C L D k keep g0 g1 w pre W) (hd:DskAt wz p b n C L D') (hff:findF f.nm D'.fs=some f) (hst:crAll D k (pre++[f])=crStep (D',k') f) (hSp:pre++[f] <+: D.fs)
    (hL:(∀ g ∈ L,g<w.heap.size)∧g0<w.heap.size∧g1<w.heap.size) (hgL:g0 ∉ L∧g1 ∉ L) (hw:w.heap.size+2≤w2.heap.size) (hY:NewY Y w2) (hz:ButOne w.heap.size W wz) (hlf:wz.heap[w.heap.size]?=some (.cells #[.int .i64 (leftI keep (leftN k' f))] 3 (0,0))) (hq:q=f.sy+stayN k' f) (hb8:Below wz.heap.size wz v8)
    (r1:w5.heap[p]?=some (.cells (dskC b { D' with room:=D'.room+(f.by_.length - q) }) 86 (0,0))) (r2:w5.heap[C f.nm]?=some (.cells (filC { f with by_:=f.by_.take q }) 93 (0,0))) (r3:∀ g,g≠p→g≠C f.nm→w5.heap[g]?=v8.heap[g]?) (r4:Turns L v8 w5) :
    KeptZ Y W w5∧CrI p b n C L D k keep g0 g1 w (pre++[f]) w5:=by
  have hst1:=stay_le k' f
  have hsy:=hd.syn f (find_nm hff).2
  have hcl:=hd.cl f (find_nm hff).2
  have hs:=h.tur.size
  have hpL:=hd.pb.1
  have hps:=hL.1 p hpL
  have hcs:=hL.1 _ hcl.1
  have kp:∀ {g:Nat},g<W.heap.size→g≠w.heap.size→g ∉ L→w5.heap[g]?=W.heap[g]?:=fun {g} hl hn hnL =>
    (r4.block g (Nat.lt_of_lt_of_le (Nat.lt_of_lt_of_le hl hz.size) hb8.size) hnL).trans ((hb8.block g (Nat.lt_of_lt_of_le hl hz.size)).trans (hz.block g hl hn))
  have ll:∀ {q:Nat} {o:Obj},W.heap[q]?=some o→q<W.heap.size:=fun h=>(Array.getElem?_eq_some_iff.1 h).1
  have hnl:∀ g,w.heap.size≤g→g ∉ L:=fun g hg hn=>by have:=hL.1 g hn;omega
  refine ⟨fun r o hr ho=>(kp (ll ho) (by have:=hY r hr;omega) (hnl r (by have:=hY r hr;omega))).trans ho,⟨?_,?_,(kp (ll h.kp) (by omega) hgL.1).trans h.kp,(kp (ll h.dp) (by omega) hgL.2).trans h.dp,(kp (ll h.srt) (by omega) (hnl _ (by omega))).trans h.srt,?_,hSp⟩⟩
  · rw [hst]
    subst hq
    exact shorten_dsk (m:=f.sy+stayN k' f) (hd.below hb8) hff (by omega) (by omega) r1 r2 r3
  · rw [hst]
    exact (r4.block _ (Nat.lt_of_lt_of_le (Array.getElem?_eq_some_iff.1 hlf).1 hb8.size) (hnl _ (Nat.le_refl _))).trans ((hb8.block _ (Array.getElem?_eq_some_iff.1 hlf).1).trans hlf)
  · exact ⟨r4.os.trans (hb8.os.trans (hz.os.trans h.tur.os)),r4.tape.trans (hb8.tape.trans (hz.tape.trans h.tur.tape)),r4.out.trans (hb8.output.trans (hz.output.trans h.tur.out)),Nat.le_trans hs (Nat.le_trans hz.size (Nat.le_trans hb8.size r4.size)),fun g hl hn=>(kp (Nat.lt_of_lt_of_le hl hs) (by omega) hn).trans (h.tur.block g hl hn)⟩
set_option maxRecDepth 100000 in
set_option maxHeartbeats 4000000 in
theorem crash1_in {p b n:Nat} {C:Bs→Nat} {L:List Nat} {D:DskV} (keep:Int) (k:Option Nat) (hk:keepN keep=k) (hk64:keep≤9223372036854775807) (hlen:D.fs.length≤1000000) (g0 g1:Nat) (w:World) (h:DskAt w p b n C L D) (hL:∀ g ∈ L,g<w.heap.size) (hg:g0 ∉ L∧g1 ∉ L)
    (h0:w.heap[g0]?=some (.cells #[.int .i64 keep] 3 (0,0))) (h1:w.heap[g1]?=some (.cells #[.pointer (some ⟨p,0,none⟩)] 46 (0,0))) :
    CallsIn Fence.wide 9 Tryz.prog 40 #[.pointer (some ⟨g0,0,none⟩),.pointer (some ⟨g1,0,none⟩)] w fun e w'=>e=.returned (.int .i64 0)∧DskAt w' p b n C L { (crAll D k D.fs).1 with fuse:=none,dead:=true }∧Turns L w w':=by
  have H:=Lib.hid h
  have HL:=Lib.hid (And.intro hL hg)
  have HB:=Lib.hid (And.intro h0 h1)
  have HK:=Lib.hid hk64
  have c0:=cell_of_row w g0 0 _ _ _ h0
  have l1:=(Array.getElem?_eq_some_iff.1 h1).1
  have b1:=(Below.refl _ w).alloc (Nat.le_refl _) (.cells #[.int .i64 keep] 3)
  have e1:(w.alloc (.cells #[.int .i64 keep] 3)).heap.size=w.heap.size+1:=World.size_alloc _ _
  have c1:(w.alloc (.cells #[.int .i64 keep] 3)).cell? ⟨g1,0,none⟩=some (.pointer (some ⟨p,0,none⟩)):=cell_of_row _ _ _ _ _ _ ((b1.block g1 l1).trans h1)
  have HB1:=Lib.hid (And.intro b1 e1)
  clear l1 b1 e1
  clear h hk64 hL hg h0 h1
  refine callsIn_of_wp_marks Tryz.func40 rfl trivial ?_ rfl
  simp only [Tryz.ntmps40,List.size_toArray,List.length_cons,List.length_nil,Nat.reduceAdd,Nat.reduceSub,Array.replicate_succ,Array.replicate_zero,List.push_toArray,List.append_toArray,List.nil_append,List.cons_append]
  gi_wp2_with (first
    | (refine ⟨trivial,?_⟩;refine (callsIn_wide.2 (sorted_any p _)).mono ?_;rintro e w2 ⟨rfl,hbx,hb2⟩;dsimp only)
    | gi_in)
  obtain ⟨b1,e1⟩:=HB1.out
  rw [e1] at hbx hb2 ⊢
  have r1:=(hb2.block w.heap.size (by omega)).trans (heap_alloc_new w (.cells #[.int .i64 keep] 3))
  have bA:=b1.trans (hb2.mono (by omega))
  have hz2:w.heap.size+2≤w2.heap.size:=(Array.getElem?_eq_some_iff.1 hbx).1
  have hgl:(∀ g ∈ L,g<w.heap.size)∧g0<w.heap.size∧g1<w.heap.size:=⟨HL.out.1,(Array.getElem?_eq_some_iff.1 HB.out.1).1,(Array.getElem?_eq_some_iff.1 HB.out.2).1⟩
  have hD2:=H.out.below bA
  have HI0:=Lib.hid (show CrI p b n C L D k keep g0 g1 w [] w2 from ⟨hD2,by rw [r1, ← hk,leftI0 keep],(bA.block _ hgl.2.1).trans HB.out.1,(bA.block _ hgl.2.2).trans HB.out.2,hbx,Turns.of bA,List.nil_prefix⟩)
  have HZ:=Lib.hid (And.intro hz2 hgl)
  have HKK:=Lib.hid hk
  clear b1 r1 hb2 e1 bA hgl hk c0 c1
  refine wpIn_rangeY rfl (by decide) (gf:=74) (lb:=#[.pointer (some ⟨w.heap.size+1,0,none⟩)]) rfl trivial (enters_of Tryz.func74 (by kernel_rfl) rfl)
    (sorted_stops _ (w.heap.size+1) p b n C L D hlen w2 hD2 hbx) (Below.refl _ _) (fun _=>rfl)
    (fun Y pre W'=>CrI p b n C L D k keep g0 g1 w pre W') (fun _ _ _ _=>False)
    (fun Y hY s A B row hs hg hr=>hs.turn HZ.out.2 HZ.out.1 hY hg hr) (fun _ _ _ _ _ _ _ h _ _=>h) (fun Y pre W' hI=>?hRd) (fun Y _=>HI0.out)
    (fun f=>{ tmps:=#[.pointer (some ⟨g0,0,none⟩),.pointer (some ⟨g1,0,none⟩),.int .i64 0,.pointer (some ⟨w.heap.size,0,none⟩),undef,.pointer (some ⟨C f.nm,0,none⟩),undef,.int .i64 keep,.pointer (some ⟨p,0,none⟩),.func (.func 74) #[] #[.pointer (some ⟨w.heap.size+1,0,none⟩)],.string ⟨f.nm.toArray⟩,.pointer (some ⟨C f.nm,0,none⟩),undef,undef,undef,undef,undef,undef,undef,undef,undef,undef,undef,undef,undef,undef,undef,undef,undef,undef,undef,undef,undef,undef,undef,undef,undef,undef,undef,undef,undef],defers:=[] }) ?assign ?body ?done ?stop
  case hRd =>
    exact ⟨hI.srt,hI.dsk.cells.1,hI.dsk.m.congr (fun q _=>dirM_nms (cr_nms H.out.ris hI.pr) q) (by have h:=congrArg List.length (cr_nms (k:=k) H.out.ris hI.pr);simpa using h)⟩
  case assign =>
    intro l' f W' K hK
    simp only [encF]
    gi_wp2
    exact hK
  case stop =>
    intro Y c pre W hY hYw hSp hx
    exact hx.elim
  case done =>
    rintro Y ys W hY hYw rfl hI hK
    have c1:W.cell? ⟨g1,0,none⟩=some (.pointer (some ⟨p,0,none⟩)):=cell_of_row _ _ _ _ _ _ hI.dp
    have HOFF:=Lib.hid (off_any W hI.dsk)
    have HI:=Lib.hid hI
    clear hI
    gi_wp2_with (first
      | (refine ⟨trivial,?_⟩;refine (callsIn_wide.2 HOFF.out).mono ?_;rintro e w5 ⟨⟨v,rfl⟩,q1,q2⟩;dsimp only)
      | gi_in)
    have hnl:w2.heap.size ∉ L:=fun hn=>by have:=HL.out.1 _ hn;have:=HZ.out.1;omega
    have hK5:=(q2.block _ (Array.getElem?_eq_some_iff.1 hK).1 hnl).trans hK
    refine ⟨by simp,.inl ⟨_,_,rfl,run_takeDeferred hK5,?_⟩⟩
    refine ⟨.int .i64 0,by simp [results,Tryz.results40,go_sem],rfl,q1.keep (fun g hg=>World.putObj_heap_other (fun e=>hnl (by first | (rw [← e];exact hg) | (rw [e];exact hg)))),(HI.out.tur.trans q2).grown (grownBy_putObj' _ _ _) (fun r e=>by cases e;have:=HZ.out.1;omega)⟩
  case body =>
    rintro l' Y pre f W hY hYl hI hSp
    have hd:=hI.dsk
    obtain ⟨D',hD'⟩:∃ D',D'=(crAll D k pre).1:=⟨_,rfl⟩
    obtain ⟨k',hk'⟩:∃ k',k'=(crAll D k pre).2:=⟨_,rfl⟩
    have hkp:(keep<0∧k'=none)∨(0≤keep∧∃ m,k'=some m∧m≤9223372036854775807):=by
      have h1:=cr_left pre D k
      rw [← hk'] at h1
      have h2:=HKK.out
      unfold keepN at h2
      split at h2
      · next h=>exact .inl ⟨h,h1.1 h2.symm⟩
      · next h =>
        obtain ⟨m,h3,h4⟩:=h1.2 _ h2.symm
        exact .inr ⟨by omega,m,h4,by have:=HK.out;omega⟩
    have hff:findF f.nm D'.fs=some f:=by rw [hD'];exact cr_next H.out.ris hSp
    have hst:=crAll_snoc D k pre f
    rw [show crAll D k pre=(D',k') by rw [hD',hk']] at hst
    have hlf:=hI.lft
    rw [← hD'] at hd
    rw [← hk'] at hlf
    have hfc:=hd.c f (find_nm hff).2
    have hsy:=hd.syn f (find_nm hff).2
    have hcap:=hd.sum
    have htot:=(put_old (f:=f) hd.ris hff).1
    have hlt:f.by_.length≤4194304:=by
      have h1:=put_old (f:={ f with by_:=[] }) hd.ris hff
      have h2:=h1.1
      simp at h2
      omega
    have HSH:=Lib.hid (fun (q:Nat) (hq:q≤f.by_.length) (y:World) (hy:Below W.heap.size W y)=>shorten_any f hff q hq (.inr trivial) y (hd.below hy))
    have HC:=Lib.hid (fun (y:World) (hy:Below W.heap.size W y)=>(show y.cell? ⟨g0,0,none⟩=some (.int .i64 keep)∧y.cell? ⟨g1,0,none⟩=some (.pointer (some ⟨p,0,none⟩))∧y.cell? ⟨w.heap.size,0,none⟩=some (.int .i64 (leftI keep k'))∧y.cell? ⟨C f.nm,0,none⟩=some (.string ⟨f.by_.toArray⟩)∧y.cell? ⟨C f.nm,1,none⟩=some (.int .i64 (f.sy:Int)) from
      ⟨cell_of_row _ _ _ _ _ _ ((hy.block _ (Array.getElem?_eq_some_iff.1 hI.kp).1).trans hI.kp),cell_of_row _ _ _ _ _ _ ((hy.block _ (Array.getElem?_eq_some_iff.1 hI.dp).1).trans hI.dp),cell_of_row _ _ _ _ _ _ ((hy.block _ (Array.getElem?_eq_some_iff.1 hlf).1).trans hlf),cell_of_row _ _ _ _ _ _ ((hy.block _ (Array.getElem?_eq_some_iff.1 hfc).1).trans hfc),cell_of_row _ _ _ _ _ _ ((hy.block _ (Array.getElem?_eq_some_iff.1 hfc).1).trans hfc)⟩))
    have hz:(⟨f.by_.toArray⟩:ByteArray).size=f.by_.length:=by simp [ByteArray.size]
    obtain ⟨x,hx⟩:∃ x:ByteArray,x=⟨f.by_.toArray⟩:=⟨_,rfl⟩
    rw [← hx] at hz HC
    have HI:=Lib.hid (And.intro hI (And.intro hd (And.intro hff (And.intro hst hlf))))
    have HS:=Lib.hid (And.intro hsy (And.intro hlt hz))
    have HP:=Lib.hid (And.intro hY (And.intro hYl hSp))
    obtain ⟨c,hc⟩:∃ c,c=C f.nm:=⟨_,rfl⟩
    rw [← hc] at HC HSH ⊢
    have HCC:=Lib.hid hc
    obtain ⟨st,hs0⟩:∃ st,st=x.size - f.sy:=⟨_,rfl⟩
    have xw1:IntKind.i64.wrap ((x.size:Int) - (f.sy:Int))=(st:Int):=by rw [IntWalk.i64_in _ (by omega)];omega
    have HST:=Lib.hid hs0
    clear hd hD' hk' hff hst hlf hfc hsy hcap htot hlt hz hx hI hY hYl hSp hc hs0
    refine wpIn_block ?_
    refine wpIn_seq_k ?_
    intro QQ hQQ
    refine RegK.wpIn_region_can (F:=(Fence.wide.inRound l')) (KeptW W) [(0,0),(1,0),(2,0),(3,0),(4,0),(5,0),(6,0),(7,0),(8,0),(9,0),(10,0)] (by kernel_rfl) (by kernel_rfl) (by kernel_rfl) (fun _ _ d _ _ h=>by cases d <;> exact h) ⟨rfl,rfl,rfl,Nat.le_refl _,fun _ _=>rfl⟩ ?_
    dsimp only [RegK.pick,List.getElem?_cons_zero,List.getElem?_cons_succ]
    change RegK.Can _ _ _ _ _ _ _ _ W.drew
    have hkd:KeptW W W.drew:=⟨rfl,rfl,rfl,Nat.le_refl _,fun _ _=>rfl⟩
    generalize W.drew=v1 at *
    iterate 3 (refine RegK.can_reads ?_;intro K hK;go_simp;(first | refine ⟨_,fun _ _=>rfl,hK _ ?_⟩ | refine hK _ ?_);clear hK K)
    refine RegK.can_reads ?_
    intro K hK
    go_simp
    refine ⟨.string x,fun y hy=>?_,hK _ ?_⟩
    · obtain ⟨c1,c2,c3,c4,c5⟩:=HC.out y (KeptW.bel hy)
      go_simp
    clear hK K
    iterate 4 (refine RegK.can_reads ?_;intro K hK;go_simp;(first | refine ⟨_,fun _ _=>rfl,hK _ ?_⟩ | refine hK _ ?_);clear hK K)
    refine RegK.can_reads ?_
    intro K hK
    go_simp
    refine ⟨.int .i64 (f.sy:Int),fun y hy=>?_,hK _ ?_⟩
    · obtain ⟨c1,c2,c3,c4,c5⟩:=HC.out y (KeptW.bel hy)
      go_simp
    clear hK K
    iterate 2 (refine RegK.can_reads ?_;intro K hK;go_simp;(first | refine ⟨_,fun _ _=>rfl,hK _ ?_⟩ | refine hK _ ?_);clear hK K)
    refine RegK.can_nil ?_
    refine hQQ _ _ ?_
    clear hQQ QQ
    obtain ⟨c1,c2,c3,c4,c5⟩:=HC.out v1 (KeptW.bel hkd)
    have hkw:=KeptW.bel hkd
    have HK1:=Lib.hid hkw
    clear hkd hkw
    rcases hkp with ⟨hk0,rfl⟩ | ⟨hk0,m,rfl,hm⟩
    · have hq0:decide ((0:Int)≤keep)=false:=decide_eq_false (by omega)
      clear hk0
      gi_wp2
      have HW:=Lib.hid (show ButOne w.heap.size W v1∧v1.heap[w.heap.size]?=some (.cells #[.int .i64 (leftI keep (leftN none f))] 3 (0,0))∧st=stayN none f from ⟨⟨HK1.out.os,HK1.out.tape,HK1.out.output,HK1.out.size,fun k hk _=>HK1.out.block k hk⟩,(HK1.out.block _ (Array.getElem?_eq_some_iff.1 HI.out.2.2.2.2).1).trans HI.out.2.2.2.2,by rw [HST.out,HS.out.2.2];rfl⟩)
      clear c1 c2 c3 c4 c5
      generalize v1=wz at *
      obtain ⟨s2,hs2⟩:∃ s2,s2=st:=⟨_,rfl⟩
      rw [← hs2] at HW ⊢
      have hsle:f.sy+s2≤f.by_.length:=by have:=HST.out;have:=HS.out;omega
      have hdz:DskAt wz p b n C L D':=HI.out.2.1.keep (fun g hg=>HW.out.1.block g (Nat.lt_of_lt_of_le (HL.out.1 g hg) HI.out.1.tur.size) (by have:=HL.out.1 g hg;omega))
      have HZ8:=Lib.hid hdz
      have HSH8:=Lib.hid (fun (y:World) (hy:Below wz.heap.size wz y)=>by have h:=shorten_any f HI.out.2.2.1 (f.sy+s2) hsle (.inr trivial) y (HZ8.out.below hy);rw [← HCC.out] at h;exact h)
      have HC8:=Lib.hid (fun (y:World) (hy:Below wz.heap.size wz y)=>(show y.cell? ⟨g1,0,none⟩=some (.pointer (some ⟨p,0,none⟩))∧y.cell? ⟨c,1,none⟩=some (.int .i64 (f.sy:Int)) from by
        have hfc:=HZ8.out.c f (find_nm HI.out.2.2.1).2
        rw [← HCC.out] at hfc
        have hdp:=(HW.out.1.block g1 (Nat.lt_of_lt_of_le HZ.out.2.2.2 HI.out.1.tur.size) (by have:=HZ.out.2.2.2;omega)).trans HI.out.1.dp
        exact ⟨cell_of_row _ _ _ _ _ _ ((hy.block _ (Array.getElem?_eq_some_iff.1 hdp).1).trans hdp),cell_of_row _ _ _ _ _ _ ((hy.block _ (Array.getElem?_eq_some_iff.1 hfc).1).trans hfc)⟩))
      have xw2:IntKind.i64.wrap ((f.sy:Int)+(s2:Int))=(f.sy:Int)+(s2:Int):=IntWalk.i64_in _ (by have:=HS.out;omega)
      have xq:((f.sy+s2:Nat):Int)=(f.sy:Int)+(s2:Int):=Int.natCast_add _ _
      clear hdz hs2
      refine RegK.wpIn_region_can (F:=(Fence.wide.inRound l')) (KeptW wz) [(0,0),(1,0),(2,0),(3,0),(4,0),(5,0),(6,0),(7,0),(8,3)] (by kernel_rfl) (by kernel_rfl) (by kernel_rfl) (fun _ _ d _ _ h=>by cases d <;> exact h) ⟨rfl,rfl,rfl,Nat.le_refl _,fun _ _=>rfl⟩ ?_
      dsimp only [RegK.pick,List.getElem?_cons_zero,List.getElem?_cons_succ]
      change RegK.Can _ _ _ _ _ _ _ _ wz.drew
      have hkd:KeptW wz wz.drew:=⟨rfl,rfl,rfl,Nat.le_refl _,fun _ _=>rfl⟩
      generalize wz.drew=v8 at *
      refine RegK.can_reads ?_
      intro K hK
      go_simp
      refine ⟨.pointer (some ⟨p,0,none⟩),fun y hy=>?_,hK _ ?_⟩
      · obtain ⟨e1,e2⟩:=HC8.out y (KeptW.bel hy)
        go_simp
      clear hK K
      iterate 4 (refine RegK.can_reads ?_;intro K hK;go_simp;(first | refine ⟨_,fun _ _=>rfl,hK _ ?_⟩ | refine hK _ ?_);clear hK K)
      refine RegK.can_reads ?_
      intro K hK
      go_simp
      refine ⟨.int .i64 (f.sy:Int),fun y hy=>?_,hK _ ?_⟩
      · obtain ⟨e1,e2⟩:=HC8.out y (KeptW.bel hy)
        go_simp
      clear hK K
      iterate 2 (refine RegK.can_reads ?_;intro K hK;go_simp;(first | refine ⟨_,fun _ _=>rfl,hK _ ?_⟩ | refine hK _ ?_);clear hK K)
      refine RegK.can_frees (fun _=>trivial) ?_
      intro K K0 hK hK0
      go_simp
      refine ⟨trivial,?_⟩
      have hcall:=HSH8.out v8 (KeptW.bel hkd)
      rw [xq] at hcall
      refine (calls_rnd hcall).mono ?_
      rintro e w5 ⟨⟨vv,rfl⟩,r1,r2,r3,r4⟩
      refine hK (fun _=>True) _ _ trivial ?_
      clear hK K hK0 K0
      refine RegK.can_nil ?_
      exact HI.out.1.step HZ8.out HI.out.2.2.1 HI.out.2.2.2.1 HP.out.2.2 HZ.out.2 HL.out.2 HZ.out.1 HP.out.1 HW.out.1 HW.out.2.1 (congrArg (fun q=>f.sy+q) HW.out.2.2) (KeptW.bel hkd) r1 (by rw [← HCC.out];exact r2) (fun g a1 a2=>r3 g a1 (by rw [HCC.out];exact a2)) r4
    · have hq0:decide ((0:Int)≤keep)=true:=decide_eq_true hk0
      clear hk0
      have t3:=thaw0 0 ((HK1.out.block _ (Array.getElem?_eq_some_iff.1 HI.out.2.2.2.2).1).trans HI.out.2.2.2.2)
      have c3':v1.cell? ⟨w.heap.size,0,none⟩=some (.int .i64 (m:Int)):=c3
      clear c3
      gi_wp2
      obtain ⟨s2,hs2⟩:∃ s2,s2=min st m:=⟨_,rfl⟩
      have hm1:(min (st:Int) (m:Int))=(s2:Int):=by omega
      have hm2:(m:Int) - (s2:Int)=((m - s2:Nat):Int):=by omega
      rw [hm1,hm2]
      have HW:=Lib.hid (show ButOne w.heap.size W (v1.setCell ⟨w.heap.size,0,none⟩ (.int .i64 ((m - s2:Nat):Int)))∧(v1.setCell ⟨w.heap.size,0,none⟩ (.int .i64 ((m - s2:Nat):Int))).heap[w.heap.size]?=some (.cells #[.int .i64 (leftI keep (leftN (some m) f))] 3 (0,0))∧s2=stayN (some m) f from by
        have hsn:s2=stayN (some m) f:=by rw [hs2,HST.out,HS.out.2.2];rfl
        refine ⟨ButOne.st ⟨HK1.out.os,HK1.out.tape,HK1.out.output,HK1.out.size,fun k hk _=>HK1.out.block k hk⟩,?_,hsn⟩
        rw [show leftI keep (leftN (some m) f)=((m - s2:Nat):Int) by rw [hsn];rfl]
        exact heap_setCell_same v1 w.heap.size 0 #[.int .i64 (m:Int)] _ _ ((HK1.out.block _ (Array.getElem?_eq_some_iff.1 HI.out.2.2.2.2).1).trans HI.out.2.2.2.2))
      have hsle:f.sy+s2≤f.by_.length:=by have:=HST.out;have:=HS.out;omega
      clear c1 c2 c3' c4 c5 t3
      generalize v1.setCell ⟨w.heap.size,0,none⟩ (.int .i64 ((m - s2:Nat):Int))=wz at *
      have hdz:DskAt wz p b n C L D':=HI.out.2.1.keep (fun g hg=>HW.out.1.block g (Nat.lt_of_lt_of_le (HL.out.1 g hg) HI.out.1.tur.size) (by have:=HL.out.1 g hg;omega))
      have HZ8:=Lib.hid hdz
      have HSH8:=Lib.hid (fun (y:World) (hy:Below wz.heap.size wz y)=>by have h:=shorten_any f HI.out.2.2.1 (f.sy+s2) hsle (.inr trivial) y (HZ8.out.below hy);rw [← HCC.out] at h;exact h)
      have HC8:=Lib.hid (fun (y:World) (hy:Below wz.heap.size wz y)=>(show y.cell? ⟨g1,0,none⟩=some (.pointer (some ⟨p,0,none⟩))∧y.cell? ⟨c,1,none⟩=some (.int .i64 (f.sy:Int)) from by
        have hfc:=HZ8.out.c f (find_nm HI.out.2.2.1).2
        rw [← HCC.out] at hfc
        have hdp:=(HW.out.1.block g1 (Nat.lt_of_lt_of_le HZ.out.2.2.2 HI.out.1.tur.size) (by have:=HZ.out.2.2.2;omega)).trans HI.out.1.dp
        exact ⟨cell_of_row _ _ _ _ _ _ ((hy.block _ (Array.getElem?_eq_some_iff.1 hdp).1).trans hdp),cell_of_row _ _ _ _ _ _ ((hy.block _ (Array.getElem?_eq_some_iff.1 hfc).1).trans hfc)⟩))
      have xw2:IntKind.i64.wrap ((f.sy:Int)+(s2:Int))=(f.sy:Int)+(s2:Int):=IntWalk.i64_in _ (by have:=HS.out;omega)
      have xq:((f.sy+s2:Nat):Int)=(f.sy:Int)+(s2:Int):=Int.natCast_add _ _
      clear hdz hs2
      refine RegK.wpIn_region_can (F:=(Fence.wide.inRound l')) (KeptW wz) [(0,0),(1,0),(2,0),(3,0),(4,0),(5,0),(6,0),(7,0),(8,3)] (by kernel_rfl) (by kernel_rfl) (by kernel_rfl) (fun _ _ d _ _ h=>by cases d <;> exact h) ⟨rfl,rfl,rfl,Nat.le_refl _,fun _ _=>rfl⟩ ?_
      dsimp only [RegK.pick,List.getElem?_cons_zero,List.getElem?_cons_succ]
      change RegK.Can _ _ _ _ _ _ _ _ wz.drew
      have hkd:KeptW wz wz.drew:=⟨rfl,rfl,rfl,Nat.le_refl _,fun _ _=>rfl⟩
      generalize wz.drew=v8 at *
      refine RegK.can_reads ?_
      intro K hK
      go_simp
      refine ⟨.pointer (some ⟨p,0,none⟩),fun y hy=>?_,hK _ ?_⟩
      · obtain ⟨e1,e2⟩:=HC8.out y (KeptW.bel hy)
        go_simp
      clear hK K
      iterate 4 (refine RegK.can_reads ?_;intro K hK;go_simp;(first | refine ⟨_,fun _ _=>rfl,hK _ ?_⟩ | refine hK _ ?_);clear hK K)
      refine RegK.can_reads ?_
      intro K hK
      go_simp
      refine ⟨.int .i64 (f.sy:Int),fun y hy=>?_,hK _ ?_⟩
      · obtain ⟨e1,e2⟩:=HC8.out y (KeptW.bel hy)
        go_simp
      clear hK K
      iterate 2 (refine RegK.can_reads ?_;intro K hK;go_simp;(first | refine ⟨_,fun _ _=>rfl,hK _ ?_⟩ | refine hK _ ?_);clear hK K)
      refine RegK.can_frees (fun _=>trivial) ?_
      intro K K0 hK hK0
      go_simp
      refine ⟨trivial,?_⟩
      have hcall:=HSH8.out v8 (KeptW.bel hkd)
      rw [xq] at hcall
      refine (calls_rnd hcall).mono ?_
      rintro e w5 ⟨⟨vv,rfl⟩,r1,r2,r3,r4⟩
      refine hK (fun _=>True) _ _ trivial ?_
      clear hK K hK0 K0
      refine RegK.can_nil ?_
      exact HI.out.1.step HZ8.out HI.out.2.2.1 HI.out.2.2.2.1 HP.out.2.2 HZ.out.2 HL.out.2 HZ.out.1 HP.out.1 HW.out.1 HW.out.2.1 (congrArg (fun q=>f.sy+q) HW.out.2.2) (KeptW.bel hkd) r1 (by rw [← HCC.out];exact r2) (fun g a1 a2=>r3 g a1 (by rw [HCC.out];exact a2)) r4
set_option maxRecDepth 100000 in
set_option maxHeartbeats 4000000 in
theorem crash_any {p b n:Nat} {C:Bs→Nat} {L:List Nat} {D:DskV} (m:Int) (hm:m≤9223372036854775807) (hlen:D.fs.length≤1000000) (w:World) (h:DskAt w p b n C L D) (hL:∀ g ∈ L,g<w.heap.size) :
    Calls Tryz.prog 21 #[.pointer (some ⟨p,0,none⟩),.int .i64 m] w fun e w'=>∃ k,e=.returned (.int .i64 k)∧DkR p b L (crashD D m) w k w':=by
  have H:=Lib.hid h
  have HLL:=Lib.hid hL
  clear h hL
  go_enter Tryz.func21,Tryz.ntmps21
  go_upto_region 1 with fail
  have hb3:=((Below.refl _ w).alloc (Nat.le_refl _) (.cells #[.pointer (some ⟨p,0,none⟩)] 46)).alloc (by simp) (.cells #[.int .i64 m] 3)
  have q2:((w.alloc (.cells #[.pointer (some ⟨p,0,none⟩)] 46)).alloc (.cells #[.int .i64 m] 3)).heap[w.heap.size+1]?=some (.cells #[.int .i64 m] 3 (0,0)):=by
    have h:=heap_alloc_new (w.alloc (.cells #[.pointer (some ⟨p,0,none⟩)] 46)) (.cells #[.int .i64 m] 3)
    simpa using h
  have q1:((w.alloc (.cells #[.pointer (some ⟨p,0,none⟩)] 46)).alloc (.cells #[.int .i64 m] 3)).heap[w.heap.size]?=some (.cells #[.pointer (some ⟨p,0,none⟩)] 46 (0,0)):=by
    rw [heap_alloc_old _ _ (by simp)]
    exact heap_alloc_new _ _
  generalize (w.alloc (.cells #[.pointer (some ⟨p,0,none⟩)] 46)).alloc (.cells #[.int .i64 m] 3)=w3 at *
  have c1:=cell_of_row w3 w.heap.size 0 _ _ _ q1
  have HB:=Lib.hid hb3
  have H3:=Lib.hid (H.out.below hb3)
  have HC:=Lib.hid (And.intro q1 q2)
  have HA:=Lib.hid (show Calls Tryz.prog 38 #[.pointer (some ⟨p,0,none⟩),.func (.func 40) #[] #[.pointer (some ⟨w.heap.size+1,0,none⟩),.pointer (some ⟨w.heap.size,0,none⟩)]] w3 fun e w'=>∃ k,e=.returned (.int .i64 k)∧DkR p b L (crashD D m) w k w' from by
    cases hd:D.dead with
    | true =>
      refine (powered_dead w3 H3.out hd _ _).mono ?_
      rintro e w' ⟨rfl,rfl⟩
      refine ⟨_,rfl,?_⟩
      have e2:crashD D m=(D,8):=by unfold crashD;rw [if_pos hd]
      rw [e2]
      exact DkR.same H.out HB.out 8
    | false =>
      refine powered_any w3 H3.out hd _ (enters_of Tryz.func40 (by kernel_rfl) rfl) _ ((callsIn_wide.1 (crash1_in m _ rfl hm hlen (w.heap.size+1) w.heap.size w3 H3.out (fun g hg=>Nat.lt_of_lt_of_le (HLL.out g hg) HB.out.size) ⟨fun q=>by have:=HLL.out _ q;omega,fun q=>by have:=HLL.out _ q;omega⟩ HC.out.2 HC.out.1)).mono ?_)
      rintro e w' ⟨rfl,k1,k2⟩
      refine ⟨0,rfl,?_⟩
      have e2:crashD D m=({ (crAll D (keepN m) D.fs).1 with fuse:=none,dead:=true },0):=by unfold crashD;rw [if_neg (by rw [hd];simp)]
      rw [e2]
      exact ⟨rfl,n,C,L,k1,(Turns.of HB.out).trans k2,fun g hg=>.inl hg⟩)
  clear hb3 q1 q2
  go_wp2_with (go_at_call 38;refine HA.out.mono ?_;rintro e w' ⟨k,rfl,hr⟩;have HR:=Lib.hid hr;clear hr)
  go_ret
  exact ⟨k,rfl,HR.out⟩
end Go.Proofs.YticjodhkmidljaaGreatDoor
