/- Log: read: the records of segments. Condition: as the theorem says. -/
import Derived.Test.YticjodhkmidljaaGreatDoorZKeepNil14
namespace Go.Proofs.YticjodhkmidljaaGreatDoor
open Go.RowKit Go.Shelf
theorem wpList_append_rd {P:Program} {w:World} {ops:Array Oper} {rest:List Oper} {o:Oper} {a:Act} {Q:Exit→Act→World→Prop} (hgd:o.guard=none) (s x:Operand) (t:TypeId)
    (ho:o.op=.call { callee:=.builtin .append,args:=#[s,x],argTypes:=#[t,t] })
    (base:Nat) (e:TypeId) (i:TypeInfo) (z:Value) (size bytes:Nat) (ht:P.underlying t=some (.slice e)) (hi:P.info? e=some i) (hz:i.zero=some z)
    (hsize:i.size=size) (hby:i.bytes=bytes) (hzs:z.cells.size=size) (hsz:0<size)
    (v:Value) (n:Nat) (xs:List Value) (hs:a.eval s=v) (hown:w.ownsRow base e size v n xs)
    (V:Value) (m:Nat) (news:List Value) (hx:a.eval x=V) (hl:news.length=m*size)
    (hV:(V=.slice none 0 0∧m=0)∨∃ ad c,V=.slice (some ad) m c∧∀ j u,news[j]?=some u→w.cell? (ad.add j)=some u) (h1:∀ u ∈ news,u.oneCell'=true)
    (h63:n+m≤maxLen) (hbytes:(n+m)*bytes≤140737488355328) (hbase:base≤w.heap.size)
    (h:∀ v' w',w'.ownsRow base e size v' (n+m) (xs++news)→w.grownBy w' v.ownBlock→(∀ q,v'.ownBlock=some q→v.ownBlock=some q∨w.heap.size≤q)→wpList P ops Q rest (a.put o.dst v') w') :
    wpList P ops Q (o::rest) a w:=by
  rcases hV with ⟨rfl,rfl⟩ | ⟨ad,c,rfl,hc⟩
  · have h0:news=[]:=List.length_eq_zero_iff.1 (by omega)
    subst h0
    exact wpList_append_own_none hgd s x t ho base e i size ht hi v n xs hs hown hx (h v w (by simpa using hown) ⟨rfl,rfl,rfl,Nat.le_refl _,fun _ _ _=>rfl⟩ (fun q hq=>.inl hq))
  · exact wpList_append_own_at w hgd s x t ho base e i z size bytes ht hi hz hsize hby hzs hsz v n xs hs hown ad m c news hx hl hc h1 h63 hbytes hbase (fun v' w' q1 q2 _ q4=>h v' w' q1 q2 (fun q hq=>by
      rcases q4 with q4 | q4
      · exact .inl (by rw [← q4];exact hq)
      · rw [q4] at hq;injection hq with hq;exact .inr (Nat.le_of_eq hq)))
theorem own_read {w:World} {base:Nat} {e:TypeId} {v:Value} {n:Nat} {xs:List Value} (h:w.ownsRow base e 1 v n xs):(v=.slice none 0 0∧n=0)∨∃ ad c,v=.slice (some ad) n c∧∀ j u,xs[j]?=some u→w.cell? (ad.add j)=some u:=by
  rcases h.2 with q | ⟨g,cap,cur,rfl,r⟩
  · exact .inl q
  · exact .inr ⟨_,_,rfl,h.cells (g:=g) rfl⟩
theorem splD_count (s:Bs):(splD s).1.length≤s.length:=by
  have key:∀ (n:Nat) (s:Bs),(splA n s).1.length≤s.length:=by
    intro n
    induction n with
    | zero=>intro s;exact Nat.zero_le _
    | succ n ih =>
      intro s
      rw [splA]
      split
      · exact Nat.zero_le _
      · split
        · exact Nat.zero_le _
        · next he =>
          have ha:=takeF_adv (s:=s) (by simpa using he)
          have h2:=ih (s.drop (takeF s).2.1)
          rw [List.length_drop] at h2
          show (_::_:List Bs).length≤_
          rw [List.length_cons]
          omega
  exact key _ s
/-- All texts' bytes. -/
def totS (all:List (Nat × FilV)):Nat:=(all.map (fun x=>x.2.by_.length)).sum
theorem recL_count:∀ all:List (Nat × FilV),(recL all).length≤totS all
  | []=>Nat.le_refl _
  | x::r=>by
    have h1:=recL_count r
    have h2:=splD_count x.2.by_
    unfold recL totS at h1 ⊢
    rw [List.flatMap_cons,List.length_append,List.map_cons,List.sum_cons]
    omega
theorem totS_mem {all:List (Nat × FilV)} {x:Nat × FilV} (h:x ∈ all):x.2.by_.length≤totS all:=by
  induction all with
  | nil=>cases h
  | cons y r ih =>
    unfold totS at ih ⊢
    rw [List.map_cons,List.sum_cons]
    rcases List.mem_cons.1 h with rfl | h
    · omega
    · have:=ih h;omega
theorem totS_take (all:List (Nat × FilV)) (i:Nat):totS (all.take i)≤totS all:=by
  have h2:totS (all.take i++all.drop i)=totS all:=by rw [List.take_append_drop]
  have h3:∀ a b:List (Nat × FilV),totS (a++b)=totS a+totS b:=fun a b=>by unfold totS;simp
  rw [h3] at h2
  omega
/-- A row of segments that can be read. -/
def SegR (B:Nat) (w:World) (v:Value) (all:List (Nat × FilV)):Prop:=∃ A c,v=.slice A all.length c∧∃ Y:Nat→Prop,(∀ r,Y r→B≤r∧r<w.heap.size)∧∀ i x,all[i]?=some x→∃ g,A=some ⟨g,0,none⟩∧∀ y,KeptZ Y w y →
  y.cell? ⟨g,i*4,none⟩=some (.int .i64 (x.1:Int))∧y.cell? ⟨g,i*4+1,none⟩=some (.string ⟨x.2.nm.toArray⟩)∧y.cell? ⟨g,i*4+2,none⟩=some (.string ⟨x.2.by_.toArray⟩)∧y.cell? ⟨g,i*4+3,none⟩=some (.int .i64 (x.2.sy:Int))
theorem seg_row {w:World} {base:Nat} {v:Value} {all:List (Nat × FilV)} (h:w.ownsRow base 114 4 v all.length (flat segE all)):SegR base w v all:=by
  rcases h.2 with ⟨rfl,h0⟩ | ⟨g,cap,cur,rfl,hb,hg,hc1,_,hcs,ht⟩
  · have hl:all=[]:=List.length_eq_zero_iff.1 h0
    subst hl
    exact ⟨none,0,rfl,fun _=>False,fun _ h=>h.elim,fun i x hx=>by simp at hx⟩
  · refine ⟨_,_,rfl,fun r=>r=g,fun r hr=>by subst hr;exact ⟨hb,(Array.getElem?_eq_some_iff.1 hg).1⟩,fun i f hf=>⟨g,rfl,fun y hy=>?_⟩⟩
    have hi:i<all.length:=(List.getElem?_eq_some_iff.1 hf).1
    have one:∀ r u,(segE f)[r]?=some u→r<4→y.cell? ⟨g,i*4+r,none⟩=some u:=fun r u hu hr=>by
      have e1:(cur.toList.take (all.length*4))[i*4+r]?=some u:=by
        rw [ht]
        exact flat_at segE_len all i r f u hf hu
      rw [List.getElem?_take,if_pos (by omega)] at e1
      unfold World.cell?
      rw [hy g _ rfl hg]
      show cur[i*4+r]?=_
      rw [← Array.getElem?_toList]
      exact e1
    exact ⟨one 0 _ rfl (by decide),one 1 _ rfl (by decide),one 2 _ rfl (by decide),one 3 _ rfl (by decide)⟩
theorem SegR.below {B:Nat} {w w':World} {v:Value} {all:List (Nat × FilV)} (h:SegR B w v all) (hb:Below w.heap.size w w'):SegR B w' v all:=by
  obtain ⟨A,c,rfl,Y,h1,h2⟩:=h
  refine ⟨A,c,rfl,Y,fun r hr=>⟨(h1 r hr).1,Nat.lt_of_lt_of_le (h1 r hr).2 hb.size⟩,fun i x hx=>?_⟩
  obtain ⟨g,e,h3⟩:=h2 i x hx
  exact ⟨g,e,fun y hy=>h3 y (fun r o hr ho=>hy r o hr ((hb.block r (h1 r hr).2).trans ho))⟩
/-- What read tells. -/
def ReadR (all:List (Nat × FilV)) (w:World) (e:Ending) (w':World):Prop :=
  Below w.heap.size w w'∧((Spoilt all∧e=.returned (.tuple #[.slice none 0 0,.int .i64 0,.bool false]))∨(¬ Spoilt all∧∃ v,e=.returned (.tuple #[v,.int .i64 (endL all:Int),.bool true])∧w'.ownsRow w.heap.size 9 1 v (recL all).length (encS (recL all))))
set_option maxRecDepth 100000 in
set_option maxHeartbeats 16000000 in
theorem read_all (all:List (Nat × FilV)) (htot:totS all≤8000000) (hsy:∀ x ∈ all,x.2.sy≤x.2.by_.length) (hnum:∀ x ∈ all,x.1≤4294967295) (hlen:all.length≤1000000) (B:Nat) (w:World) (v:Value) (hr:SegR B w v all) :
    Calls Tryz.prog 48 #[v] w (ReadR all w):=by
  obtain ⟨N,hN⟩:∃ N,N=all.length:=⟨_,rfl⟩
  obtain ⟨A,c,rfl,Y,hY1,hY2⟩:=hr
  rw [← hN]
  have HR:=Lib.hid (And.intro hY1 hY2)
  have HN:=Lib.hid hN
  have hN6:N≤1000000:=by omega
  have HS:=Lib.hid (And.intro htot (And.intro hsy hnum))
  obtain ⟨iS,hiS,hzS,hsS,hbS⟩:=info_parts infoStr
  have HiS:=Lib.hid (And.intro hiS (And.intro hzS (And.intro hsS hbS)))
  clear hY1 hY2 hN hlen htot hsy hnum hiS hzS hsS hbS
  go_enter Tryz.func48,Tryz.ntmps48
  go_wp2
  go_loopw [5,6,15] (fun s5 s6 s15 wr=>∃ i:Nat,s15=.int .i64 (i:Int)∧i≤N∧s6=.int .i64 (endL (all.take i):Int)∧wr.ownsRow w.heap.size 9 1 s5 (recL (all.take i)).length (encS (recL (all.take i)))∧Below w.heap.size w wr∧∀ j,j<i → ¬ segBad all j) (fun _ _ s15 _=>N - (intOf s15).toNat)
  case atStart=>exact ⟨0,rfl,Nat.zero_le _,rfl,World.ownsRow_nil _ _ _ _,Below.refl _ _,fun j hj=>by omega⟩
  case round =>
    obtain ⟨i,rfl,hi,rfl,ho,hb,hgood⟩:=hrel
    obtain ⟨A5,c5,rfl⟩:=own_slice_of ho
    have HO:=Lib.hid (And.intro ho (And.intro hb hgood))
    clear ho hb hgood
    obtain ⟨K,hK⟩:∃ K,K=(recL (all.take i)).length:=⟨_,rfl⟩
    obtain ⟨XS,hXS⟩:∃ XS,XS=encS (recL (all.take i)):=⟨_,rfl⟩
    obtain ⟨E6,hE6⟩:∃ E6,E6=endL (all.take i):=⟨_,rfl⟩
    rw [← hK, ← hE6]
    have HK:=Lib.hid (And.intro hK (And.intro hXS hE6))
    have HO2:=Lib.hid (by have h2:=HO.out.1;rw [← hK, ← hXS] at h2;exact h2)
    clear hK hXS hE6
    by_cases hiN:i<N
    · have hiI:(i:Int)<(N:Int):=by omega
      have hif:i<all.length:=by rw [← HN.out];exact hiN
      obtain ⟨x,hx⟩:∃ x,x=all[i]:=⟨_,rfl⟩
      have hxs:all[i]?=some x:=by rw [List.getElem?_eq_getElem hif,hx]
      have hxm:x ∈ all:=by rw [hx];exact List.getElem_mem hif
      have htake:all.take (i+1)=all.take i++[x]:=by rw [List.take_add_one,hxs];rfl
      obtain ⟨gk,rfl,hck⟩:=HR.out.2 i x hxs
      obtain ⟨q0,q1,q2,q3⟩:=hck wr (fun r o hr ho=>(HO.out.2.1.block r (HR.out.1 r hr).2).trans ho)
      have hby:=totS_mem hxm
      have hsyx:=HS.out.2.1 x hxm
      have htot:=HS.out.1
      obtain ⟨sy,hsy⟩:∃ sy,sy=x.2.sy:=⟨_,rfl⟩
      obtain ⟨bb,hbb⟩:∃ bb:ByteArray,bb=⟨x.2.by_.toArray⟩:=⟨_,rfl⟩
      have hbs:bb.size=x.2.by_.length:=by rw [hbb];simp [ByteArray.size]
      rw [← hbb] at q2
      rw [← hsy] at q3 hsyx
      have hsb:sy≤bb.size:=by omega
      obtain ⟨tb,htb⟩:∃ tb,tb=bb.extract 0 sy:=⟨_,rfl⟩
      have htl:tb=⟨(x.2.by_.take sy).toArray⟩:=by
        rw [htb,hbb]
        apply ByteArray.ext
        apply Array.toList_inj.1
        rw [ByteArray.data_extract,Array.toList_extract,List.extract_eq_take_drop]
        simp
      obtain ⟨R1,hR1⟩:∃ R,R=splD (x.2.by_.take sy):=⟨_,rfl⟩
      obtain ⟨R2,hR2⟩:∃ R,R=splD x.2.by_:=⟨_,rfl⟩
      have HSP1:=Lib.hid (show ∀ z:World,Calls Tryz.prog 84 #[.string tb] z fun e w'=>∃ v,e=.returned (.tuple #[v,.int .i64 (R1.2.1:Int),.int .i64 (R1.2.2:Int)])∧w'.ownsRow z.heap.size 9 1 v R1.1.length (encS R1.1)∧Below z.heap.size z w' from fun z=>by rw [htl,hR1];exact split_any _ (by rw [List.length_take];omega) z)
      have HSP2:=Lib.hid (show ∀ z:World,Calls Tryz.prog 84 #[.string bb] z fun e w'=>∃ v,e=.returned (.tuple #[v,.int .i64 (R2.2.1:Int),.int .i64 (R2.2.2:Int)])∧w'.ownsRow z.heap.size 9 1 v R2.1.length (encS R2.1)∧Below z.heap.size z w' from fun z=>by rw [hbb,hR2];exact split_any _ (by omega) z)
      have HTB:=Lib.hid htb
      have HX:=Lib.hid (And.intro hxs (And.intro htake (And.intro hR1 (And.intro hR2 (And.intro hsy hbs)))))
      have HXL:=Lib.hid (And.intro htot hby)
      have HB0:=Lib.hid (fun (o:Obj)=>HO.out.2.1.alloc HO.out.2.1.size o)
      have HPV:=Lib.hid (fun (y:World) (hy:Below w.heap.size w y) (k:Nat) (z:Nat × FilV) (hz:all[k]?=some z)=>(show y.cell? ⟨gk,k*4,none⟩=some (.int .i64 (z.1:Int)) from by
        obtain ⟨g2,e2,h2⟩:=HR.out.2 k z hz
        injection e2 with e2
        injection e2 with e2
        subst e2
        exact (h2 y (fun r o hr ho=>(hy.block r (HR.out.1 r hr).2).trans ho)).1))
      clear hif hx hxs hxm htake hck hby htot hsy hbb hbs htb htl hR1 hR2 hsyx
      go_upto_region 6 with fail
      have hr8:(wr.alloc (.cells #[.int .i64 (x.1:Int),.string ⟨x.2.nm.toArray⟩,.string bb,.int .i64 (sy:Int)] 114)).heap[wr.heap.size]?=some (.cells #[.int .i64 (x.1:Int),.string ⟨x.2.nm.toArray⟩,.string bb,.int .i64 (sy:Int)] 114 (0,0)):=heap_alloc_new _ _
      have hb8:=HB0.out (.cells #[.int .i64 (x.1:Int),.string ⟨x.2.nm.toArray⟩,.string bb,.int .i64 (sy:Int)] 114)
      have ho8:=World.ownsRow.alloc HO2.out (.cells #[.int .i64 (x.1:Int),.string ⟨x.2.nm.toArray⟩,.string bb,.int .i64 (sy:Int)] 114)
      have hg8:∀ q,(Value.slice A5 K c5).ownBlock=some q→q<wr.heap.size:=fun q hq=>(own_at HO2.out hq).2
      change Code.wp _ _ _ _ (wr.alloc (.cells #[.int .i64 (x.1:Int),.string ⟨x.2.nm.toArray⟩,.string bb,.int .i64 (sy:Int)] 114))
      generalize wr.alloc (.cells #[.int .i64 (x.1:Int),.string ⟨x.2.nm.toArray⟩,.string bb,.int .i64 (sy:Int)] 114)=W1 at *
      have hg9:w.heap.size≤wr.heap.size:=HO.out.2.1.size
      generalize wr.heap.size=g8 at *
      have H8:=Lib.hid (And.intro hr8 (And.intro hb8 (And.intro ho8 (And.intro hg8 hg9))))
      have d0:=cell_of_row _ _ 0 _ _ _ hr8
      rw [show (#[Value.int .i64 (x.1:Int),.string ⟨x.2.nm.toArray⟩,.string bb,.int .i64 (sy:Int)])[0]?=some (.int .i64 (x.1:Int)) from rfl] at d0
      clear q0 q1 q2 q3 hr8 hb8 ho8 hg8 hg9
      obtain ⟨bd,hbd⟩:∃ bd:Bool,bd=decide (0<i∧∀ y,all[i - 1]?=some y→x.1≠y.1+1):=⟨_,rfl⟩
      have HBD:=Lib.hid hbd
      clear hbd
      go_cut [33] (fun s33 wx=>s33=.bool bd∧Below W1.heap.size W1 wx)
      case first =>
        by_cases hi0:i=0
        · have g0 : ¬ (0<i):=by omega
          have HBF:=Lib.hid (show bd=false from by rw [HBD.out];exact decide_eq_false (fun q=>by omega))
          clear hi0 d0
          refine (wpIn_wide (n:=1)).1 ?_
          refine RegK.wpIn_region_can (F:=Fence.wide) (KeptW W1) [(0,0),(1,0),(2,0),(3,0),(4,0),(5,0),(6,0),(7,0),(8,0),(9,0),(10,0),(11,0),(12,0),(13,0)] (by kernel_rfl) (by kernel_rfl) (by kernel_rfl) (fun _ _ d _ _ h=>by cases d <;> exact h) ⟨rfl,rfl,rfl,Nat.le_refl _,fun _ _=>rfl⟩ ?_
          dsimp only [RegK.pick,List.getElem?_cons_zero,List.getElem?_cons_succ]
          change RegK.Can _ _ _ _ _ _ _ _ W1.drew
          have hkd:KeptW W1 W1.drew:=⟨rfl,rfl,rfl,Nat.le_refl _,fun _ _=>rfl⟩
          generalize W1.drew=v1 at *
          iterate 14 (refine RegK.can_reads ?_;intro K hK;go_simp;(first | refine ⟨_,fun _ _=>rfl,hK _ ?_⟩ | refine hK _ ?_);clear hK K)
          refine RegK.can_nil ?_
          go_wp2_with fail
          go_meet
          exact ⟨by rw [HBF.out],KeptW.bel hkd⟩
        · have g0:0<i:=by omega
          obtain ⟨j,hj⟩:∃ j,j=i - 1:=⟨_,rfl⟩
          have hjl:j<all.length:=by rw [← HN.out];omega
          obtain ⟨z9,hy⟩:∃ y,y=all[j]:=⟨_,rfl⟩
          have hys:all[j]?=some z9:=by rw [List.getElem?_eq_getElem hjl,hy]
          have p0:=HPV.out W1 H8.out.2.1 j z9 hys
          have hyn:=HS.out.2.2 z9 (by rw [hy];exact List.getElem_mem hjl)
          have w1':IntKind.i64.wrap ((i:Int) - 1)=(j:Int):=by rw [IntWalk.i64_in _ (by omega)];omega
          have w2':IntKind.i64.wrap ((z9.1:Int)+1)=(z9.1:Int)+1:=IntWalk.i64_in _ (by omega)
          have hjI:(j:Int)<(N:Int):=by omega
          have hj0:(0:Int)≤(j:Int):=by omega
          have hjn:j<N:=by omega
          have HBT:=Lib.hid (show bd=((x.1:Int) != (z9.1:Int)+1) from by
            rw [HBD.out, ← hj,hys]
            by_cases hq:x.1=z9.1+1
            · rw [decide_eq_false (fun q=>q.2 z9 rfl hq),hq]
              simp
            · rw [decide_eq_true ⟨by omega,fun z hz=>by cases hz;exact hq⟩]
              symm
              rw [bne_iff_ne]
              omega)
          have HD:=Lib.hid (fun (z:World) (hz:Below W1.heap.size W1 z)=>(show z.cell? ⟨g8,0,none⟩=some (.int .i64 (x.1:Int))∧z.cell? ⟨gk,j*4,none⟩=some (.int .i64 (z9.1:Int)) from ⟨cell_of_row _ _ 0 _ _ _ ((hz.block g8 (Array.getElem?_eq_some_iff.1 H8.out.1).1).trans H8.out.1),HPV.out z (H8.out.2.1.trans (hz.mono (H8.out.2.1).size)) j z9 hys⟩))
          clear hi0 hj hjl hy hys hyn d0 p0
          refine (wpIn_wide (n:=1)).1 ?_
          refine RegK.wpIn_region_can (F:=Fence.wide) (KeptW W1) [(0,0),(1,0),(2,0),(3,0),(4,0),(5,0),(6,0),(7,0),(8,0),(9,0),(10,0),(11,0),(12,0),(13,0)] (by kernel_rfl) (by kernel_rfl) (by kernel_rfl) (fun _ _ d _ _ h=>by cases d <;> exact h) ⟨rfl,rfl,rfl,Nat.le_refl _,fun _ _=>rfl⟩ ?_
          dsimp only [RegK.pick,List.getElem?_cons_zero,List.getElem?_cons_succ]
          change RegK.Can _ _ _ _ _ _ _ _ W1.drew
          have hkd:KeptW W1 W1.drew:=⟨rfl,rfl,rfl,Nat.le_refl _,fun _ _=>rfl⟩
          generalize W1.drew=v1 at *
          iterate 4 (refine RegK.can_reads ?_;intro K hK;go_simp;(first | refine ⟨_,fun _ _=>rfl,hK _ ?_⟩ | refine hK _ ?_);clear hK K)
          refine RegK.can_reads ?_
          intro K hK
          go_simp
          refine ⟨.int .i64 (x.1:Int),fun y hy=>?_,hK _ ?_⟩
          · have c0:=(HD.out y (KeptW.bel hy)).1
            go_simp
          clear hK K
          iterate 5 (refine RegK.can_reads ?_;intro K hK;go_simp;(first | refine ⟨_,fun _ _=>rfl,hK _ ?_⟩ | refine hK _ ?_);clear hK K)
          refine RegK.can_reads ?_
          intro K hK
          go_simp
          refine ⟨.int .i64 (z9.1:Int),fun y hy=>?_,hK _ ?_⟩
          · have c0:=(HD.out y (KeptW.bel hy)).2
            go_simp
          clear hK K
          iterate 3 (refine RegK.can_reads ?_;intro K hK;go_simp;(first | refine ⟨_,fun _ _=>rfl,hK _ ?_⟩ | refine hK _ ?_);clear hK K)
          refine RegK.can_nil ?_
          go_wp2_with fail
          go_meet
          exact ⟨by rw [HBT.out],KeptW.bel hkd⟩
      case rest =>
        obtain ⟨rfl,hb9⟩:=hcut
        have hb10:Below w.heap.size w wc:=H8.out.2.1.trans (hb9.mono H8.out.2.1.size)
        have ho10:=own_stay H8.out.2.2.1 (fun k hk hB hl=>hb9.block k hl)
        have hr10:=(hb9.block g8 (Array.getElem?_eq_some_iff.1 H8.out.1).1).trans H8.out.1
        have HC:=Lib.hid (And.intro hb10 (And.intro ho10 hr10))
        have HCC:=Lib.hid (fun (z:World) (hz:Below wc.heap.size wc z)=>(show z.cell? ⟨g8,2,none⟩=some (.string bb)∧z.cell? ⟨g8,3,none⟩=some (.int .i64 (sy:Int)) from ⟨cell_of_row _ _ 2 _ _ _ ((hz.block g8 (Array.getElem?_eq_some_iff.1 hr10).1).trans hr10),cell_of_row _ _ 3 _ _ _ ((hz.block g8 (Array.getElem?_eq_some_iff.1 hr10).1).trans hr10)⟩))
        clear hb9 hb10 ho10 hr10 d0
        cases bd
        case true =>
          go_wp2_with fail
          go_ret3
          exact ⟨HC.out.1,.inl ⟨⟨i,x,HX.out.1,.inl (of_decide_eq_true HBD.out.symm)⟩,rfl⟩⟩
        case false =>
          obtain ⟨d2,d3⟩:=HCC.out wc (Below.refl _ _)
          obtain ⟨M,hM⟩:∃ M,M=N - 1:=⟨_,rfl⟩
          have hwN:wrap64 ((N:Int) - 1)=(M:Int):=by unfold wrap64;omega
          have HM:=Lib.hid hM
          clear hM
          go_upto_region 9 with (rw [← HTB.out];go_at_call 84;(with_reducible refine (HSP1.out _).mono ?_);rintro e w3 ⟨v3,rfl,ho3,hb3⟩;have HB3:=Lib.hid hb3;clear ho3 hb3)
          clear d2 d3
          obtain ⟨d2,d3⟩:=HCC.out w3 HB3.out
          obtain ⟨c9,hc9⟩:∃ c9,c9=R1.2.2:=⟨_,rfl⟩
          rw [← hc9]
          obtain ⟨b9,hb9⟩:∃ b9:Bool,b9=decide (c9≠0∨(i+1<N∧sy<bb.size)):=⟨_,rfl⟩
          have HB9:=Lib.hid (And.intro hb9 hc9)
          clear hb9 hc9
          go_cut [64] (fun s64 wx=>s64=.bool b9∧wx=w3)
          case first =>
            by_cases hc:c9=0
            · have hc1:((c9:Int) != 0)=false:=by rw [hc];rfl
              have HC0:=Lib.hid hc
              clear hc
              by_cases hl:i+1<N
              · have hl1:i<M:=by rw [HM.out];omega
                have hl2:(i:Int)<(N:Int) - 1:=by omega
                by_cases hs:sy<bb.size
                · have HBV:=Lib.hid (show b9=true from by rw [HB9.out.1];exact decide_eq_true (.inr ⟨hl,hs⟩))
                  clear hl
                  go_wp2_with fail
                  go_meet
                  exact ⟨by rw [HBV.out],rfl⟩
                · have HBV:=Lib.hid (show b9=false from by rw [HB9.out.1];exact decide_eq_false (fun q=>q.elim (fun q=>q HC0.out) (fun q=>hs q.2)))
                  clear hl
                  go_wp2_with fail
                  go_meet
                  exact ⟨by rw [HBV.out],rfl⟩
              · have hl1 : ¬ (i<M):=by rw [HM.out];omega
                have hl2 : ¬ ((i:Int)<(N:Int) - 1):=by omega
                have HBV:=Lib.hid (show b9=false from by rw [HB9.out.1];exact decide_eq_false (fun q=>q.elim (fun q=>q HC0.out) (fun q=>hl q.1)))
                clear hl
                go_wp2_with fail
                go_meet
                exact ⟨by rw [HBV.out],rfl⟩
            · have hc1:((c9:Int) != 0)=true:=by rw [bne_iff_ne];omega
              have HBV:=Lib.hid (show b9=true from by rw [HB9.out.1];exact decide_eq_true (.inl hc))
              clear hc
              go_wp2_with fail
              go_meet
              exact ⟨by rw [HBV.out],rfl⟩
          case rest =>
            obtain ⟨rfl,rfl⟩:=hcut
            cases b9
            case true =>
              go_wp2_with fail
              go_ret3
              refine ⟨HC.out.1.trans (HB3.out.mono HC.out.1.size),.inl ⟨⟨i,x,HX.out.1,.inr ?_⟩,rfl⟩⟩
              have h9:=of_decide_eq_true HB9.out.1.symm
              rw [HB9.out.2,HX.out.2.2.1] at h9
              obtain ⟨_,_,_,_,hsy,hbs⟩:=HX.out
              rw [← hsy, ← hbs, ← HN.out]
              exact h9
            case false =>
              go_upto_region 13 with (go_at_call 84;(with_reducible refine (HSP2.out _).mono ?_);rintro e w4 ⟨v4,rfl,ho4,hb4⟩
                                      have ho3:=own_stay HC.out.2.1 (fun k hk hB hl=>(hb4.block k (Nat.lt_of_lt_of_le hl HB3.out.size)).trans (HB3.out.block k hl))
                                      have H4:=Lib.hid (And.intro ho3 (And.intro ho4 (And.intro (own_read ho4) (HC.out.1.trans ((HB3.out.mono HC.out.1.size).trans (hb4.mono (Nat.le_trans HC.out.1.size HB3.out.size)))))))
                                      obtain ⟨A4,c4,rfl⟩:=own_slice_of ho4
                                      clear ho3 ho4 hb4)
              have hcnt:K+R2.1.length≤8000000:=by
                have h1:=recL_count (all.take (i+1))
                have h2:=totS_take all (i+1)
                have h3:=HXL.out.1
                rw [HX.out.2.1,recL_snoc,List.length_append, ← HK.out.1, ← HX.out.2.2.2.1] at h1
                rw [HX.out.2.1] at h2
                omega
              have HCN:=Lib.hid hcnt
              have hw1:wrap64 ((i:Int)+1)=((i+1:Nat):Int):=by unfold wrap64;omega
              clear hcnt
              go_wp2_with (at_builtin;refine wpList_append_rd rfl _ _ 60 rfl w.heap.size 9 iS _ 1 16 Tryz.underlying60 HiS.out.1 HiS.out.2.1 HiS.out.2.2.1 HiS.out.2.2.2 rfl (by decide) _ K XS rfl H4.out.1 (.slice A4 R2.1.length c4) R2.1.length (encS R2.1) rfl (by simp [encS]) H4.out.2.2.1 (encS_one _) (by have:=HCN.out;unfold maxLen;omega) (by have:=HCN.out;omega) H4.out.2.2.2.size ?_;intro v5 w5 ho5 hg5 hq5;have H5:=Lib.hid (And.intro ho5 hg5);clear ho5 hg5 hq5)
              have htk:=HX.out.2.1
              refine ⟨⟨i+1,by rw [Int.natCast_add];rfl,by omega,?_,?_,?_,?_⟩,by simp only [intOf];omega⟩
              · rw [htk,endL_snoc, ← HX.out.2.2.2.1]
              · rw [htk,recL_snoc,List.length_append, ← HX.out.2.2.2.1, ← HK.out.1,show encS (recL (all.take i)++R2.1)=encS (recL (all.take i))++encS R2.1 by simp [encS], ← HK.out.2.1]
                exact H5.out.1
              · exact below_grown H5.out.2 H4.out.2.2.2 H4.out.2.2.2.size (fun k e=>(own_at H4.out.1 e).1)
              · intro j hj
                by_cases hji:j=i
                · subst hji
                  rintro ⟨z,hz,hbad⟩
                  rw [HX.out.1] at hz
                  injection hz with hz
                  subst hz
                  have hd:=of_decide_eq_false HBD.out.symm
                  have h9:=of_decide_eq_false HB9.out.1.symm
                  rw [HB9.out.2,HX.out.2.2.1] at h9
                  obtain ⟨_,_,_,_,hsy,hbs⟩:=HX.out
                  rw [← hsy, ← hbs, ← HN.out] at hbad
                  rcases hbad with q | q
                  · exact hd q
                  · exact h9 q
                · exact HO.out.2.2 j (by omega)
    · have hiI : ¬ (i:Int)<(N:Int):=by omega
      obtain rfl:i=N:=by omega
      have htk:all.take i=all:=by rw [HN.out,List.take_length]
      have HE:=Lib.hid (show ReadR all w (.returned (.tuple #[.slice A5 K c5,.int .i64 (E6:Int),.bool true])) wr from by
        have h1:=HK.out
        rw [htk] at h1
        refine ⟨HO.out.2.1,.inr ⟨?_,.slice A5 K c5,?_,?_⟩⟩
        · rintro ⟨k,z,hz,hbad⟩
          have hk:=(List.getElem?_eq_some_iff.1 hz).1
          rw [← HN.out] at hk
          exact HO.out.2.2 k hk ⟨z,hz,hbad⟩
        · rw [h1.2.2]
        · rw [← h1.2.1, ← h1.1]
          exact HO2.out)
      clear htk
      go_wp2_with fail
      go_ret3
      exact HE.out
end Go.Proofs.YticjodhkmidljaaGreatDoor
namespace Go.Proofs.YticjodhkmidljaaGreatDoor
open Go.RowKit Go.Shelf
abbrev Stp:=FuncId × Array Value × Array Value
def stpV (f:Stp):Value:=.func (.func f.1) f.2.1 f.2.2
set_option maxRecDepth 100000 in
set_option maxHeartbeats 4000000 in
theorem steps_any (g c n:Nat) (fs:List Stp) (hn:n=fs.length) (hn9:n≤9) (I:Nat→World→Prop) (R:Int→World→Prop) (w:World) (h0:I 0 w)
    (hE:∀ f ∈ fs,∀ (xs:Array Value) (y:World),(callFunc f.1 xs).run Tryz.prog y=.ok (.enter f.1 xs) y)
    (hrow:∀ i f y,fs[i]?=some f→I i y→y.cell? ⟨g,i,none⟩=some (stpV f))
    (hstep:∀ i f y,fs[i]?=some f→I i y→Calls Tryz.prog f.1 (f.2.1++f.2.2) y fun e w'=>∃ k:Int,e=.returned (.int .i64 k)∧((k=0∧I (i+1) w')∨(k≠0∧R k w'))) :
    Calls Tryz.prog 49 #[.slice (some ⟨g,0,none⟩) n c] w fun e w'=>∃ k:Int,e=.returned (.int .i64 k)∧((k=0∧I n w')∨(k≠0∧R k w')):=by
  have HE:=Lib.hid hE
  have HR:=Lib.hid hrow
  have HS:=Lib.hid hstep
  have H0:=Lib.hid h0
  have HN:=Lib.hid hn
  clear hE hrow hstep h0 hn
  go_enter Tryz.func49,Tryz.ntmps49
  go_wp2
  go_loopw [8] (fun s8 wr=>∃ i:Nat,s8=.int .i64 (i:Int)∧i≤n∧I i wr) (fun s8 _=>n - (intOf s8).toNat)
  case atStart=>exact ⟨0,rfl,Nat.zero_le _,H0.out⟩
  case round =>
    obtain ⟨i,rfl,hi,hI⟩:=hrel
    by_cases hin:i<n
    · have hiI:(i:Int)<(n:Int):=by omega
      obtain ⟨f,hf⟩:∃ f,f=fs[i]'(by rw [← HN.out];exact hin):=⟨_,rfl⟩
      have hfs:fs[i]?=some f:=by rw [List.getElem?_eq_getElem (by rw [← HN.out];exact hin),hf]
      have hent:=HE.out f (by rw [hf];exact List.getElem_mem _)
      have hcell:=HR.out i f wr hfs hI
      have HF:=Lib.hid (HS.out i f wr hfs hI)
      obtain ⟨fi,pre,cap⟩:=f
      have hw1:wrap64 ((i:Int)+1)=((i+1:Nat):Int):=by unfold wrap64;omega
      unfold stpV at hcell
      dsimp only at hent hcell HF
      clear hf hfs hI
      go_upto_region 4 with fail
      go_wp2_with fail
      refine HF.out.mono ?_
      rintro e w' ⟨k,rfl,hk⟩
      have HK:=Lib.hid hk
      clear hk hcell hent
      by_cases hk0:k=0
      · subst hk0
        have HI:=Lib.hid (show I (i+1) w' from by
          rcases HK.out with ⟨_,h⟩ | ⟨h,_⟩
          · exact h
          · exact (h rfl).elim)
        go_wp2
        exact ⟨⟨i+1,by rw [Int.natCast_add];rfl,by omega,HI.out⟩,by simp only [intOf];omega⟩
      · have hkz:(k != 0)=true:=by rw [bne_iff_ne];exact hk0
        have HX:=Lib.hid (show R k w' from by
          rcases HK.out with ⟨h,_⟩ | ⟨_,h⟩
          · exact (hk0 h).elim
          · exact h)
        have HN0:=Lib.hid hk0
        clear hk0
        go_wp2
        go_ret
        exact ⟨k,rfl,.inr ⟨HN0.out,HX.out⟩⟩
    · have hiI : ¬ (i:Int)<(n:Int):=by omega
      obtain rfl:i=n:=by omega
      have HI:=Lib.hid hI
      clear hI
      go_wp2
      go_ret
      exact ⟨0,rfl,.inl ⟨rfl,HI.out⟩⟩
end Go.Proofs.YticjodhkmidljaaGreatDoor
namespace Go.Proofs.YticjodhkmidljaaGreatDoor
open Go.RowKit Go.Shelf
def LogAt (w:World) (l p:Nat):Prop:=w.heap[l]?=some (.cells #[.pointer (some ⟨p,0,none⟩)] 110 (0,0))
/-- What has come of a log and its disk since w: nothing but L, and new blocks, has turned. -/
structure LoR (l p bb:Nat) (L:List Nat) (D:DskV) (w y:World):Prop where
  log:LogAt y l p
  dsk:∃ L1 n C,DskAt y p bb n C L1 D∧(∀ g ∈ L1,g<y.heap.size∧(g ∈ L∨w.heap.size≤g))∧l ∉ L1
  t:Turns L w y
  far:∃ B,PVB B w∧B≤w.heap.size∧∀ g ∈ L,B≤g
section
variable {l p bb : Nat} {L : List Nat} {D : DskV} {w y y' : World}
theorem LoR.pv (h:LoR l p bb L D w y):PV y:=by
  obtain ⟨B,h1,h2,h3⟩:=h.far
  exact h1 y (h.t.below (Below.refl _ _) h2 h3)
theorem LoR.ris (h:LoR l p bb L D w y):Rise D.fs:=by
  obtain ⟨L1,n,C,h1,_⟩:=h.dsk
  exact h1.ris
theorem LoR.syn (h:LoR l p bb L D w y):(∀ f ∈ D.fs,f.sy≤f.by_.length)∧totF D.fs≤4194304:=by
  obtain ⟨L1,n,C,h1,_⟩:=h.dsk
  exact ⟨h1.syn,by have:=h1.sum;omega⟩
theorem LoR.below (h:LoR l p bb L D w y) (hb:Below y.heap.size y y'):LoR l p bb L D w y':=by
  obtain ⟨L1,n,C,h1,h2,h3⟩:=h.dsk
  exact ⟨(hb.block l (Array.getElem?_eq_some_iff.1 h.log).1).trans h.log,⟨L1,n,C,h1.keep (fun g hg=>hb.block g (h2 g hg).1),fun g hg=>⟨Nat.lt_of_lt_of_le (h2 g hg).1 hb.size,(h2 g hg).2⟩,h3⟩,h.t.trans (Turns.of hb),h.far⟩
theorem LoR.act (h:LoR l p bb L D w y) {R:DskV × Nat} {f:FuncId} {args:Array Value} (hc:∀ n C L1,DskAt y p bb n C L1 D→(∀ g ∈ L1,g<y.heap.size)→Calls Tryz.prog f args y (fun e y'=>∃ k,e=.returned (.int .i64 k)∧DkR p bb L1 R y k y')) :
    Calls Tryz.prog f args y fun e y'=>e=.returned (.int .i64 (R.2:Int))∧LoR l p bb L R.1 w y':=by
  obtain ⟨L1,n,C,h1,h2,h3⟩:=h.dsk
  refine (hc n C L1 h1 (fun g hg=>(h2 g hg).1)).mono ?_
  rintro e y' ⟨k,rfl,rfl,n',C',L',hd,ht,hl⟩
  obtain ⟨L2,hd2,hl2⟩:=hd.trim
  have hlt:=(Array.getElem?_eq_some_iff.1 h.log).1
  refine ⟨rfl,⟨(ht.block l hlt h3).trans h.log,⟨L2,n',C',hd2,fun g hg=>⟨(hl2 g hg).2,?_⟩,fun hg=>?_⟩,?_,h.far⟩⟩
  · rcases hl g (hl2 g hg).1 with q | q
    · exact (h2 g q).2
    · exact .inr (Nat.le_trans h.t.size q)
  · rcases hl l (hl2 l hg).1 with q | q
    · exact h3 q
    · omega
  · refine ⟨ht.os.trans h.t.os,ht.tape.trans h.t.tape,ht.out.trans h.t.out,Nat.le_trans h.t.size ht.size,fun g hg hn=>(ht.block g (Nat.lt_of_lt_of_le hg h.t.size) (fun q=>?_)).trans (h.t.block g hg hn)⟩
    rcases (h2 g q).2 with q2 | q2
    · exact hn q2
    · omega
theorem LoR.cell (h:LoR l p bb L D w y):y.cell? ⟨l,0,none⟩=some (.pointer (some ⟨p,0,none⟩)):=cell_of_row _ _ 0 _ _ _ h.log
/-- The segments, as a row that can be read. -/
theorem LoR.segs (h:LoR l p bb L D w y) (hlen:D.fs.length≤1000000):Calls Tryz.prog 47 #[.pointer (some ⟨p,0,none⟩)] y fun e y'=>∃ v,e=.returned v∧SegR y.heap.size y' v (segL D.fs)∧LoR l p bb L D w y'∧Below y.heap.size y y':=by
  obtain ⟨L1,n,C,h1,h2,h3⟩:=h.dsk
  refine (segments_any hlen y h.pv h1).mono ?_
  rintro e y' ⟨v,rfl,ho,hb⟩
  exact ⟨v,rfl,seg_row ho,h.below hb,hb⟩
end
theorem seg_nm {fs:List FilV} {x:Nat × FilV} (h:x ∈ segL fs):x.2.nm.length=9:=by
  have h2:=(seg_mem h).2
  unfold numN at h2
  split at h2
  · next h3=>exact h3.1
  · cases h2
theorem last_at {all:List (Nat × FilV)} {x:Nat × FilV} (h:all.getLast?=some x):∃ M,all.length=M+1∧all[M]?=some x∧x ∈ all:=by
  obtain ⟨pre,rfl⟩:=List.getLast?_eq_some_iff.1 h
  exact ⟨pre.length,by simp,by simp,by simp⟩
set_option maxRecDepth 100000 in
set_option maxHeartbeats 4000000 in
theorem lsync_any {l p bb:Nat} {L:List Nat} {D:DskV} {w y:World} (h:LoR l p bb L D w y) (hlen:D.fs.length≤1000000) :
    Calls Tryz.prog 30 #[.pointer (some ⟨l,0,none⟩)] y fun e y'=>e=.returned (.int .i64 ((lsyncD D).2:Int))∧LoR l p bb L (lsyncD D).1 w y':=by
  have hc:=h.cell
  have HSG:=Lib.hid (h.segs hlen)
  clear h
  obtain ⟨R,hR⟩:∃ R,R=lsyncD D:=⟨_,rfl⟩
  rw [← hR]
  unfold lsyncD at hR
  cases hl:lastS D with
  | none =>
    rw [hl] at hR
    have hs:segL D.fs=[]:=List.getLast?_eq_none_iff.1 hl
    rw [hs] at HSG
    have HRR:=Lib.hid hR
    clear hl hs hR
    go_enter Tryz.func30,Tryz.ntmps30
    go_wp2_with (go_at_call 47;(with_reducible refine HSG.out.mono ?_);rintro e w1 ⟨v,rfl,⟨A,c,rfl, -⟩,hL, -⟩;have HL:=Lib.hid hL;clear hL)
    go_ret
    rw [HRR.out]
    exact ⟨rfl,HL.out⟩
  | some x =>
    rw [hl] at hR
    dsimp only at hR
    obtain ⟨M,hM,hxs,hxm⟩:=last_at hl
    have hnl:=seg_nm hxm
    have HX:=Lib.hid (And.intro hxs (And.intro hR hnl))
    have HM:=Lib.hid hM
    obtain ⟨nb,hnb⟩:∃ nb:ByteArray,nb=⟨x.2.nm.toArray⟩:=⟨_,rfl⟩
    have hnbs:nb.size≤maxLen:=by rw [hnb];show x.2.nm.toArray.size≤_;rw [List.size_toArray,hnl];decide
    have HNB:=Lib.hid (And.intro hnb hnbs)
    clear hl hxs hxm hR hnl hnb hnbs hM
    go_enter Tryz.func30,Tryz.ntmps30
    go_upto_region 4 with (go_at_call 47;(with_reducible refine HSG.out.mono ?_);rintro e w1 ⟨v,rfl,⟨A,c,rfl,Y,hY1,hY2⟩,hL, -⟩;have HL:=Lib.hid (And.intro hY1 (And.intro hY2 hL));clear hY1 hY2 hL)
    obtain ⟨N,hN⟩:∃ N,N=(segL D.fs).length:=⟨_,rfl⟩
    have hMN:N=M+1:=by rw [hN];exact HM.out
    have hN6:N≤1000000:=by rw [hN];exact Nat.le_trans (segL_len D.fs) hlen
    rw [← hN]
    obtain ⟨gk,rfl,hck⟩:=HL.out.2.1 M x HX.out.1
    have HCK:=Lib.hid (fun (z:World) (hz:Below w1.heap.size w1 z)=>(show z.cell? ⟨gk,M*4+1,none⟩=some (.string nb)∧z.cell? ⟨l,0,none⟩=some (.pointer (some ⟨p,0,none⟩)) from ⟨by rw [HNB.out.1];exact (hck z (fun r o hr ho=>(hz.block r (HL.out.1 r hr).2).trans ho)).2.1,(HL.out.2.2.below hz).cell⟩))
    have HAC:=Lib.hid (fun (z:World) (hz:Below w1.heap.size w1 z)=>(show Calls Tryz.prog 62 #[.pointer (some ⟨p,0,none⟩),.string nb] z (fun e w'=>e=.returned (.int .i64 (R.2:Int))∧LoR l p bb L R.1 w w') from by
      rw [HX.out.2.1,show x.2.nm=nb.data.toList from by rw [HNB.out.1]]
      exact (HL.out.2.2.below hz).act (fun n C L1 hd hlt=>sync_any nb HNB.out.2 z hd)))
    have hNz:((N:Int) == 0)=false:=by rw [beq_eq_false_iff_ne];omega
    have hw1:IntKind.i64.wrap ((N:Int) - 1)=(M:Int):=by rw [IntWalk.i64_in _ (by omega)];omega
    have hMI:(M:Int)<(N:Int):=by omega
    have hMn:M<N:=by omega
    clear hck hc
    clear hN hMN
    go_upto_region 6 with fail
    refine (wpIn_wide (n:=1)).1 ?_
    refine RegK.wpIn_region_can (F:=Fence.wide) (KeptW w1) [(0,0),(1,0),(2,0),(3,0),(4,0),(5,0),(6,0),(7,0),(8,0),(9,0),(10,0),(11,0),(12,3),(13,0)] (by kernel_rfl) (by kernel_rfl) (by kernel_rfl) (fun _ _ d _ _ h=>by cases d <;> exact h) ⟨rfl,rfl,rfl,Nat.le_refl _,fun _ _=>rfl⟩ ?_
    dsimp only [RegK.pick,List.getElem?_cons_zero,List.getElem?_cons_succ]
    change RegK.Can _ _ _ _ _ _ _ _ w1.drew
    have hkd:KeptW w1 w1.drew:=⟨rfl,rfl,rfl,Nat.le_refl _,fun _ _=>rfl⟩
    generalize w1.drew=v8 at *
    iterate 3 (refine RegK.can_reads ?_;intro K hK;go_simp;(first | refine ⟨_,fun _ _=>rfl,hK _ ?_⟩ | refine hK _ ?_);clear hK K)
    refine RegK.can_reads ?_
    intro K hK
    go_simp
    refine ⟨.pointer (some ⟨p,0,none⟩),fun y hy=>?_,hK _ ?_⟩
    · have c0:=(HCK.out y (KeptW.bel hy)).2
      go_simp
    clear hK K
    iterate 7 (refine RegK.can_reads ?_;intro K hK;go_simp;(first | refine ⟨_,fun _ _=>rfl,hK _ ?_⟩ | refine hK _ ?_);clear hK K)
    refine RegK.can_reads ?_
    intro K hK
    go_simp
    refine ⟨.string nb,fun y hy=>?_,hK _ ?_⟩
    · have c0:=(HCK.out y (KeptW.bel hy)).1
      go_simp
    clear hK K
    refine RegK.can_frees (fun _=>trivial) ?_
    intro K K0 hK hK0
    go_simp
    refine ⟨trivial,?_⟩
    refine (callsIn_wide.2 (HAC.out v8 (KeptW.bel hkd))).mono ?_
    rintro e w9 ⟨rfl,hz9⟩
    refine hK (fun _=>True) _ _ trivial ?_
    clear hK K hK0 K0
    refine RegK.can_reads ?_;intro K hK;go_simp;(first | refine ⟨_,fun _ _=>rfl,hK _ ?_⟩ | refine hK _ ?_);clear hK K
    refine RegK.can_nil ?_
    have HZ:=Lib.hid hz9
    clear hz9
    go_wp2
    go_ret
    exact ⟨rfl,HZ.out⟩
end Go.Proofs.YticjodhkmidljaaGreatDoor
