/- Log: Open. Condition: as each theorem says. -/
import Derived.Test.YticjodhkmidljaaGreatDoorZKeepNil15
namespace Go.Proofs.YticjodhkmidljaaGreatDoor
open Go.RowKit Go.Shelf
set_option maxRecDepth 100000 in
set_option maxHeartbeats 4000000 in
theorem lopen1_any {l p bb:Nat} {L:List Nat} {D:DskV} {w y:World} (h:LoR l p bb L D w y) (b1 b2 b3 gk N M E c:Nat) (nb:ByteArray) (hN:N=M+1) (hN6:N≤1000000) (hE:E≤1000000000) (hnb:nb.size≤maxLen)
    (HC:∀ z,Below y.heap.size y z→z.cell? ⟨b1,0,none⟩=some (.pointer (some ⟨l,0,none⟩))∧z.cell? ⟨b2,0,none⟩=some (.slice (some ⟨gk,0,none⟩) N c)∧z.cell? ⟨b3,0,none⟩=some (.int .i64 (E:Int))∧z.cell? ⟨gk,M*4+1,none⟩=some (.string nb)) :
    Calls Tryz.prog 50 #[.pointer (some ⟨b1,0,none⟩),.pointer (some ⟨b2,0,none⟩),.pointer (some ⟨b3,0,none⟩)] y fun e y'=>e=.returned (.int .i64 ((cutD D nb.data.toList (E:Int)).2:Int))∧LoR l p bb L (cutD D nb.data.toList (E:Int)).1 w y':=by
  have HCK:=Lib.hid (fun (z:World) (hz:Below y.heap.size y z)=>And.intro (h.below hz).cell (HC z hz))
  obtain ⟨R,hR⟩:∃ R,R=cutD D nb.data.toList (E:Int):=⟨_,rfl⟩
  rw [← hR]
  have HAC:=Lib.hid (fun (z:World) (hz:Below y.heap.size y z)=>(show Calls Tryz.prog 51 #[.pointer (some ⟨p,0,none⟩),.string nb,.int .i64 (E:Int)] z (fun e w'=>e=.returned (.int .i64 (R.2:Int))∧LoR l p bb L R.1 w w') from by
    rw [hR]
    exact (h.below hz).act (fun n C L1 hd hlt=>cut_any nb hnb (E:Int) ⟨by omega,by omega⟩ z hd hlt)))
  have hw1:IntKind.i64.wrap ((N:Int) - 1)=(M:Int):=by rw [IntWalk.i64_in _ (by omega)];omega
  have hMI:(M:Int)<(N:Int):=by omega
  have hMn:M<N:=by omega
  clear hN HC h hR hnb
  go_enter Tryz.func50,Tryz.ntmps50
  go_upto_region 1 with fail
  refine (wpIn_wide (n:=1)).1 ?_
  refine RegK.wpIn_region_can (F:=Fence.wide) (KeptW y) [(0,0),(1,0),(2,0),(3,0),(4,0),(5,0),(6,0),(7,0),(8,0),(9,0),(10,0),(11,0),(12,0),(13,3),(14,0)] (by kernel_rfl) (by kernel_rfl) (by kernel_rfl) (fun _ _ d _ _ h=>by cases d <;> exact h) ⟨rfl,rfl,rfl,Nat.le_refl _,fun _ _=>rfl⟩ ?_
  dsimp only [RegK.pick,List.getElem?_cons_zero,List.getElem?_cons_succ]
  change RegK.Can _ _ _ _ _ _ _ _ y.drew
  have hkd:KeptW y y.drew:=⟨rfl,rfl,rfl,Nat.le_refl _,fun _ _=>rfl⟩
  generalize y.drew=v8 at *
  refine RegK.can_reads ?_
  intro K hK
  go_simp
  refine ⟨.pointer (some ⟨l,0,none⟩),fun q hy=>?_,hK _ ?_⟩
  · have c0:=(HCK.out _ (KeptW.bel hy)).2.1
    go_simp
  clear hK K
  iterate 2 (refine RegK.can_reads ?_;intro K hK;go_simp;(first | refine ⟨_,fun _ _=>rfl,hK _ ?_⟩ | refine hK _ ?_);clear hK K)
  refine RegK.can_reads ?_
  intro K hK
  go_simp
  refine ⟨.pointer (some ⟨p,0,none⟩),fun q hy=>?_,hK _ ?_⟩
  · have c0:=(HCK.out _ (KeptW.bel hy)).1
    go_simp
  clear hK K
  refine RegK.can_reads ?_
  intro K hK
  go_simp
  refine ⟨.slice (some ⟨gk,0,none⟩) N c,fun q hy=>?_,hK _ ?_⟩
  · have c0:=(HCK.out _ (KeptW.bel hy)).2.2.1
    go_simp
  clear hK K
  refine RegK.can_reads ?_
  intro K hK
  go_simp
  refine ⟨.slice (some ⟨gk,0,none⟩) N c,fun q hy=>?_,hK _ ?_⟩
  · have c0:=(HCK.out _ (KeptW.bel hy)).2.2.1
    go_simp
  clear hK K
  iterate 5 (refine RegK.can_reads ?_;intro K hK;go_simp;(first | refine ⟨_,fun _ _=>rfl,hK _ ?_⟩ | refine hK _ ?_);clear hK K)
  refine RegK.can_reads ?_
  intro K hK
  go_simp
  refine ⟨.string nb,fun q hy=>?_,hK _ ?_⟩
  · have c0:=(HCK.out _ (KeptW.bel hy)).2.2.2.2
    go_simp
  clear hK K
  refine RegK.can_reads ?_
  intro K hK
  go_simp
  refine ⟨.int .i64 (E:Int),fun q hy=>?_,hK _ ?_⟩
  · have c0:=(HCK.out _ (KeptW.bel hy)).2.2.2.1
    go_simp
  clear hK K
  refine RegK.can_frees (fun _=>trivial) ?_
  intro K K0 hK hK0
  go_simp
  refine ⟨trivial,?_⟩
  refine (callsIn_wide.2 (HAC.out v8 (KeptW.bel hkd))).mono ?_
  rintro e w9 ⟨rfl,hz9⟩
  refine hK (fun _=>True) _ _ trivial ?_
  clear hK K hK0 K0
  refine RegK.can_reads ?_;intro K hK;go_simp;(first | refine ⟨_,fun _ _=>rfl,hK _ ?_⟩ | refine hK _ ?_);clear hK K
  refine RegK.can_nil ?_
  have HZ:=Lib.hid hz9
  clear hz9
  go_wp2
  go_ret
  exact ⟨rfl,HZ.out⟩
theorem LoR.base {l p bb:Nat} {L:List Nat} {D:DskV} {w W y:World} (h:LoR l p bb L D W y) (hb:Below w.heap.size w W) (hf:∃ B,PVB B w∧B≤w.heap.size∧∀ g ∈ L,B≤g):LoR l p bb L D w y:=by
  obtain ⟨L1,n,C,h1,h2,h3⟩:=h.dsk
  exact ⟨h.log,⟨L1,n,C,h1,fun g hg=>⟨(h2 g hg).1,(h2 g hg).2.imp id (fun q=>Nat.le_trans hb.size q)⟩,h3⟩,(Turns.of hb).trans h.t,hf⟩
theorem totS_seg:∀ fs:List FilV,totS (segL fs)≤totF fs
  | []=>Nat.le_refl _
  | f::r=>by
    have ih:=totS_seg r
    rw [tot_cons]
    unfold segL at ih ⊢
    rw [List.filterMap_cons]
    cases hs:segF f with
    | none=>dsimp only;omega
    | some x =>
      have hx:x.2=f:=by
        unfold segF at hs
        cases hn:numN f.nm with
        | none=>rw [hn] at hs;cases hs
        | some n=>rw [hn] at hs;cases hs;rfl
      unfold totS at ih ⊢
      dsimp only
      rw [List.map_cons,List.sum_cons,hx]
      omega
theorem cutD_len {D:DskV} (h:Rise D.fs) (nm:Bs) (n:Int):(cutD D nm n).1.fs.length=D.fs.length:=by
  unfold cutD withD
  split
  · rfl
  · split
    · next f hf =>
      have hn:=(find_nm hf).1
      dsimp only
      split
      · rfl
      · exact (put_old (f:={ f with by_:=f.by_.take n.toNat }) h (by rw [show ({ f with by_:=f.by_.take n.toNat }:FilV).nm=nm from hn];exact hf)).2
    · rfl
theorem two_cells (y:World) (u v:Value) (t:TypeId):(y.alloc (.cells #[u,v] t)).cell? ⟨y.heap.size,0,none⟩=some u∧(y.alloc (.cells #[u,v] t)).cell? ⟨y.heap.size,1,none⟩=some v:=⟨cell_of_row _ _ 0 _ _ _ (heap_alloc_new y _),cell_of_row _ _ 1 _ _ _ (heap_alloc_new y _)⟩
/-- What Open tells of a disk that has power. -/
def LopenR (p bb:Nat) (L:List Nat) (D:DskV) (w:World) (e:Ending) (w':World):Prop :=
  (Spoilt (segL D.fs)∧e=.returned (.tuple #[.pointer none,.slice none 0 0,.int .i64 10])∧Below w.heap.size w w') ∨
  (¬ Spoilt (segL D.fs)∧∃ l v W,e=.returned (.tuple #[.pointer (some ⟨l,0,none⟩),v,.int .i64 0])∧Below w.heap.size w W∧LoR l p bb L (lopenD D).1 W w'∧w.heap.size≤l∧l<W.heap.size∧W.ownsRow w.heap.size 9 1 v (recL (segL D.fs)).length (encS (recL (segL D.fs))))
set_option maxRecDepth 100000 in
set_option maxHeartbeats 16000000 in
theorem lopen_any {p bb n:Nat} {C:Bs→Nat} {L:List Nat} {D:DskV} (hlen:D.fs.length≤100000) (w:World) (hf:∃ B,PVB B w∧B≤w.heap.size∧∀ g ∈ L,B≤g) (h:DskAt w p bb n C L D) (hL:∀ g ∈ L,g<w.heap.size) (hdd:D.dead=false) (hok : ¬ Spoilt (segL D.fs)→(lopenD D).2=0) :
    Calls Tryz.prog 24 #[.pointer (some ⟨p,0,none⟩)] w (LopenR p bb L D w):=by
  have H:=Lib.hid (And.intro h (And.intro hL (And.intro hlen (And.intro hf hok))))
  have hpv:PV w:=by
    obtain ⟨B,h1,_⟩:=hf
    exact h1.here
  have HDead:=Lib.hid (show Calls Tryz.prog 20 #[.pointer (some ⟨p,0,none⟩)] w (fun e w'=>e=.returned (.bool false)∧w=w') from by have h2:=dead_any w h;rw [hdd] at h2;exact h2)
  have HSG:=Lib.hid (segments_any (by omega) w hpv h)
  have HRD:=Lib.hid (fun (B:Nat) (y:World) (v:Value) (hr:SegR B y v (segL D.fs))=>read_all (segL D.fs) (by have:=totS_seg D.fs;have:=h.sum;omega) (fun x hx=>h.syn x.2 (seg_mem hx).1) (fun x hx=>(seg_num hx).2) (Nat.le_trans (segL_len D.fs) (by omega)) B y v hr)
  clear h hL hlen hf hok hdd hpv
  by_cases hsp:Spoilt (segL D.fs)
  · have HRS:=Lib.hid (fun (B:Nat) (y:World) (v:Value) (hr:SegR B y v (segL D.fs))=>(show Calls Tryz.prog 48 #[v] y (fun e y'=>e=.returned (.tuple #[.slice none 0 0,.int .i64 0,.bool false])∧Below y.heap.size y y') from (HRD.out B y v hr).mono (by
      rintro e y' ⟨hb,⟨_,rfl⟩ | ⟨q,_⟩⟩
      · exact ⟨rfl,hb⟩
      · exact (q hsp).elim)))
    have HSP:=Lib.hid hsp
    clear hsp
    go_enter Tryz.func24,Tryz.ntmps24
    go_wp2_with (first
      | (go_at_call 20;(with_reducible refine HDead.out.mono ?_);rintro e w1 ⟨rfl,rfl⟩)
      | (go_at_call 47;(with_reducible refine HSG.out.mono ?_);rintro e w1 ⟨v,rfl,ho,hb⟩;have HO:=Lib.hid (And.intro (seg_row ho) hb);obtain ⟨A,c,rfl⟩:=own_slice_of ho;clear ho hb)
      | (go_at_call 48;(with_reducible refine (HRS.out w.heap.size _ _ (HO.out.1.below ((Below.refl _ _).alloc (Nat.le_refl _) _))).mono ?_);rintro e w3 ⟨rfl,hb⟩;have HB3:=Lib.hid hb;clear hb))
    go_ret3
    have hbA:=HO.out.2.alloc HO.out.2.size (.cells #[.slice A (segL D.fs).length c] 105)
    have hbB:=hbA.trans (HB3.out.mono hbA.size)
    exact .inl ⟨HSP.out,rfl,hbB.alloc hbB.size _⟩
  · obtain ⟨E,hE⟩:∃ E,E=endL (segL D.fs):=⟨_,rfl⟩
    obtain ⟨RL,hRL⟩:∃ RL,RL=recL (segL D.fs):=⟨_,rfl⟩
    have HRS:=Lib.hid (fun (B:Nat) (y:World) (v:Value) (hr:SegR B y v (segL D.fs))=>(show Calls Tryz.prog 48 #[v] y (fun e y'=>∃ v,e=.returned (.tuple #[v,.int .i64 (E:Int),.bool true])∧y'.ownsRow y.heap.size 9 1 v RL.length (encS RL)∧Below y.heap.size y y') from (HRD.out B y v hr).mono (by
      rintro e y' ⟨hb,⟨q,_⟩ | ⟨_,v,rfl,ho⟩⟩
      · exact (hsp q).elim
      · rw [hE,hRL];exact ⟨v,rfl,ho,hb⟩)))
    have HSP:=Lib.hid hsp
    have HEE:=Lib.hid (And.intro hE hRL)
    clear hsp hE hRL
    obtain ⟨N,hN⟩:∃ N,N=(segL D.fs).length:=⟨_,rfl⟩
    have HNN:=Lib.hid hN
    go_enter Tryz.func24,Tryz.ntmps24
    go_upto_region 10 with (first
      | (go_at_call 20;(with_reducible refine HDead.out.mono ?_);rintro e w1 ⟨rfl,rfl⟩)
      | (go_at_call 47;(with_reducible refine HSG.out.mono ?_);rintro e w1 ⟨v,rfl,ho,hb⟩;have HO:=Lib.hid (And.intro (seg_row ho) hb);obtain ⟨A,c,rfl⟩:=own_slice_of ho;clear ho hb)
      | (go_at_call 48;(with_reducible refine (HRS.out w.heap.size _ _ (HO.out.1.below ((Below.refl _ _).alloc (Nat.le_refl _) _))).mono ?_);rintro e w3 ⟨vr,rfl,ho,hb⟩;have H3:=Lib.hid (And.intro ho hb);clear ho hb))
    have hbA:Below w.heap.size w (w1.alloc (.cells #[.slice A (segL D.fs).length c] 105)):=HO.out.2.alloc HO.out.2.size _
    have hbB:=hbA.trans (H3.out.2.mono hbA.size)
    have hs3:w1.heap.size+1≤w3.heap.size:=by have:=H3.out.2.size;simpa using this
    have hs1:=HO.out.2.size
    have r5:=(H3.out.2.block w1.heap.size (by simp)).trans (heap_alloc_new w1 (.cells #[.slice A (segL D.fs).length c] 105))
    have sr:=(HO.out.1.below ((Below.refl _ _).alloc (Nat.le_refl _) (.cells #[.slice A (segL D.fs).length c] 105))).below H3.out.2
    have ow:=own_base H3.out.1 hbA.size
    have hb6:Below w3.heap.size w3 (((w3.alloc (.cells #[.int .i64 (E:Int)] 3)).alloc (.cells #[.pointer (some ⟨p,0,none⟩)] 110)).alloc (.cells #[.pointer (some ⟨w3.heap.size+1,0,none⟩)] 59)) :=
      ((((Below.refl w3.heap.size w3).alloc (Nat.le_refl _) _).alloc (by simp) _).alloc (by simp;omega) _)
    have r7:(((w3.alloc (.cells #[.int .i64 (E:Int)] 3)).alloc (.cells #[.pointer (some ⟨p,0,none⟩)] 110)).alloc (.cells #[.pointer (some ⟨w3.heap.size+1,0,none⟩)] 59)).heap[w3.heap.size+0]?=some (.cells #[.int .i64 (E:Int)] 3 (0,0)):=allocs_at [.cells #[.int .i64 (E:Int)] 3,.cells #[.pointer (some ⟨p,0,none⟩)] 110,.cells #[.pointer (some ⟨w3.heap.size+1,0,none⟩)] 59] w3 0 _ rfl
    have rl:(((w3.alloc (.cells #[.int .i64 (E:Int)] 3)).alloc (.cells #[.pointer (some ⟨p,0,none⟩)] 110)).alloc (.cells #[.pointer (some ⟨w3.heap.size+1,0,none⟩)] 59)).heap[w3.heap.size+1]?=some (.cells #[.pointer (some ⟨p,0,none⟩)] 110 (0,0)):=allocs_at [.cells #[.int .i64 (E:Int)] 3,.cells #[.pointer (some ⟨p,0,none⟩)] 110,.cells #[.pointer (some ⟨w3.heap.size+1,0,none⟩)] 59] w3 1 _ rfl
    have r9:(((w3.alloc (.cells #[.int .i64 (E:Int)] 3)).alloc (.cells #[.pointer (some ⟨p,0,none⟩)] 110)).alloc (.cells #[.pointer (some ⟨w3.heap.size+1,0,none⟩)] 59)).heap[w3.heap.size+1+1]?=some (.cells #[.pointer (some ⟨w3.heap.size+1,0,none⟩)] 59 (0,0)):=allocs_at [.cells #[.int .i64 (E:Int)] 3,.cells #[.pointer (some ⟨p,0,none⟩)] 110,.cells #[.pointer (some ⟨w3.heap.size+1,0,none⟩)] 59] w3 2 _ rfl
    rw [Nat.add_zero] at r7
    have z6:(((w3.alloc (.cells #[.int .i64 (E:Int)] 3)).alloc (.cells #[.pointer (some ⟨p,0,none⟩)] 110)).alloc (.cells #[.pointer (some ⟨w3.heap.size+1,0,none⟩)] 59)).heap.size=w3.heap.size+3:=by simp
    change Code.wp _ _ _ _ (((w3.alloc (.cells #[.int .i64 (E:Int)] 3)).alloc (.cells #[.pointer (some ⟨p,0,none⟩)] 110)).alloc (.cells #[.pointer (some ⟨w3.heap.size+1,0,none⟩)] 59))
    generalize ((w3.alloc (.cells #[.int .i64 (E:Int)] 3)).alloc (.cells #[.pointer (some ⟨p,0,none⟩)] 110)).alloc (.cells #[.pointer (some ⟨w3.heap.size+1,0,none⟩)] 59)=W6 at *
    have r5':=(hb6.block _ (by omega)).trans r5
    have sr':=sr.below hb6
    have ow':=own_stay ow (fun k hk hB hl=>hb6.block k hl)
    have bel:=hbB.trans (hb6.mono (Nat.le_trans hbA.size H3.out.2.size))
    generalize w3.heap.size=b7 at *
    generalize w1.heap.size=b5 at *
    rw [← hN] at r5' sr' ⊢
    have q5:=cell_of_row _ _ 0 _ _ _ r5'
    rw [show (#[Value.slice A N c]:Array Value)[0]?=some (.slice A N c) from rfl] at q5
    have q9:=cell_of_row _ _ 0 _ _ _ r9
    rw [show (#[Value.pointer (some ⟨b7+1,0,none⟩)]:Array Value)[0]?=some (.pointer (some ⟨b7+1,0,none⟩)) from rfl] at q9
    have HW:=Lib.hid (And.intro r5' (And.intro sr' (And.intro ow' (And.intro bel (And.intro r7 (And.intro rl (And.intro r9 (And.intro z6 (And.intro hs3 hs1)))))))))
    have hL0:∀ (W:World),Below W6.heap.size W6 W→LoR (b7+1) p bb L D W W:=fun W hW=>by
      obtain ⟨B,hB1,hB2,hB3⟩:=H.out.2.2.2.1
      have hbw:=bel.trans (hW.mono bel.size)
      obtain ⟨L1,hd1,hl1⟩:=H.out.1.trim
      refine ⟨(hW.block _ (Array.getElem?_eq_some_iff.1 rl).1).trans rl,⟨L1,n,C,hd1.keep (fun g hg=>hbw.block g (hl1 g hg).2),fun g hg=>⟨Nat.lt_of_lt_of_le (hl1 g hg).2 hbw.size,.inl (hl1 g hg).1⟩,fun hg=>by have:=(hl1 _ hg).2;omega⟩,Turns.refl _ _,⟨B,hB1.on (hbw.mono hB2),Nat.le_trans hB2 hbw.size,hB3⟩⟩
    have HL0:=Lib.hid hL0
    clear hbA hbB hs3 hs1 r5 sr ow hb6 r7 rl r9 z6 r5' sr' ow' bel hL0 hN
    cases hl:lastS D with
    | none =>
      have hs:segL D.fs=[]:=List.getLast?_eq_none_iff.1 hl
      have HF:=Lib.hid (show LopenR p bb L D w (.returned (.tuple #[.pointer (some ⟨b7+1,0,none⟩),vr,.int .i64 0])) W6 from by
        refine .inr ⟨HSP.out,_,_,W6,rfl,HW.out.2.2.2.1,?_,by have:=HW.out.2.2.2.2.2.2.2.2;omega,(Array.getElem?_eq_some_iff.1 HW.out.2.2.2.2.2.1).1,by rw [← HEE.out.2];exact HW.out.2.2.1⟩
        rw [show lopenD D=(D,0) by unfold lopenD;rw [hl]]
        exact HL0.out W6 (Below.refl _ _))
      have hn0:N=0:=by rw [HNN.out,hs];rfl
      clear hl hs
      subst hn0
      go_wp2_with fail
      go_ret3
      exact HF.out
    | some x =>
      obtain ⟨M,hM,hxs,hxm⟩:=last_at hl
      have hnl:=seg_nm hxm
      have hNM:N=M+1:=by rw [HNN.out];exact hM
      have hN6:N≤100000:=by rw [HNN.out];exact Nat.le_trans (segL_len D.fs) H.out.2.2.1
      obtain ⟨nb,hnb⟩:∃ nb:ByteArray,nb=⟨x.2.nm.toArray⟩:=⟨_,rfl⟩
      have hnbs:nb.size≤maxLen:=by rw [hnb];show x.2.nm.toArray.size≤_;rw [List.size_toArray,hnl];decide
      have hnbd:nb.data.toList=x.2.nm:=by rw [hnb]
      obtain ⟨A',c',hv,Y,hY1,hY2⟩:=HW.out.2.1
      injection hv with e1 e2 e3
      subst e1 e3
      obtain ⟨gk,rfl,hck⟩:=hY2 M x hxs
      have hcq:(cutD D x.2.nm (E:Int)).2=0∧lopenD D=lsyncD (cutD D x.2.nm (E:Int)).1:=by
        have hok:=H.out.2.2.2.2 HSP.out
        unfold lopenD at hok ⊢
        rw [hl] at hok ⊢
        dsimp only at hok ⊢
        rw [← HEE.out.1] at hok ⊢
        by_cases hq:(cutD D x.2.nm (E:Int)).2=0
        · exact ⟨hq,by rw [if_neg (fun h=>h hq)]⟩
        · rw [if_pos hq] at hok
          exact (hq hok).elim
      have hEl:E≤1000000000:=by
        rw [HEE.out.1]
        unfold endL
        rw [show (segL D.fs).getLast?=some x from hl]
        have h1:=splD_le x.2.by_
        have h2:=totS_mem hxm
        have h3:=totS_seg D.fs
        have h4:=H.out.1.sum
        show (splD x.2.by_).2.1≤_
        omega
      have HST:=Lib.hid (show Calls Tryz.prog 49 #[.slice (some ⟨W6.heap.size,0,none⟩) 2 2] (W6.alloc (.cells #[.func (.func 50) #[] #[.pointer (some ⟨b7+1+1,0,none⟩),.pointer (some ⟨b5,0,none⟩),.pointer (some ⟨b7,0,none⟩)],.func (.func 30) #[.pointer (some ⟨b7+1,0,none⟩)] #[]] 37)) (fun e y'=>e=.returned (.int .i64 0)∧LoR (b7+1) p bb L (lopenD D).1 (W6.alloc (.cells #[.func (.func 50) #[] #[.pointer (some ⟨b7+1+1,0,none⟩),.pointer (some ⟨b5,0,none⟩),.pointer (some ⟨b7,0,none⟩)],.func (.func 30) #[.pointer (some ⟨b7+1,0,none⟩)] #[]] 37)) y') from by
        have hcs:=two_cells W6 (.func (.func 50) #[] #[.pointer (some ⟨b7+1+1,0,none⟩),.pointer (some ⟨b5,0,none⟩),.pointer (some ⟨b7,0,none⟩)]) (.func (.func 30) #[.pointer (some ⟨b7+1,0,none⟩)] #[]) 37
        have hb7:=(Below.refl W6.heap.size W6).alloc (Nat.le_refl _) (.cells #[.func (.func 50) #[] #[.pointer (some ⟨b7+1+1,0,none⟩),.pointer (some ⟨b5,0,none⟩),.pointer (some ⟨b7,0,none⟩)],.func (.func 30) #[.pointer (some ⟨b7+1,0,none⟩)] #[]] 37)
        have hz7:W6.heap.size<(W6.alloc (.cells #[.func (.func 50) #[] #[.pointer (some ⟨b7+1+1,0,none⟩),.pointer (some ⟨b5,0,none⟩),.pointer (some ⟨b7,0,none⟩)],.func (.func 30) #[.pointer (some ⟨b7+1,0,none⟩)] #[]] 37)).heap.size:=by simp
        generalize W6.alloc (.cells #[.func (.func 50) #[] #[.pointer (some ⟨b7+1+1,0,none⟩),.pointer (some ⟨b5,0,none⟩),.pointer (some ⟨b7,0,none⟩)],.func (.func 30) #[.pointer (some ⟨b7+1,0,none⟩)] #[]] 37)=W7 at *
        obtain ⟨_,_,_,hbel,r7,rl,r9,z6,hs3,hs1⟩:=HW.out
        have r5:=HW.out.1
        have hLw:=H.out.2.1
        have kp:∀ (y z:World),Turns L W7 y→Below y.heap.size y z→∀ g o,w.heap.size≤g→W6.heap[g]?=some o→z.heap[g]?=some o:=fun y z ht hz g o hg ho=>by
          have h1:=(hb7.block g (Array.getElem?_eq_some_iff.1 ho).1).trans ho
          have h2:=(ht.block g (Array.getElem?_eq_some_iff.1 h1).1 (fun q=>by have:=hLw g q;omega)).trans h1
          exact (hz.block g (Array.getElem?_eq_some_iff.1 h2).1).trans h2
        refine (steps_any W6.heap.size 2 2 [(50,#[],#[.pointer (some ⟨b7+1+1,0,none⟩),.pointer (some ⟨b5,0,none⟩),.pointer (some ⟨b7,0,none⟩)]),(30,#[.pointer (some ⟨b7+1,0,none⟩)],#[])] rfl (by decide)
          (fun i y=>match i with | 0=>LoR (b7+1) p bb L D W7 y | 1=>LoR (b7+1) p bb L (cutD D x.2.nm (E:Int)).1 W7 y | _=>LoR (b7+1) p bb L (lopenD D).1 W7 y) (fun _ _=>False) W7 (HL0.out W7 hb7) ?_ ?_ ?_).mono ?_
        · intro f hf xs y
          rcases List.mem_cons.1 hf with rfl | hf
          · exact enters_of Tryz.func50 (by kernel_rfl) rfl xs y
          · rw [List.mem_singleton.1 hf]
            exact enters_of Tryz.func30 (by kernel_rfl) rfl xs y
        · intro i f y hf hI
          have tt:Turns L W7 y:=by
            match i,hI with
            | 0,hI=>exact hI.t
            | 1,hI=>exact hI.t
            | n+2,hI=>exact hI.t
          have cc:∀ j,y.cell? ⟨W6.heap.size,j,none⟩=W7.cell? ⟨W6.heap.size,j,none⟩:=fun j=>World.cell?_of_block (tt.block _ hz7 (fun q=>by have h1:W6.heap.size<w.heap.size:=hLw _ q;have:=hbel.size;omega))
          match i,hf with
          | 0,hf=>cases hf;exact (cc 0).trans hcs.1
          | 1,hf=>cases hf;exact (cc 1).trans hcs.2
          | n+2,hf=>simp at hf
        · intro i f y hf hI
          match i,hf,hI with
          | 0,hf,hI =>
            cases hf
            have hI:LoR (b7+1) p bb L D W7 y:=hI
            refine (lopen1_any hI (b7+1+1) b5 b7 gk N M E c nb hNM (by omega) hEl hnbs (fun z hz=>?_)).mono ?_
            · refine ⟨cell_of_row _ _ 0 _ _ _ (kp y z hI.t hz _ _ (by omega) r9),cell_of_row _ _ 0 _ _ _ (kp y z hI.t hz _ _ (by omega) r5),cell_of_row _ _ 0 _ _ _ (kp y z hI.t hz _ _ (by omega) r7),?_⟩
              rw [hnb]
              exact (hck z (fun r o hr ho=>kp y z hI.t hz r o (hY1 r hr).1 ho)).2.1
            · rintro e y' ⟨rfl,hq⟩
              rw [hnbd] at hq ⊢
              refine ⟨_,rfl,.inl ⟨by rw [hcq.1];rfl,hq⟩⟩
          | 1,hf,hI =>
            cases hf
            have hI:LoR (b7+1) p bb L (cutD D x.2.nm (E:Int)).1 W7 y:=hI
            refine (lsync_any hI (by rw [cutD_len H.out.1.ris];have:=H.out.2.2.1;omega)).mono ?_
            rintro e y' ⟨rfl,hq⟩
            rw [← hcq.2,H.out.2.2.2.2 HSP.out] at *
            exact ⟨_,rfl,.inl ⟨rfl,hq⟩⟩
          | n+2,hf,_=>simp at hf
        · rintro e y' ⟨k,rfl,⟨rfl,hI⟩ | ⟨_,q⟩⟩
          · exact ⟨rfl,hI⟩
          · exact q.elim)
      have hN0:0<N:=by omega
      clear hl hM hxs hxm hnl hnb hnbs hnbd e2 hY1 hY2 hck hcq hEl
      have HNM:=Lib.hid hNM
      clear hNM
      go_wp2_with (go_at_call 49;(with_reducible refine HST.out.mono ?_);rintro e w9 ⟨rfl,hz⟩
                   have hb7:=(Below.refl W6.heap.size W6).alloc (Nat.le_refl _) (.cells #[.func (.func 50) #[] #[.pointer (some ⟨b7+1+1,0,none⟩),.pointer (some ⟨b5,0,none⟩),.pointer (some ⟨b7,0,none⟩)],.func (.func 30) #[.pointer (some ⟨b7+1,0,none⟩)] #[]] 37)
                   have kp:∀ g o,w.heap.size≤g→W6.heap[g]?=some o→w9.heap[g]?=some o:=fun g o hg ho=>by
                     have h1:=(hb7.block g (Array.getElem?_eq_some_iff.1 ho).1).trans ho
                     exact (hz.t.block g (Array.getElem?_eq_some_iff.1 h1).1 (fun q=>by have:=H.out.2.1 g q;omega)).trans h1
                   have q10:=cell_of_row _ _ 0 _ _ _ (kp _ _ (by have:=HW.out.2.2.2.2.2.2.2.2;omega) HW.out.2.2.2.2.2.2.1)
                   rw [show (#[Value.pointer (some ⟨b7+1,0,none⟩)]:Array Value)[0]?=some (.pointer (some ⟨b7+1,0,none⟩)) from rfl] at q10
                   have H9:=Lib.hid (And.intro hz (And.intro (HW.out.2.2.2.1.trans (hb7.mono HW.out.2.2.2.1.size)) (And.intro (own_stay HW.out.2.2.1 (fun k hk hB hl=>hb7.block k hl)) (Nat.lt_of_lt_of_le (Array.getElem?_eq_some_iff.1 HW.out.2.2.2.2.2.1).1 hb7.size))))
                   clear hz hb7 kp)
      go_ret3
      exact .inr ⟨HSP.out,_,_,_,rfl,H9.out.2.1,H9.out.1,by have:=HW.out.2.2.2.2.2.2.2.2;omega,H9.out.2.2.2,by rw [← HEE.out.2];exact H9.out.2.2.1⟩
end Go.Proofs.YticjodhkmidljaaGreatDoor
namespace Go.Proofs.YticjodhkmidljaaGreatDoor
open Go.RowKit Go.Shelf
theorem sname_itoa {n:Nat} (h1:1≤n) (h2:n≤210):(Lib.itoa (n:Int)).length≤8:=by
  have h:=sname_len h1 h2
  unfold sname at h
  rw [List.length_cons,List.length_append,List.length_replicate] at h
  omega
theorem LoR.re {l p bb:Nat} {L:List Nat} {D:DskV} {w y:World} (h:LoR l p bb L D w y):∃ L1,LoR l p bb L1 D y y∧(∀ g ∈ L1,g<y.heap.size)∧∀ D' y',LoR l p bb L1 D' y y'→LoR l p bb L D' w y':=by
  obtain ⟨L1,n,C,h1,h2,h3⟩:=h.dsk
  obtain ⟨B,f1,f2,f3⟩:=h.far
  have hbel:Below B w y:=h.t.below (Below.refl _ _) f2 f3
  refine ⟨L1,⟨h.log,⟨L1,n,C,h1,fun g hg=>⟨(h2 g hg).1,.inl hg⟩,h3⟩,Turns.refl _ _,⟨B,f1.on hbel,Nat.le_trans f2 h.t.size,fun g hg=>?_⟩⟩,fun g hg=>(h2 g hg).1,fun D' y' h'=>?_⟩
  · rcases (h2 g hg).2 with q | q
    · exact f3 g q
    · omega
  · obtain ⟨L2,n',C',k1,k2,k3⟩:=h'.dsk
    refine ⟨h'.log,⟨L2,n',C',k1,fun g hg=>⟨(k2 g hg).1,?_⟩,k3⟩,⟨h'.t.os.trans h.t.os,h'.t.tape.trans h.t.tape,h'.t.out.trans h.t.out,Nat.le_trans h.t.size h'.t.size,fun g hg hn=>(h'.t.block g (Nat.lt_of_lt_of_le hg h.t.size) (fun q=>?_)).trans (h.t.block g hg hn)⟩,h.far⟩
    · rcases (k2 g hg).2 with q | q
      · exact (h2 g q).2
      · exact .inr (Nat.le_trans h.t.size q)
    · rcases (h2 g q).2 with q2 | q2
      · exact hn q2
      · omega
/-- A log at another world, all of whose blocks lie below it. -/
theorem LoR.at {l p bb:Nat} {L:List Nat} {D:DskV} {y W:World} (h:LoR l p bb L D y y) (_:∀ g ∈ L,g<y.heap.size) (hb:Below y.heap.size y W):LoR l p bb L D W W:=by
  obtain ⟨L1,n,C,h1,h2,h3⟩:=h.dsk
  obtain ⟨B,f1,f2,f3⟩:=h.far
  have hw:=h.below hb
  obtain ⟨L2,n2,C2,k1,k2,k3⟩:=hw.dsk
  have e:∀ g ∈ L1,g ∈ L:=fun g hg=>by
    rcases (h2 g hg).2 with q | q
    · exact q
    · have:=(h2 g hg).1;omega
  exact ⟨hw.log,⟨L1,n,C,h1.keep (fun g hg=>hb.block g (h2 g hg).1),fun g hg=>⟨Nat.lt_of_lt_of_le (h2 g hg).1 hb.size,.inl (e g hg)⟩,h3⟩,Turns.refl _ _,⟨B,f1.on (hb.mono f2),Nat.le_trans f2 hb.size,f3⟩⟩
set_option maxRecDepth 100000 in
set_option maxHeartbeats 4000000 in
theorem ladd1_any {l p bb:Nat} {L:List Nat} {D:DskV} {w y:World} (h:LoR l p bb L D w y) (g8 b2 b5 n:Nat) (vb:Value) (F:Bs) (hn:n≤208) (hF:F.length≤10000000)
    (HC:∀ z,Below y.heap.size y z→z.cell? ⟨g8,0,none⟩=some (.int .i64 (n:Int))∧z.cell? ⟨b2,0,none⟩=some (.pointer (some ⟨l,0,none⟩))∧z.cell? ⟨b5,0,none⟩=some vb∧ReadB z vb F) :
    Calls Tryz.prog 92 #[.pointer (some ⟨g8,0,none⟩),.pointer (some ⟨b2,0,none⟩),.pointer (some ⟨b5,0,none⟩)] y fun e y'=>e=.returned (.int .i64 ((appD D (sname (n+1)) F).2:Int))∧LoR l p bb L (appD D (sname (n+1)) F).1 w y':=by
  have hc0:=(HC y (Below.refl _ _)).1
  obtain ⟨fb,hfb⟩:∃ fb:ByteArray,fb=⟨F.toArray⟩:=⟨_,rfl⟩
  have HFB:=Lib.hid (And.intro hfb (show fb.data.toList=F from by rw [hfb]))
  obtain ⟨nb,hnb⟩:∃ nb:ByteArray,nb=⟨(sname (n+1)).toArray⟩:=⟨_,rfl⟩
  have hnl:(sname (n+1)).length=9:=sname_len (by omega) (by omega)
  obtain ⟨R,hR⟩:∃ R,R=appD D (sname (n+1)) F:=⟨_,rfl⟩
  rw [← hR]
  have HCK:=Lib.hid (fun (z:World) (hz:Below y.heap.size y z)=>And.intro (h.below hz).cell (And.intro (HC z hz) (HC z hz).2.2.2))
  have HNM:=Lib.hid (fun (z:World) (hz:Below y.heap.size y z)=>(show Calls Tryz.prog 70 #[.int .i64 ((n:Int)+1)] z (fun e w'=>e=.returned (.string nb)∧Below z.heap.size z w') from by
    rw [hnb,show (n:Int)+1=((n+1:Nat):Int) by omega]
    exact lname_any (n+1) (by omega) (sname_itoa (by omega) (by omega)) z (h.below hz).pv))
  have HAC:=Lib.hid (fun (z:World) (hz:Below y.heap.size y z)=>(show Calls Tryz.prog 66 #[.pointer (some ⟨p,0,none⟩),.string nb,.string fb] z (fun e w'=>e=.returned (.int .i64 (R.2:Int))∧LoR l p bb L R.1 w w') from by
    have h2:=(h.below hz).act (R:=appD D nb.data.toList fb.data.toList) (f:=66) (args:=#[.pointer (some ⟨p,0,none⟩),.string nb,.string fb]) (fun n C L1 hd hlt=>append_any nb fb (by rw [hnb];show (sname _).toArray.size≤_;rw [List.size_toArray,hnl];decide) (by rw [hfb];show F.toArray.size≤_;rw [List.size_toArray];unfold maxLen;omega) z hd hlt)
    rw [show nb.data.toList=sname (n+1) from by rw [hnb],HFB.out.2, ← hR] at h2
    exact h2))
  have hne:((n:Int) == 99999999)=false:=by rw [beq_eq_false_iff_ne];omega
  have hw1:IntKind.i64.wrap ((n:Int)+1)=(n:Int)+1:=IntWalk.i64_in _ (by omega)
  clear hn hF HC h hfb hnb hnl hR
  go_enter Tryz.func92,Tryz.ntmps92
  go_upto_region 3 with fail
  refine (wpIn_wide (n:=1)).1 ?_
  refine RegK.wpIn_region_can (F:=Fence.wide) (KeptW y) [(0,0),(1,0),(2,0),(3,0),(4,0),(5,0),(6,0),(8,0),(9,0),(7,1),(10,3),(11,0)] (by kernel_rfl) (by kernel_rfl) (by kernel_rfl) (fun _ _ d _ _ h=>by cases d <;> exact h) ⟨rfl,rfl,rfl,Nat.le_refl _,fun _ _=>rfl⟩ ?_
  dsimp only [RegK.pick,List.getElem?_cons_zero,List.getElem?_cons_succ]
  change RegK.Can _ _ _ _ _ _ _ _ y.drew
  have hkd:KeptW y y.drew:=⟨rfl,rfl,rfl,Nat.le_refl _,fun _ _=>rfl⟩
  generalize y.drew=v8 at *
  refine RegK.can_reads ?_
  intro K hK
  go_simp
  refine ⟨.pointer (some ⟨l,0,none⟩),fun q hy=>?_,hK _ ?_⟩
  · have c0:=(HCK.out _ (KeptW.bel hy)).2.1.2.1
    go_simp
  clear hK K
  iterate 2 (refine RegK.can_reads ?_;intro K hK;go_simp;(first | refine ⟨_,fun _ _=>rfl,hK _ ?_⟩ | refine hK _ ?_);clear hK K)
  refine RegK.can_reads ?_
  intro K hK
  go_simp
  refine ⟨.pointer (some ⟨p,0,none⟩),fun q hy=>?_,hK _ ?_⟩
  · have c0:=(HCK.out _ (KeptW.bel hy)).1
    go_simp
  clear hK K
  refine RegK.can_reads ?_;intro K hK;go_simp;(first | refine ⟨_,fun _ _=>rfl,hK _ ?_⟩ | refine hK _ ?_);clear hK K
  refine RegK.can_reads ?_
  intro K hK
  go_simp
  refine ⟨.int .i64 (n:Int),fun q hy=>?_,hK _ ?_⟩
  · have c0:=(HCK.out _ (KeptW.bel hy)).2.1.1
    go_simp
  clear hK K
  refine RegK.can_reads ?_;intro K hK;go_simp;(first | refine ⟨_,fun _ _=>rfl,hK _ ?_⟩ | refine hK _ ?_);clear hK K
  refine RegK.can_reads ?_
  intro K hK
  go_simp
  refine ⟨vb,fun q hy=>?_,hK _ ?_⟩
  · have c0:=(HCK.out _ (KeptW.bel hy)).2.1.2.2.1
    go_simp
  clear hK K
  refine RegK.can_reads ?_
  intro K hK
  go_simp
  refine ⟨.string fb,fun q hy=>?_,hK _ ?_⟩
  · have hcv:=((HCK.out q (KeptW.bel hy)).2.2.conv (P:=Tryz.prog) (src:=121) (dst:=9) (e:=5) Tryz.underlying121 Tryz.underlying5 Tryz.underlying9);rw [← HFB.out.1] at hcv
    go_simp
  clear hK K
  refine RegK.can_turns (fun _=>trivial) ?_
  intro K K0 hK hK0
  go_simp
  refine ⟨trivial,?_⟩
  refine (callsIn_wide.2 (HNM.out v8 (KeptW.bel hkd))).mono ?_
  rintro e v2 ⟨rfl,hb7⟩
  have v2k:KeptW y v2:=KeptW.mono hkd hb7
  refine hK _ _ v2k ?_
  clear hK K hK0 K0
  refine RegK.can_frees (fun _=>trivial) ?_
  intro K K0 hK hK0
  go_simp
  refine ⟨trivial,?_⟩
  refine (callsIn_wide.2 (HAC.out v2 (KeptW.bel v2k))).mono ?_
  rintro e w9 ⟨rfl,hz9⟩
  refine hK (fun _=>True) _ _ trivial ?_
  clear hK K hK0 K0
  refine RegK.can_reads ?_;intro K hK;go_simp;(first | refine ⟨_,fun _ _=>rfl,hK _ ?_⟩ | refine hK _ ?_);clear hK K
  refine RegK.can_nil ?_
  have HZ:=Lib.hid hz9
  clear hz9
  go_wp2
  go_ret
  exact ⟨rfl,HZ.out⟩
end Go.Proofs.YticjodhkmidljaaGreatDoor
namespace Go.Proofs.YticjodhkmidljaaGreatDoor
open Go.RowKit Go.Shelf
theorem putF3_nil (x:Bs) (h:frOk x):putF3 [] x=(frL x,0):=by unfold putF3;rw [if_pos h];rfl
/-- Add, where it has read the segments. -/
structure AddW (l p bb:Nat) (L:List Nat) (D:DskV) (B:Nat) (F:Bs) (vb:Value) (b2 b5:Nat) (w y:World):Prop where
  lor:LoR l p bb L D w y
  r2:y.heap[b2]?=some (.cells #[.pointer (some ⟨l,0,none⟩)] 59 (0,0))
  r5:y.heap[b5]?=some (.cells #[vb] 121 (0,0))
  own:OwnB y B 5 vb F
  far:(∀ g ∈ L,g<B)∧B≤b2∧B≤b5∧B≤w.heap.size
theorem AddW.below {l p bb B b2 b5:Nat} {L:List Nat} {D:DskV} {F:Bs} {vb:Value} {w y y':World} (h:AddW l p bb L D B F vb b2 b5 w y) (hb:Below y.heap.size y y'):AddW l p bb L D B F vb b2 b5 w y' :=
  ⟨h.lor.below hb,(hb.block _ (Array.getElem?_eq_some_iff.1 h.r2).1).trans h.r2,(hb.block _ (Array.getElem?_eq_some_iff.1 h.r5).1).trans h.r5,h.own.below hb,h.far⟩
theorem AddW.on {l p bb B b2 b5:Nat} {L:List Nat} {D D':DskV} {F:Bs} {vb:Value} {w y y':World} (h:AddW l p bb L D B F vb b2 b5 w y) (hw:w=y) (h':LoR l p bb L D' y y'):AddW l p bb L D' B F vb b2 b5 y y':=by
  subst hw
  have kp:∀ g o,B≤g→w.heap[g]?=some o→y'.heap[g]?=some o:=fun g o hg ho=>(h'.t.block g (Array.getElem?_eq_some_iff.1 ho).1 (fun q=>by have:=h.far.1 g q;omega)).trans ho
  exact ⟨h',kp _ _ h.far.2.1 h.r2,kp _ _ h.far.2.2.1 h.r5,own_stay h.own (fun k hk hB hl=>by rw [kp k _ hB (Array.getElem?_eq_getElem hl),Array.getElem?_eq_getElem hl]),h.far⟩
theorem AddW.cells {l p bb B b2 b5:Nat} {L:List Nat} {D:DskV} {F:Bs} {vb:Value} {w y:World} (h:AddW l p bb L D B F vb b2 b5 w y):y.cell? ⟨l,0,none⟩=some (.pointer (some ⟨p,0,none⟩))∧(True∧y.cell? ⟨b2,0,none⟩=some (.pointer (some ⟨l,0,none⟩))∧y.cell? ⟨b5,0,none⟩=some vb)∧ReadB y vb F :=
  ⟨h.lor.cell,⟨trivial,cell_of_row _ _ 0 _ _ _ h.r2,cell_of_row _ _ 0 _ _ _ h.r5⟩,h.own.read⟩
set_option maxRecDepth 100000 in
set_option maxHeartbeats 16000000 in
theorem ladd_any {l p bb:Nat} {L:List Nat} {D:DskV} {w0 y:World} (h0:LoR l p bb L D w0 y) (hlen:D.fs.length≤100000) (hsm:∀ x ∈ segL D.fs,x.1≤208) (x:ByteArray) (hx:x.size≤1000000) :
    Calls Tryz.prog 61 #[.pointer (some ⟨l,0,none⟩),.string x] y fun e y'=>e=.returned (.int .i64 ((laddD D x.data.toList).2:Int))∧LoR l p bb L (laddD D x.data.toList).1 w0 y':=by
  obtain ⟨L1,h,hL1,hback⟩:=h0.re
  have HBK:=Lib.hid hback
  clear h0 hback
  obtain ⟨R,hR⟩:∃ R,R=laddD D x.data.toList:=⟨_,rfl⟩
  rw [← hR]
  have Hp:=Lib.hid (fun (z:World)=>fput_any (.slice none 0 0) [] x (by simp) (by unfold maxLen;omega) z (ReadB.nil z))
  have H:=Lib.hid (And.intro h (And.intro hL1 (And.intro hlen hsm)))
  have HXS:=Lib.hid hx
  unfold laddD at hR
  clear h hL1 hlen hsm hx
  by_cases hf:frOk x.data.toList
  · rw [if_neg (fun q=>q hf)] at hR
    obtain ⟨F,hF⟩:∃ F,F=frL x.data.toList:=⟨_,rfl⟩
    rw [← hF] at hR
    have HP:=Lib.hid (show ∀ z:World,Calls Tryz.prog 63 #[.slice none 0 0,.string x] z (fun e w'=>∃ v',e=.returned (.tuple #[v',.int .i64 0])∧OwnB w' z.heap.size 5 v' F∧Below z.heap.size z w') from fun z=>by have h2:=Hp.out z;rw [putF3_nil _ hf, ← hF] at h2;exact h2)
    have HSG:=Lib.hid (fun (z:World) (hz:LoR l p bb L1 D y z)=>hz.segs (by have:=H.out.2.2.1;omega))
    have hFl:F.length≤10000000:=by
      rw [hF,frL_len]
      have h1:=(numL_len x.data.toList.length).1
      have h2:=str_len x
      have:=HXS.out
      omega
    have HRR:=Lib.hid (And.intro hR hFl)
    clear hf hR hF hFl
    go_enter Tryz.func61,Tryz.ntmps61
    go_upto_region 7 with (first
      | (go_at_call 63;(with_reducible refine (HP.out _).mono ?_);rintro e w2 ⟨vb,rfl,ho,hb⟩;obtain ⟨va,vn,vc,rfl⟩:=ho.read.slice;have H2:=Lib.hid (And.intro ho hb);clear ho hb
         have hb1:=(Below.refl y.heap.size y).alloc (Nat.le_refl _) (.cells #[.pointer (some ⟨l,0,none⟩)] 59)
         have r2:=(H2.out.2.block y.heap.size (by simp)).trans (heap_alloc_new y (.cells #[.pointer (some ⟨l,0,none⟩)] 59))
         have hb2:=hb1.trans (H2.out.2.mono hb1.size)
         have hbX:=hb2.alloc hb2.size (.cells #[.slice va vn vc] 121)
         have hA:AddW l p bb L1 D y.heap.size F (.slice va vn vc) y.heap.size w2.heap.size y (w2.alloc (.cells #[.slice va vn vc] 121)):=⟨H.out.1.below hbX,(heap_alloc_old _ _ (Array.getElem?_eq_some_iff.1 r2).1).trans r2,heap_alloc_new _ _,(H2.out.1.mono hb1.size).alloc _,⟨H.out.2.1,Nat.le_refl _,hb2.size,Nat.le_refl _⟩⟩
         have HA:=Lib.hid (And.intro hA hbX)
         have q2:=cell_of_row _ _ 0 _ _ _ hA.r2
         have q3:=hA.lor.cell
         clear hb1 r2 hb2 hbX hA)
      | (go_at_call 47;(with_reducible refine (HSG.out _ HA.out.1.lor).mono ?_);rintro e w4 ⟨v,rfl,hs,hL,hb⟩;have HA4:=Lib.hid (And.intro (HA.out.1.below hb) (And.intro hs (HA.out.2.trans (hb.mono HA.out.2.size))));obtain ⟨A,c,rfl, -⟩:=hs;clear hL hb q2 q3))
    generalize w2.heap.size=b5 at *
    obtain ⟨N,hN⟩:∃ N,N=(segL D.fs).length:=⟨_,rfl⟩
    have HNN:=Lib.hid hN
    rw [← hN]
    have HSR:=Lib.hid (by have h2:=HA4.out.2.1;rw [← hN] at h2;exact h2)
    have HW:=Lib.hid HA4.out.1
    have HBL:=Lib.hid HA4.out.2.2
    clear hN HA4 HA H2
    have hz0:y.heap.size≤w4.heap.size:=HW.out.lor.t.size
    have HL4:=Lib.hid (fun (z:World) (hz:Below w4.heap.size w4 z)=>show LoR l p bb L1 D z z from H.out.1.at H.out.2.1 (HBL.out.trans (hz.mono HBL.out.size)))
    have hN6:N≤100000:=by rw [HNN.out];exact Nat.le_trans (segL_len D.fs) H.out.2.2.1
    obtain ⟨fb,hfb⟩:∃ fb:ByteArray,fb=⟨F.toArray⟩:=⟨_,rfl⟩
    have HFB:=Lib.hid (And.intro hfb (And.intro (show fb.data.toList=F from by rw [hfb]) (show fb.size≤maxLen from by rw [hfb];show F.toArray.size≤_;rw [List.size_toArray];have:=HRR.out.2;unfold maxLen;omega)))
    have HCK:=Lib.hid (fun (z:World) (hz:Below w4.heap.size w4 z)=>(HW.out.below hz).cells)
    clear hfb
    cases hl:lastS D with
    | none =>
      have hs:segL D.fs=[]:=List.getLast?_eq_none_iff.1 hl
      have hn0:N=0:=by rw [HNN.out,hs];rfl
      have hR:=HRR.out.1
      rw [hl] at hR
      dsimp only at hR
      obtain ⟨nb,hnb⟩:∃ nb:ByteArray,nb=⟨(sname 1).toArray⟩:=⟨_,rfl⟩
      have hnl:(sname 1).length=9:=sname_len (by omega) (by omega)
      have HNM:=Lib.hid (fun (z:World) (hz:Below w4.heap.size w4 z)=>(show Calls Tryz.prog 70 #[.int .i64 1] z (fun e w'=>e=.returned (.string nb)∧Below z.heap.size z w') from by
        rw [hnb]
        exact lname_any 1 (by omega) (sname_itoa (by omega) (by omega)) z (HW.out.below hz).lor.pv))
      have HAC:=Lib.hid (fun (z:World) (hz:Below w4.heap.size w4 z)=>(show Calls Tryz.prog 66 #[.pointer (some ⟨p,0,none⟩),.string nb,.string fb] z (fun e w'=>e=.returned (.int .i64 (R.2:Int))∧LoR l p bb L1 R.1 y w') from by
        have h2:=(HW.out.below hz).lor.act (R:=appD D nb.data.toList fb.data.toList) (f:=66) (args:=#[.pointer (some ⟨p,0,none⟩),.string nb,.string fb]) (fun n C L1 hd hlt=>append_any nb fb (by rw [hnb];show (sname _).toArray.size≤_;rw [List.size_toArray,hnl];decide) HFB.out.2.2 z hd hlt)
        rw [show nb.data.toList=sname 1 from by rw [hnb],HFB.out.2.1, ← hR] at h2
        exact h2))
      clear hl hs hR hnb hnl
      subst hn0
      go_upto_region 8 with fail
      refine (wpIn_wide (n:=1)).1 ?_
      refine RegK.wpIn_region_can (F:=Fence.wide) (KeptW w4) [(0,0),(1,0),(2,0),(3,0),(5,0),(6,0),(4,1),(7,3),(8,0)] (by kernel_rfl) (by kernel_rfl) (by kernel_rfl) (fun _ _ d _ _ h=>by cases d <;> exact h) ⟨rfl,rfl,rfl,Nat.le_refl _,fun _ _=>rfl⟩ ?_
      dsimp only [RegK.pick,List.getElem?_cons_zero,List.getElem?_cons_succ]
      change RegK.Can _ _ _ _ _ _ _ _ w4.drew
      have hkd:KeptW w4 w4.drew:=⟨rfl,rfl,rfl,Nat.le_refl _,fun _ _=>rfl⟩
      generalize w4.drew=v8 at *
      refine RegK.can_reads ?_
      intro K hK
      go_simp
      refine ⟨.pointer (some ⟨l,0,none⟩),fun q hy=>?_,hK _ ?_⟩
      · have c0:=(HCK.out _ (KeptW.bel hy)).2.1.2.1
        go_simp
      clear hK K
      iterate 2 (refine RegK.can_reads ?_;intro K hK;go_simp;(first | refine ⟨_,fun _ _=>rfl,hK _ ?_⟩ | refine hK _ ?_);clear hK K)
      refine RegK.can_reads ?_
      intro K hK
      go_simp
      refine ⟨.pointer (some ⟨p,0,none⟩),fun q hy=>?_,hK _ ?_⟩
      · have c0:=(HCK.out _ (KeptW.bel hy)).1
        go_simp
      clear hK K
      refine RegK.can_reads ?_
      intro K hK
      go_simp
      refine ⟨.slice va vn vc,fun q hy=>?_,hK _ ?_⟩
      · have c0:=(HCK.out _ (KeptW.bel hy)).2.1.2.2
        go_simp
      clear hK K
      refine RegK.can_reads ?_
      intro K hK
      go_simp
      refine ⟨.string fb,fun q hy=>?_,hK _ ?_⟩
      · have hcv:=((HCK.out q (KeptW.bel hy)).2.2.conv (P:=Tryz.prog) (src:=121) (dst:=9) (e:=5) Tryz.underlying121 Tryz.underlying5 Tryz.underlying9);rw [← HFB.out.1] at hcv
        go_simp
      clear hK K
      refine RegK.can_turns (fun _=>trivial) ?_
      intro K K0 hK hK0
      go_simp
      refine ⟨trivial,?_⟩
      refine (callsIn_wide.2 (HNM.out v8 (KeptW.bel hkd))).mono ?_
      rintro e v2 ⟨rfl,hb7⟩
      have v2k:KeptW w4 v2:=KeptW.mono hkd hb7
      refine hK _ _ v2k ?_
      clear hK K hK0 K0
      refine RegK.can_frees (fun _=>trivial) ?_
      intro K K0 hK hK0
      go_simp
      refine ⟨trivial,?_⟩
      refine (callsIn_wide.2 (HAC.out v2 (KeptW.bel v2k))).mono ?_
      rintro e w9 ⟨rfl,hz9⟩
      refine hK (fun _=>True) _ _ trivial ?_
      clear hK K hK0 K0
      refine RegK.can_reads ?_;intro K hK;go_simp;(first | refine ⟨_,fun _ _=>rfl,hK _ ?_⟩ | refine hK _ ?_);clear hK K
      refine RegK.can_nil ?_
      have HZ:=Lib.hid (HBK.out _ _ hz9)
      clear hz9
      go_wp2
      go_ret
      exact ⟨rfl,HZ.out⟩
    | some s =>
      obtain ⟨M,hM,hxs,hxm⟩:=last_at hl
      have hnl:=seg_nm hxm
      have hNM:N=M+1:=by rw [HNN.out];exact hM
      obtain ⟨A',c',hv,Y,hY1,hY2⟩:=HSR.out
      injection hv with e1 e2 e3
      subst e1 e3
      obtain ⟨gk,rfl,hck⟩:=hY2 M s hxs
      obtain ⟨k0,k1,k2,k3⟩:=hck w4 (KeptZ.refl _ _)
      obtain ⟨sb,hsb⟩:∃ sb:ByteArray,sb=⟨s.2.by_.toArray⟩:=⟨_,rfl⟩
      have hsz:sb.size=s.2.by_.length:=by rw [hsb];simp [ByteArray.size]
      rw [← hsb] at k2
      obtain ⟨nb,hnb⟩:∃ nb:ByteArray,nb=⟨s.2.nm.toArray⟩:=⟨_,rfl⟩
      rw [← hnb] at k1
      have hR:=HRR.out.1
      rw [hl] at hR
      dsimp only at hR
      have hs8:=H.out.2.2.2 s hxm
      have HS:=Lib.hid (And.intro hs8 (And.intro hnb (And.intro hnl hsz)))
      have hMn:M<N:=by omega
      have hMI:(M:Int)<(N:Int):=by omega
      have hw1:wrap64 ((N:Int) - 1)=(M:Int):=by unfold wrap64;omega
      have hNz:((N:Int) == 0)=false:=by rw [beq_eq_false_iff_ne];omega
      have HNM:=Lib.hid hNM
      rw [show M=N - 1 by omega] at k0 k1 k2 k3
      clear hl hM hxs hxm hnl hNM e2 hY1 hY2 hck hsb hnb hs8
      by_cases hlt:s.2.by_.length<1024
      · rw [if_pos hlt] at hR
        have hl1:sb.size<1024:=by omega
        have HR1:=Lib.hid hR
        clear hR hlt hsz
        go_upto_region 10 with fail
        have hb5:=(Below.refl w4.heap.size w4).alloc (Nat.le_refl _) (.cells #[.int .i64 (s.1:Int),.string nb,.string sb,.int .i64 (s.2.sy:Int)] 114)
        have r8:(w4.alloc (.cells #[.int .i64 (s.1:Int),.string nb,.string sb,.int .i64 (s.2.sy:Int)] 114)).heap[w4.heap.size]?=some (.cells #[.int .i64 (s.1:Int),.string nb,.string sb,.int .i64 (s.2.sy:Int)] 114 (0,0)):=heap_alloc_new _ _
        change Code.wp _ _ _ _ (w4.alloc (.cells #[.int .i64 (s.1:Int),.string nb,.string sb,.int .i64 (s.2.sy:Int)] 114))
        generalize w4.alloc (.cells #[.int .i64 (s.1:Int),.string nb,.string sb,.int .i64 (s.2.sy:Int)] 114)=W5 at *
        obtain ⟨g8,hg8⟩:∃ g8,g8=w4.heap.size:=⟨_,rfl⟩
        have hgy:y.heap.size≤g8:=by omega
        rw [← hg8] at r8 ⊢
        have d2:=cell_of_row _ _ 2 _ _ _ r8
        rw [show (#[Value.int .i64 (s.1:Int),.string nb,.string sb,.int .i64 (s.2.sy:Int)])[2]?=some (.string sb) from rfl] at d2
        have HA5:=Lib.hid (HW.out.below hb5)
        have H5:=Lib.hid (And.intro hb5 (And.intro r8 hgy))
        have hb5s:=hb5.size
        clear hb5 r8 hg8 k0 k1 k2 k3
        clear HCK
        have HCK:=Lib.hid (fun (z:World) (hz:Below W5.heap.size W5 z)=>(show z.cell? ⟨l,0,none⟩=some (.pointer (some ⟨p,0,none⟩))∧(z.cell? ⟨g8,1,none⟩=some (.string nb)∧z.cell? ⟨y.heap.size,0,none⟩=some (.pointer (some ⟨l,0,none⟩))∧z.cell? ⟨b5,0,none⟩=some (.slice va vn vc))∧ReadB z (.slice va vn vc) F from by
          obtain ⟨c1,c2,c3⟩:=(HA5.out.below hz).cells
          exact ⟨c1,⟨cell_of_row _ _ 1 _ _ _ ((hz.block _ (Array.getElem?_eq_some_iff.1 H5.out.2.1).1).trans H5.out.2.1),c2.2⟩,c3⟩))
        have HAC:=Lib.hid (fun (z:World) (hz:Below W5.heap.size W5 z)=>(show Calls Tryz.prog 66 #[.pointer (some ⟨p,0,none⟩),.string nb,.string fb] z (fun e w'=>e=.returned (.int .i64 (R.2:Int))∧LoR l p bb L1 R.1 y w') from by
          have h2:=(HA5.out.below hz).lor.act (R:=appD D nb.data.toList fb.data.toList) (f:=66) (args:=#[.pointer (some ⟨p,0,none⟩),.string nb,.string fb]) (fun n C L1 hd hlt=>append_any nb fb (by rw [HS.out.2.1];show s.2.nm.toArray.size≤_;rw [List.size_toArray,HS.out.2.2.1];decide) HFB.out.2.2 z hd hlt)
          rw [show nb.data.toList=s.2.nm from by rw [HS.out.2.1],HFB.out.2.1, ← HR1.out] at h2
          exact h2))
        go_upto_region 11 with fail
        clear d2
        refine (wpIn_wide (n:=1)).1 ?_
        refine RegK.wpIn_region_can (F:=Fence.wide) (KeptW W5) [(0,0),(1,0),(2,0),(3,0),(4,0),(5,0),(6,0),(7,0),(8,0),(9,3),(10,0)] (by kernel_rfl) (by kernel_rfl) (by kernel_rfl) (fun _ _ d _ _ h=>by cases d <;> exact h) ⟨rfl,rfl,rfl,Nat.le_refl _,fun _ _=>rfl⟩ ?_
        dsimp only [RegK.pick,List.getElem?_cons_zero,List.getElem?_cons_succ]
        change RegK.Can _ _ _ _ _ _ _ _ W5.drew
        have hkd:KeptW W5 W5.drew:=⟨rfl,rfl,rfl,Nat.le_refl _,fun _ _=>rfl⟩
        generalize W5.drew=v8 at *
        refine RegK.can_reads ?_
        intro K hK
        go_simp
        refine ⟨.pointer (some ⟨l,0,none⟩),fun q hy=>?_,hK _ ?_⟩
        · have c0:=(HCK.out _ (KeptW.bel hy)).2.1.2.1
          go_simp
        clear hK K
        iterate 2 (refine RegK.can_reads ?_;intro K hK;go_simp;(first | refine ⟨_,fun _ _=>rfl,hK _ ?_⟩ | refine hK _ ?_);clear hK K)
        refine RegK.can_reads ?_
        intro K hK
        go_simp
        refine ⟨.pointer (some ⟨p,0,none⟩),fun q hy=>?_,hK _ ?_⟩
        · have c0:=(HCK.out _ (KeptW.bel hy)).1
          go_simp
        clear hK K
        iterate 2 (refine RegK.can_reads ?_;intro K hK;go_simp;(first | refine ⟨_,fun _ _=>rfl,hK _ ?_⟩ | refine hK _ ?_);clear hK K)
        refine RegK.can_reads ?_
        intro K hK
        go_simp
        refine ⟨.string nb,fun q hy=>?_,hK _ ?_⟩
        · have c0:=(HCK.out _ (KeptW.bel hy)).2.1.1
          go_simp
        clear hK K
        refine RegK.can_reads ?_
        intro K hK
        go_simp
        refine ⟨.slice va vn vc,fun q hy=>?_,hK _ ?_⟩
        · have c0:=(HCK.out _ (KeptW.bel hy)).2.1.2.2
          go_simp
        clear hK K
        refine RegK.can_reads ?_
        intro K hK
        go_simp
        refine ⟨.string fb,fun q hy=>?_,hK _ ?_⟩
        · have hcv:=((HCK.out q (KeptW.bel hy)).2.2.conv (P:=Tryz.prog) (src:=121) (dst:=9) (e:=5) Tryz.underlying121 Tryz.underlying5 Tryz.underlying9);rw [← HFB.out.1] at hcv
          go_simp
        clear hK K
        refine RegK.can_frees (fun _=>trivial) ?_
        intro K K0 hK hK0
        go_simp
        refine ⟨trivial,?_⟩
        refine (callsIn_wide.2 (HAC.out v8 (KeptW.bel hkd))).mono ?_
        rintro e w9 ⟨rfl,hz9⟩
        refine hK (fun _=>True) _ _ trivial ?_
        clear hK K hK0 K0
        refine RegK.can_reads ?_;intro K hK;go_simp;(first | refine ⟨_,fun _ _=>rfl,hK _ ?_⟩ | refine hK _ ?_);clear hK K
        refine RegK.can_nil ?_
        have HZ:=Lib.hid (HBK.out _ _ hz9)
        clear hz9
        go_wp2
        go_ret
        exact ⟨rfl,HZ.out⟩
      · rw [if_neg hlt] at hR
        have hl1 : ¬ (sb.size<1024):=by omega
        have HR1:=Lib.hid hR
        clear hR hlt hsz
        go_upto_region 10 with fail
        have hb5:=(Below.refl w4.heap.size w4).alloc (Nat.le_refl _) (.cells #[.int .i64 (s.1:Int),.string nb,.string sb,.int .i64 (s.2.sy:Int)] 114)
        have r8:(w4.alloc (.cells #[.int .i64 (s.1:Int),.string nb,.string sb,.int .i64 (s.2.sy:Int)] 114)).heap[w4.heap.size]?=some (.cells #[.int .i64 (s.1:Int),.string nb,.string sb,.int .i64 (s.2.sy:Int)] 114 (0,0)):=heap_alloc_new _ _
        change Code.wp _ _ _ _ (w4.alloc (.cells #[.int .i64 (s.1:Int),.string nb,.string sb,.int .i64 (s.2.sy:Int)] 114))
        generalize w4.alloc (.cells #[.int .i64 (s.1:Int),.string nb,.string sb,.int .i64 (s.2.sy:Int)] 114)=W5 at *
        obtain ⟨g8,hg8⟩:∃ g8,g8=w4.heap.size:=⟨_,rfl⟩
        have hgy:y.heap.size≤g8:=by omega
        rw [← hg8] at r8 ⊢
        have d2:=cell_of_row _ _ 2 _ _ _ r8
        rw [show (#[Value.int .i64 (s.1:Int),.string nb,.string sb,.int .i64 (s.2.sy:Int)])[2]?=some (.string sb) from rfl] at d2
        have HA5:=Lib.hid (HW.out.below hb5)
        have H5:=Lib.hid (And.intro hb5 (And.intro r8 hgy))
        have hb5s:=hb5.size
        clear hb5 r8 hg8 k0 k1 k2 k3
        have hbb:R=if (lsyncD D).2≠0 then lsyncD D else appD (lsyncD D).1 (sname (s.1+1)) F:=by
          rw [HR1.out]
          by_cases hq:(lsyncD D).2≠0
          · rw [if_pos hq,if_pos hq]
          · rw [if_neg hq,if_neg hq,if_neg (by have:=HS.out.1;omega)]
        have HST:=Lib.hid (show Calls Tryz.prog 49 #[.slice (some ⟨W5.heap.size,0,none⟩) 2 2] (W5.alloc (.cells #[.func (.func 30) #[.pointer (some ⟨l,0,none⟩)] #[],.func (.func 92) #[] #[.pointer (some ⟨g8,0,none⟩),.pointer (some ⟨y.heap.size,0,none⟩),.pointer (some ⟨b5,0,none⟩)]] 37)) (fun e y'=>e=.returned (.int .i64 (R.2:Int))∧LoR l p bb L1 R.1 (W5.alloc (.cells #[.func (.func 30) #[.pointer (some ⟨l,0,none⟩)] #[],.func (.func 92) #[] #[.pointer (some ⟨g8,0,none⟩),.pointer (some ⟨y.heap.size,0,none⟩),.pointer (some ⟨b5,0,none⟩)]] 37)) y') from by
          have hcs:=two_cells W5 (.func (.func 30) #[.pointer (some ⟨l,0,none⟩)] #[]) (.func (.func 92) #[] #[.pointer (some ⟨g8,0,none⟩),.pointer (some ⟨y.heap.size,0,none⟩),.pointer (some ⟨b5,0,none⟩)]) 37
          have hb7:=(Below.refl W5.heap.size W5).alloc (Nat.le_refl _) (.cells #[.func (.func 30) #[.pointer (some ⟨l,0,none⟩)] #[],.func (.func 92) #[] #[.pointer (some ⟨g8,0,none⟩),.pointer (some ⟨y.heap.size,0,none⟩),.pointer (some ⟨b5,0,none⟩)]] 37)
          have hz7:W5.heap.size<((W5.alloc (.cells #[.func (.func 30) #[.pointer (some ⟨l,0,none⟩)] #[],.func (.func 92) #[] #[.pointer (some ⟨g8,0,none⟩),.pointer (some ⟨y.heap.size,0,none⟩),.pointer (some ⟨b5,0,none⟩)]] 37))).heap.size:=by simp
          generalize (W5.alloc (.cells #[.func (.func 30) #[.pointer (some ⟨l,0,none⟩)] #[],.func (.func 92) #[] #[.pointer (some ⟨g8,0,none⟩),.pointer (some ⟨y.heap.size,0,none⟩),.pointer (some ⟨b5,0,none⟩)]] 37))=W7 at *
          have hW7:AddW l p bb L1 D y.heap.size F (.slice va vn vc) y.heap.size b5 W7 W7:=by
            have h1:=HA5.out.below hb7
            exact ⟨HL4.out W7 (H5.out.1.trans (hb7.mono H5.out.1.size)),h1.r2,h1.r5,h1.own,⟨h1.far.1,h1.far.2.1,h1.far.2.2.1,by omega⟩⟩
          have r8:=(hb7.block g8 (Array.getElem?_eq_some_iff.1 H5.out.2.1).1).trans H5.out.2.1
          have hgy:=H5.out.2.2
          have hfar:=hW7.far.1
          refine (steps_any W5.heap.size 2 2 [(30,#[.pointer (some ⟨l,0,none⟩)],#[]),(92,#[],#[.pointer (some ⟨g8,0,none⟩),.pointer (some ⟨y.heap.size,0,none⟩),.pointer (some ⟨b5,0,none⟩)])] rfl (by decide)
            (fun i y=>match i with | 0=>LoR l p bb L1 D W7 y | 1=>(lsyncD D).2=0∧LoR l p bb L1 (lsyncD D).1 W7 y | _=>R.2=0∧LoR l p bb L1 R.1 W7 y) (fun k y=>k=(R.2:Int)∧LoR l p bb L1 R.1 W7 y) W7 hW7.lor ?_ ?_ ?_).mono ?_
          · intro f hf xs y
            rcases List.mem_cons.1 hf with rfl | hf
            · exact enters_of Tryz.func30 (by kernel_rfl) rfl xs y
            · rw [List.mem_singleton.1 hf]
              exact enters_of Tryz.func92 (by kernel_rfl) rfl xs y
          · intro i f y' hf hI
            have tt:Turns L1 W7 y':=by
              match i,hI with
              | 0,hI=>exact hI.t
              | 1,hI=>exact hI.2.t
              | n+2,hI=>exact hI.2.t
            have cc:∀ j,y'.cell? ⟨W5.heap.size,j,none⟩=W7.cell? ⟨W5.heap.size,j,none⟩:=fun j=>World.cell?_of_block (tt.block _ hz7 (fun q=>by have h1:W5.heap.size<y.heap.size:=hfar _ q;omega))
            match i,hf with
            | 0,hf=>cases hf;exact (cc 0).trans hcs.1
            | 1,hf=>cases hf;exact (cc 1).trans hcs.2
            | n+2,hf=>simp at hf
          · intro i f y' hf hI
            match i,hf,hI with
            | 0,hf,hI =>
              cases hf
              have hI:LoR l p bb L1 D W7 y':=hI
              refine (lsync_any hI (by have:=H.out.2.2.1;omega)).mono ?_
              rintro e y2 ⟨rfl,hq⟩
              by_cases h0:(lsyncD D).2=0
              · exact ⟨_,rfl,.inl ⟨by rw [h0];rfl,h0,hq⟩⟩
              · refine ⟨_,rfl,.inr ⟨by omega,?_⟩⟩
                rw [hbb,if_pos h0]
                exact ⟨rfl,hq⟩
            | 1,hf,hI =>
              cases hf
              obtain ⟨h0,hI⟩:(lsyncD D).2=0∧LoR l p bb L1 (lsyncD D).1 W7 y':=hI
              have hA:=hW7.on rfl hI
              have r8':=(hI.t.block g8 (Array.getElem?_eq_some_iff.1 r8).1 (fun q=>by have:=hfar _ q;omega)).trans r8
              refine (ladd1_any hI g8 y.heap.size b5 s.1 (.slice va vn vc) F HS.out.1 HRR.out.2 (fun z hz=>?_)).mono ?_
              · obtain ⟨c1,c2,c3⟩:=(hA.below hz).cells
                exact ⟨cell_of_row _ _ 0 _ _ _ ((hz.block _ (Array.getElem?_eq_some_iff.1 r8').1).trans r8'),c2.2.1,c2.2.2,c3⟩
              · rintro e y2 ⟨rfl,hq⟩
                have hRe:R=appD (lsyncD D).1 (sname (s.1+1)) F:=by rw [hbb,if_neg (fun q=>q h0)]
                rw [← hRe] at hq ⊢
                by_cases hr0:R.2=0
                · exact ⟨_,rfl,.inl ⟨by rw [hr0];rfl,hr0,hq⟩⟩
                · exact ⟨_,rfl,.inr ⟨by omega,rfl,hq⟩⟩
            | n+2,hf,_=>simp at hf
          · rintro e y2 ⟨k,rfl,⟨rfl,hI⟩ | ⟨_,rfl,hI⟩⟩
            · have hI:R.2=0∧LoR l p bb L1 R.1 W7 y2:=hI
              exact ⟨by rw [hI.1];rfl,hI.2⟩
            · exact ⟨rfl,hI⟩)
        have q2:=cell_of_row _ _ 0 _ _ _ HA5.out.r2
        rw [show (#[Value.pointer (some ⟨l,0,none⟩)]:Array Value)[0]?=some (.pointer (some ⟨l,0,none⟩)) from rfl] at q2
        clear hbb
        go_wp2_with (go_at_call 49;(with_reducible refine HST.out.mono ?_);rintro e w9 ⟨rfl,hz⟩;have HZ:=Lib.hid hz;clear hz)
        go_ret
        have hb7:=(Below.refl W5.heap.size W5).alloc (Nat.le_refl _) (.cells #[.func (.func 30) #[.pointer (some ⟨l,0,none⟩)] #[],.func (.func 92) #[] #[.pointer (some ⟨g8,0,none⟩),.pointer (some ⟨y.heap.size,0,none⟩),.pointer (some ⟨b5,0,none⟩)]] 37)
        have hbA:=HBL.out.trans (H5.out.1.mono HBL.out.size)
        exact ⟨rfl,HBK.out _ _ (HZ.out.base (hbA.trans (hb7.mono hbA.size)) H.out.1.far)⟩
  · rw [if_pos hf] at hR
    have HRR:=Lib.hid hR
    have HP:=Lib.hid (show ∀ z:World,Calls Tryz.prog 63 #[.slice none 0 0,.string x] z (fun e w'=>∃ a n c,e=.returned (.tuple #[.slice a n c,.int .i64 6])∧Below z.heap.size z w') from fun z=>(Hp.out z).mono (by
      rintro e w' ⟨v',rfl,ho,hb⟩
      obtain ⟨a,n,c,rfl⟩:=ho.read.slice
      refine ⟨a,n,c,?_,hb⟩
      unfold putF3
      rw [if_neg hf]
      rfl))
    clear hf hR
    go_enter Tryz.func61,Tryz.ntmps61
    go_wp2_with (go_at_call 63;(with_reducible refine (HP.out _).mono ?_);rintro e w2 ⟨va,vn,vc,rfl,hb⟩;have HB2:=Lib.hid hb;clear hb)
    go_ret
    rw [HRR.out]
    have hb1:=(Below.refl y.heap.size y).alloc (Nat.le_refl _) (.cells #[.pointer (some ⟨l,0,none⟩)] 59)
    have hb2:=hb1.trans (HB2.out.mono hb1.size)
    exact ⟨rfl,HBK.out _ _ (H.out.1.below (hb2.alloc hb2.size _))⟩
end Go.Proofs.YticjodhkmidljaaGreatDoor
