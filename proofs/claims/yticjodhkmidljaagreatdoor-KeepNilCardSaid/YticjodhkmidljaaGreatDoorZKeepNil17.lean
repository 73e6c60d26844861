/- Log: Renew's inner function; rows of texts. Condition: as each theorem says. -/
import Derived.Test.YticjodhkmidljaaGreatDoorZKeepNil16
import Derived.Test.YticjodhkmidljaaGreatDoorZKeepNil14
namespace Go.Proofs.YticjodhkmidljaaGreatDoor
open Go.RowKit Go.Shelf
/-- A row of texts that can be read. -/
def StrS (w:World) (v:Value) (l:List Bs):Prop:=∃ a c,v=.slice a l.length c∧∀ i x,l[i]?=some x→∃ b o,a=some ⟨b,o,none⟩∧b<w.heap.size∧w.cell? ⟨b,o+i,none⟩=some (.string ⟨x.toArray⟩)
theorem StrS.below {w w':World} {v:Value} {l:List Bs} (h:StrS w v l) (hb:Below w.heap.size w w'):StrS w' v l:=by
  obtain ⟨a,c,rfl,h⟩:=h
  refine ⟨a,c,rfl,fun i x hx=>?_⟩
  obtain ⟨b,o,rfl,hlt,hc⟩:=h i x hx
  exact ⟨b,o,rfl,Nat.lt_of_lt_of_le hlt hb.size,(World.cell?_of_block (hb.block b hlt)).trans hc⟩
theorem strS_own {w:World} {base:Nat} {v:Value} {l:List Bs} (h:w.ownsRow base 9 1 v l.length (encS l)):StrS w v l:=by
  obtain ⟨A,c,rfl,Y,h1,h2⟩:=names_row rfl h
  refine ⟨A,c,rfl,fun i x hx=>?_⟩
  obtain ⟨g,rfl,h3⟩:=h2 i x hx
  have h4:=h3 w (KeptZ.refl _ _)
  refine ⟨g,0,rfl,?_,by rw [Nat.zero_add];exact h4⟩
  exact cell_lt h4
theorem put_len {f:FilV}:∀ (l:List FilV),(putF f l).length≤l.length+1
  | []=>Nat.le_refl _
  | g::r=>by
    unfold putF
    split
    · simp
    · split
      · simp
      · have:=put_len (f:=f) r
        simp only [List.length_cons]
        omega
theorem sync_len (D:DskV) (nm:Bs):(syncD D nm).1.fs.length≤D.fs.length+1:=by
  unfold syncD withD
  split
  · exact Nat.le_succ _
  · split
    · exact put_len _
    · exact Nat.le_succ _
theorem lsync_len (D:DskV):(lsyncD D).1.fs.length≤D.fs.length+1:=by
  unfold lsyncD
  split
  · exact Nat.le_succ _
  · exact sync_len _ _
theorem app_len (D:DskV) (nm s:Bs):(appD D nm s).1.fs.length≤D.fs.length+1:=by
  unfold appD
  split
  · exact Nat.le_succ _
  · split
    · exact Nat.le_succ _
    · split
      · exact Nat.le_succ _
      · split
        · split
          · exact put_len _
          · exact put_len _
        · exact put_len _
set_option maxRecDepth 100000 in
set_option maxHeartbeats 4000000 in
theorem lren1_any {l p bb:Nat} {L:List Nat} {D:DskV} {w y:World} (h:LoR l p bb L D w y) (g8 b2 b5 n:Nat) (vb:Value) (F:Bs) (hn:1≤n∧n≤209) (hF:F.length≤10000000)
    (HC:∀ z,Below y.heap.size y z→z.cell? ⟨g8,0,none⟩=some (.int .i64 (n:Int))∧z.cell? ⟨b2,0,none⟩=some (.pointer (some ⟨l,0,none⟩))∧z.cell? ⟨b5,0,none⟩=some vb∧ReadB z vb F) :
    Calls Tryz.prog 69 #[.pointer (some ⟨g8,0,none⟩),.pointer (some ⟨b2,0,none⟩),.pointer (some ⟨b5,0,none⟩)] y fun e y'=>e=.returned (.int .i64 ((appD D (sname n) F).2:Int))∧LoR l p bb L (appD D (sname n) F).1 w y':=by
  have hc0:=(HC y (Below.refl _ _)).1
  obtain ⟨fb,hfb⟩:∃ fb:ByteArray,fb=⟨F.toArray⟩:=⟨_,rfl⟩
  have HFB:=Lib.hid (And.intro hfb (show fb.data.toList=F from by rw [hfb]))
  obtain ⟨nb,hnb⟩:∃ nb:ByteArray,nb=⟨(sname n).toArray⟩:=⟨_,rfl⟩
  have hnl:(sname n).length=9:=sname_len (by omega) (by omega)
  obtain ⟨R,hR⟩:∃ R,R=appD D (sname n) F:=⟨_,rfl⟩
  rw [← hR]
  have HCK:=Lib.hid (fun (z:World) (hz:Below y.heap.size y z)=>And.intro (h.below hz).cell (And.intro (HC z hz) (HC z hz).2.2.2))
  have HNM:=Lib.hid (fun (z:World) (hz:Below y.heap.size y z)=>(show Calls Tryz.prog 70 #[.int .i64 (n:Int)] z (fun e w'=>e=.returned (.string nb)∧Below z.heap.size z w') from by
    rw [hnb]
    exact lname_any n (by omega) (sname_itoa (by omega) (by omega)) z (h.below hz).pv))
  have HAC:=Lib.hid (fun (z:World) (hz:Below y.heap.size y z)=>(show Calls Tryz.prog 66 #[.pointer (some ⟨p,0,none⟩),.string nb,.string fb] z (fun e w'=>e=.returned (.int .i64 (R.2:Int))∧LoR l p bb L R.1 w w') from by
    have h2:=(h.below hz).act (R:=appD D nb.data.toList fb.data.toList) (f:=66) (args:=#[.pointer (some ⟨p,0,none⟩),.string nb,.string fb]) (fun n C L1 hd hlt=>append_any nb fb (by rw [hnb];show (sname _).toArray.size≤_;rw [List.size_toArray,hnl];decide) (by rw [hfb];show F.toArray.size≤_;rw [List.size_toArray];unfold maxLen;omega) z hd hlt)
    rw [show nb.data.toList=sname n from by rw [hnb],HFB.out.2, ← hR] at h2
    exact h2))
  have hne : ¬ (99999999<n):=by omega
  have hne2 : ¬ ((99999999:Int)<(n:Int)):=by omega
  clear hF HC h hfb hnb hnl hR hn
  go_enter Tryz.func69,Tryz.ntmps69
  go_upto_region 3 with fail
  refine (wpIn_wide (n:=1)).1 ?_
  refine RegK.wpIn_region_can (F:=Fence.wide) (KeptW y) [(0,0),(1,0),(2,0),(3,0),(4,0),(6,0),(7,0),(5,1),(8,3),(9,0)] (by kernel_rfl) (by kernel_rfl) (by kernel_rfl) (fun _ _ d _ _ h=>by cases d <;> exact h) ⟨rfl,rfl,rfl,Nat.le_refl _,fun _ _=>rfl⟩ ?_
  dsimp only [RegK.pick,List.getElem?_cons_zero,List.getElem?_cons_succ]
  change RegK.Can _ _ _ _ _ _ _ _ y.drew
  have hkd:KeptW y y.drew:=⟨rfl,rfl,rfl,Nat.le_refl _,fun _ _=>rfl⟩
  generalize y.drew=v8 at *
  refine RegK.can_reads ?_
  intro K hK
  go_simp
  refine ⟨.pointer (some ⟨l,0,none⟩),fun q hy=>?_,hK _ ?_⟩
  · have c0:=(HCK.out _ (KeptW.bel hy)).2.1.2.1
    go_simp
  clear hK K
  iterate 2 (refine RegK.can_reads ?_;intro K hK;go_simp;(first | refine ⟨_,fun _ _=>rfl,hK _ ?_⟩ | refine hK _ ?_);clear hK K)
  refine RegK.can_reads ?_
  intro K hK
  go_simp
  refine ⟨.pointer (some ⟨p,0,none⟩),fun q hy=>?_,hK _ ?_⟩
  · have c0:=(HCK.out _ (KeptW.bel hy)).1
    go_simp
  clear hK K
  refine RegK.can_reads ?_
  intro K hK
  go_simp
  refine ⟨.int .i64 (n:Int),fun q hy=>?_,hK _ ?_⟩
  · have c0:=(HCK.out _ (KeptW.bel hy)).2.1.1
    go_simp
  clear hK K
  refine RegK.can_reads ?_
  intro K hK
  go_simp
  refine ⟨vb,fun q hy=>?_,hK _ ?_⟩
  · have c0:=(HCK.out _ (KeptW.bel hy)).2.1.2.2.1
    go_simp
  clear hK K
  refine RegK.can_reads ?_
  intro K hK
  go_simp
  refine ⟨.string fb,fun q hy=>?_,hK _ ?_⟩
  · have hcv:=((HCK.out q (KeptW.bel hy)).2.2.conv (P:=Tryz.prog) (src:=121) (dst:=9) (e:=5) Tryz.underlying121 Tryz.underlying5 Tryz.underlying9);rw [← HFB.out.1] at hcv
    go_simp
  clear hK K
  refine RegK.can_turns (fun _=>trivial) ?_
  intro K K0 hK hK0
  go_simp
  refine ⟨trivial,?_⟩
  refine (callsIn_wide.2 (HNM.out v8 (KeptW.bel hkd))).mono ?_
  rintro e v2 ⟨rfl,hb7⟩
  have v2k:KeptW y v2:=KeptW.mono hkd hb7
  refine hK _ _ v2k ?_
  clear hK K hK0 K0
  refine RegK.can_frees (fun _=>trivial) ?_
  intro K K0 hK hK0
  go_simp
  refine ⟨trivial,?_⟩
  refine (callsIn_wide.2 (HAC.out v2 (KeptW.bel v2k))).mono ?_
  rintro e w9 ⟨rfl,hz9⟩
  refine hK (fun _=>True) _ _ trivial ?_
  clear hK K hK0 K0
  refine RegK.can_reads ?_;intro K hK;go_simp;(first | refine ⟨_,fun _ _=>rfl,hK _ ?_⟩ | refine hK _ ?_);clear hK K
  refine RegK.can_nil ?_
  have HZ:=Lib.hid hz9
  clear hz9
  go_wp2
  go_ret
  exact ⟨rfl,HZ.out⟩
end Go.Proofs.YticjodhkmidljaaGreatDoor
namespace Go.Proofs.YticjodhkmidljaaGreatDoor
open Go.RowKit Go.Shelf
theorem three_cells (y:World) (u v x:Value) (t:TypeId):(y.alloc (.cells #[u,v,x] t)).cell? ⟨y.heap.size,0,none⟩=some u∧(y.alloc (.cells #[u,v,x] t)).cell? ⟨y.heap.size,1,none⟩=some v∧(y.alloc (.cells #[u,v,x] t)).cell? ⟨y.heap.size,2,none⟩=some x:=⟨cell_of_row _ _ 0 _ _ _ (heap_alloc_new y _),cell_of_row _ _ 1 _ _ _ (heap_alloc_new y _),cell_of_row _ _ 2 _ _ _ (heap_alloc_new y _)⟩
theorem nms_at {D:DskV} {j:Nat} {x:Nat × FilV} (h:(segL D.fs)[j]?=some x):(nmsL D)[j]?=some x.2.nm:=by unfold nmsL;rw [List.getElem?_map,h];rfl
/-- What Renew leaves. -/
def lrenD (D:DskV) (rs:List Bs):DskV × Nat:=if (lnewD D rs).2=0 then (rems (lnewD D rs).1 (nmsL D),0) else lnewD D rs
/-- Renew, while it writes the frames. -/
structure RenW (l:Nat) (F:Bs) (vb:Value) (b2 b5:Nat) (y wr:World):Prop where
  bel:Below y.heap.size y wr
  r2:wr.heap[b2]?=some (.cells #[.pointer (some ⟨l,0,none⟩)] 59 (0,0))
  r5:wr.heap[b5]?=some (.cells #[vb] 121 (0,0))
  own:OwnB wr (b5+1) 5 vb F
  far:y.heap.size≤b2∧b2<b5
theorem RenW.below {l b2 b5:Nat} {F:Bs} {vb:Value} {y w w':World} (h:RenW l F vb b2 b5 y w) (hb:Below w.heap.size w w'):RenW l F vb b2 b5 y w' :=
  ⟨h.bel.trans (hb.mono h.bel.size),(hb.block _ (Array.getElem?_eq_some_iff.1 h.r2).1).trans h.r2,(hb.block _ (Array.getElem?_eq_some_iff.1 h.r5).1).trans h.r5,h.own.below hb,h.far⟩
theorem RenW.put {l b2 b5:Nat} {F F':Bs} {vb v':Value} {y w z:World} (h:RenW l F vb b2 b5 y w) (hb:Below w.heap.size w z) (ho:OwnB z w.heap.size 5 v' F'):RenW l F' v' b2 b5 y (z.setCell ⟨b5,0,none⟩ v'):=by
  have h1:=h.below hb
  have hfar:=h.far
  have hlt:=(Array.getElem?_eq_some_iff.1 h.r5).1
  refine ⟨h1.bel.setCell (p:=⟨b5,0,none⟩) (by show y.heap.size≤b5;omega) v',(setC_other (by omega)).trans h1.r2,heap_setCell_same z b5 0 #[vb] _ v' h1.r5,?_,h.far⟩
  exact (ho.mono (by omega)).setCell (by omega)
set_option maxRecDepth 100000 in
set_option maxHeartbeats 16000000 in
theorem lrenew_any {l p bb:Nat} {L:List Nat} {D:DskV} {w0 y:World} (h0:LoR l p bb L D w0 y) (hlen:D.fs.length≤100000) (hsm:∀ x ∈ segL D.fs,x.1≤208) (rs:List Bs) (hrs:Oks rs) (hF:(frsL rs).length≤3000000) (v:Value) (hv:StrS y v rs)
    (hrem:(lnewD D rs).2=0→RemOk (lnewD D rs).1 (nmsL D)) :
    Calls Tryz.prog 35 #[.pointer (some ⟨l,0,none⟩),v] y fun e y'=>e=.returned (.int .i64 ((lrenD D rs).2:Int))∧LoR l p bb L (lrenD D rs).1 w0 y':=by
  obtain ⟨L1,h,hL1,hback⟩:=h0.re
  have HBK:=Lib.hid hback
  clear h0 hback
  have H:=Lib.hid (And.intro h (And.intro hL1 (And.intro hlen hsm)))
  have HRS:=Lib.hid (And.intro hrs (And.intro hF hrem))
  obtain ⟨K,hK⟩:∃ K,K=rs.length:=⟨_,rfl⟩
  have hKl:K≤3000000:=by
    have key:∀ l:List Bs,l.length≤(frsL l).length:=fun l=>by
      induction l with
      | nil=>exact Nat.le_refl _
      | cons x r ih =>
        rw [frsL_cons,List.length_append,List.length_cons,frL_len]
        omega
    have:=key rs
    omega
  obtain ⟨va,vc,rfl,hvc⟩:=hv
  rw [← hK]
  have HV:=Lib.hid (And.intro hK hvc)
  clear h hL1 hlen hsm hrs hF hrem hK hvc
  go_enter Tryz.func35,Tryz.ntmps35
  go_upto_region 4 with fail
  have hR0:RenW l (frsL (rs.take 0)) (.slice none 0 0) y.heap.size (y.heap.size+1) y ((y.alloc (.cells #[.pointer (some ⟨l,0,none⟩)] 59)).alloc (.cells #[.slice none 0 0] 121)):=by
    have hb1:=(Below.refl y.heap.size y).alloc (Nat.le_refl _) (.cells #[.pointer (some ⟨l,0,none⟩)] 59)
    have r2:=heap_alloc_new y (.cells #[.pointer (some ⟨l,0,none⟩)] 59)
    have r5:=heap_alloc_new (y.alloc (.cells #[.pointer (some ⟨l,0,none⟩)] 59)) (.cells #[.slice none 0 0] 121)
    rw [World.size_alloc] at r5
    exact ⟨hb1.alloc hb1.size _,(heap_alloc_old _ _ (Array.getElem?_eq_some_iff.1 r2).1).trans r2,r5,OwnB.nil _ _ _,Nat.le_refl _,by omega⟩
  have HR0:=Lib.hid hR0
  clear hR0
  change Code.wp _ _ _ _ ((y.alloc (.cells #[.pointer (some ⟨l,0,none⟩)] 59)).alloc (.cells #[.slice none 0 0] 121))
  generalize (y.alloc (.cells #[.pointer (some ⟨l,0,none⟩)] 59)).alloc (.cells #[.slice none 0 0] 121)=W1 at *
  obtain ⟨b2,hb2⟩:∃ b2,b2=y.heap.size:=⟨_,rfl⟩
  obtain ⟨b5,hb5⟩:∃ b5,b5=y.heap.size+1:=⟨_,rfl⟩
  rw [← hb5, ← hb2] at HR0 ⊢
  have HBB:=Lib.hid (And.intro hb2 hb5)
  clear hb2 hb5
  go_wp2
  go_loopw [19] (fun s19 wr=>∃ (i:Nat) (vb:Value),s19=.int .i64 (i:Int)∧i≤K∧RenW l (frsL (rs.take i)) vb b2 b5 y wr) (fun s19 _=>K - (intOf s19).toNat)
  case atStart=>exact ⟨0,_,rfl,Nat.zero_le _,HR0.out⟩
  case round =>
    clear HR0
    obtain ⟨i,vb,rfl,hi,hR⟩:=hrel
    obtain ⟨ba,bn,bc,rfl⟩:=hR.own.read.slice
    have q5:=cell_of_row _ _ 0 _ _ _ hR.r5
    rw [show (#[Value.slice ba bn bc]:Array Value)[0]?=some (.slice ba bn bc) from rfl] at q5
    have HR:=Lib.hid hR
    clear hR
    by_cases hiK:i<K
    · have hiI:(i:Int)<(K:Int):=by omega
      have hil:i<rs.length:=by rw [← HV.out.1];exact hiK
      obtain ⟨x,hx⟩:∃ x,x=rs[i]:=⟨_,rfl⟩
      have hxs:rs[i]?=some x:=by rw [List.getElem?_eq_getElem hil,hx]
      have hxo:=HRS.out.1 x (by rw [hx];exact List.getElem_mem hil)
      obtain ⟨vg,vo,rfl,hvl,hvx⟩:=HV.out.2 i x hxs
      have k0:=(World.cell?_of_block (a:=⟨vg,vo+i,none⟩) (HR.out.bel.block vg hvl)).trans hvx
      have htk:rs.take (i+1)=rs.take i++[x]:=by rw [List.take_add_one,hxs];rfl
      have hfl:(frsL (rs.take i)).length≤3000000:=Nat.le_trans (frsL_take rs i).length_le HRS.out.2.1
      obtain ⟨xb,hxb⟩:∃ xb:ByteArray,xb=⟨x.toArray⟩:=⟨_,rfl⟩
      rw [← hxb] at k0
      have HP:=Lib.hid (show Calls Tryz.prog 63 #[.slice ba bn bc,.string xb] wr (fun e w'=>∃ v',e=.returned (.tuple #[v',.int .i64 0])∧OwnB w' wr.heap.size 5 v' (frsL (rs.take (i+1)))∧Below wr.heap.size wr w') from by
        have h2:=fput_any (.slice ba bn bc) (frsL (rs.take i)) xb hfl (by rw [hxb];show x.toArray.size≤_;rw [List.size_toArray];have:=hxo.2;unfold maxLen;omega) wr HR.out.own.read
        rw [show xb.data.toList=x from by rw [hxb]] at h2
        unfold putF3 at h2
        rw [if_pos hxo] at h2
        rw [htk,frsL_app,frsL_one]
        exact h2)
      have hw1:wrap64 ((i:Int)+1)=((i+1:Nat):Int):=by unfold wrap64;omega
      clear hil hx hxs hxo hvl hvx htk hfl hxb
      go_wp2_with (go_at_call 63;(with_reducible refine HP.out.mono ?_);rintro e w3 ⟨v3,rfl,ho,hb⟩
                   obtain ⟨ca,cn,cc,rfl⟩:=ho.read.slice
                   have r53:=(hb.block _ (Array.getElem?_eq_some_iff.1 HR.out.r5).1).trans HR.out.r5
                   have q53:=cell_of_row _ _ 0 _ _ _ r53
                   have t53:=thaw0 0 r53
                   have HX:=Lib.hid (HR.out.put hb ho)
                   clear ho hb r53 q5 k0)
      exact ⟨⟨i+1,_,by rw [Int.natCast_add];rfl,by omega,HX.out⟩,by simp only [intOf];omega⟩
    · have hiI : ¬ (i:Int)<(K:Int):=by omega
      obtain rfl:i=K:=by omega
      have htk:rs.take i=rs:=by rw [HV.out.1,List.take_length]
      rw [htk] at HR
      clear htk hi hiK
      obtain ⟨F,hFF⟩:∃ F,F=frsL rs:=⟨_,rfl⟩
      rw [← hFF] at HR
      have HFF:=Lib.hid hFF
      clear hFF
      have hq2:=cell_of_row _ _ 0 _ _ _ HR.out.r2
      rw [show (#[Value.pointer (some ⟨l,0,none⟩)]:Array Value)[0]?=some (.pointer (some ⟨l,0,none⟩)) from rfl] at hq2
      have hLw:LoR l p bb L1 D wr wr:=H.out.1.at H.out.2.1 HR.out.bel
      have q3:=hLw.cell
      have HSG:=Lib.hid (hLw.segs (by have:=H.out.2.2.1;omega))
      clear hLw
      go_upto_region 13 with (go_at_call 47;(with_reducible refine HSG.out.mono ?_);rintro e w4 ⟨sv,rfl,hs, -, hb⟩;have H4:=Lib.hid (And.intro (HR.out.below hb) hs);obtain ⟨A,c,rfl, -⟩:=hs;clear hb hq2 q3 q5)
      go_upto_if 40 with fail
      obtain ⟨N,hN⟩:∃ N,N=(segL D.fs).length:=⟨_,rfl⟩
      have HNN:=Lib.hid hN
      have hN6:N≤100000:=by rw [hN];exact Nat.le_trans (segL_len D.fs) H.out.2.2.1
      rw [← hN]
      have HSG4:=Lib.hid (by have h2:=H4.out.2;rw [← hN] at h2;exact h2)
      obtain ⟨n,hn⟩:∃ n,n=nextN D:=⟨_,rfl⟩
      have HNX:=Lib.hid hn
      clear hN hn
      go_cut [40] (fun _ wx=>Below w4.heap.size w4 wx∧wx.heap[w4.heap.size]?=some (.cells #[.int .i64 (n:Int)] 3 (0,0)))
      case first =>
        have hb5:=(Below.refl w4.heap.size w4).alloc (Nat.le_refl _) (.cells #[.int .i64 1] 3)
        have r8:(w4.alloc (.cells #[.int .i64 1] 3)).heap[w4.heap.size]?=some (.cells #[.int .i64 1] 3 (0,0)):=heap_alloc_new _ _
        cases hl:lastS D with
        | none =>
          have hs:segL D.fs=[]:=List.getLast?_eq_none_iff.1 hl
          have hn0:N=0:=by rw [HNN.out,hs];rfl
          have hn1:n=1:=by rw [HNX.out];unfold nextN;rw [hl]
          have H5:=Lib.hid (And.intro hb5 r8)
          clear hl hs hb5 r8
          subst hn0
          subst hn1
          go_wp2_with fail
          go_meet
          exact H5.out
        | some s =>
          obtain ⟨M,hM,hxs,hxm⟩:=last_at hl
          have hNM:N=M+1:=by rw [HNN.out];exact hM
          obtain ⟨A',c',hv,Y,hY1,hY2⟩:=HSG4.out.below hb5
          injection hv with e1 e2 e3
          subst e1 e3
          obtain ⟨gk,rfl,hck⟩:=hY2 M s hxs
          obtain ⟨k0, -, -, -⟩:=hck _ (KeptZ.refl _ _)
          have hn1:n=s.1+1:=by rw [HNX.out];unfold nextN;rw [hl]
          have hs8:=H.out.2.2.2 s hxm
          have hNz:0<N:=by omega
          have hw2:wrap64 ((s.1:Int)+1)=(s.1:Int)+1:=by unfold wrap64;omega
          rw [show M=N - 1 by omega] at k0
          have q8:=cell_of_row _ _ 0 _ _ _ r8
          have t8:=thaw0 0 r8
          have H5:=Lib.hid (And.intro hb5 (And.intro r8 hn1))
          clear hl hM hxs hxm hNM e2 hY1 hY2 hck hs8 hb5 r8 hn1
          go_wp2_with fail
          go_meet
          refine ⟨(Below.refl _ _).alloc (Nat.le_refl _) _,?_⟩
          rw [H5.out.2.2,Int.natCast_add]
          exact heap_alloc_new _ _
      case rest =>
        obtain ⟨hbc,r8⟩:=hcut
        obtain ⟨g8,hg8⟩:∃ g8,g8=w4.heap.size:=⟨_,rfl⟩
        rw [← hg8] at r8 ⊢
        have hRV:=H4.out.1.below hbc
        have hbw:=hRV.bel
        have hg8y:y.heap.size≤g8:=by rw [hg8];exact H4.out.1.bel.size
        have hn9:1≤n∧n≤209:=by
          rw [HNX.out]
          unfold nextN
          cases hl:lastS D with
          | none=>dsimp only;omega
          | some s =>
            obtain ⟨M,hM,hxs,hxm⟩:=last_at hl
            have:=H.out.2.2.2 s hxm
            dsimp only
            omega
        have q2:=cell_of_row _ _ 0 _ _ _ hRV.r2
        rw [show (#[Value.pointer (some ⟨l,0,none⟩)]:Array Value)[0]?=some (.pointer (some ⟨l,0,none⟩)) from rfl] at q2
        have HC:=Lib.hid (And.intro hRV (And.intro r8 (And.intro (HSG4.out.below hbc) (And.intro hg8y HR.out.bel.size))))
        obtain ⟨T,hT⟩:∃ T,T=lnewD D rs:=⟨_,rfl⟩
        obtain ⟨AA,hAA⟩:∃ AA,AA=appD (lsyncD D).1 (sname n) F:=⟨_,rfl⟩
        have hTT:T=if (lsyncD D).2≠0 then lsyncD D else if AA.2≠0 then AA else lsyncD AA.1:=by
          rw [hT]
          unfold lnewD
          rw [← HNX.out, ← HFF.out, ← hAA]
          by_cases hq:(lsyncD D).2≠0
          · rw [if_pos hq,if_pos hq]
          · rw [if_neg hq,if_neg hq,if_neg (by omega)]
        have HTT:=Lib.hid (And.intro hT (And.intro hAA hTT))
        clear hT hAA hTT hbc r8 hg8 hRV hbw
        have HST:=Lib.hid (show Calls Tryz.prog 49 #[.slice (some ⟨wc.heap.size,0,none⟩) 3 3] (wc.alloc (.cells #[.func (.func 30) #[.pointer (some ⟨l,0,none⟩)] #[],.func (.func 69) #[] #[.pointer (some ⟨g8,0,none⟩),.pointer (some ⟨b2,0,none⟩),.pointer (some ⟨b5,0,none⟩)],.func (.func 30) #[.pointer (some ⟨l,0,none⟩)] #[]] 37)) (fun e y'=>e=.returned (.int .i64 (T.2:Int))∧LoR l p bb L1 T.1 (wc.alloc (.cells #[.func (.func 30) #[.pointer (some ⟨l,0,none⟩)] #[],.func (.func 69) #[] #[.pointer (some ⟨g8,0,none⟩),.pointer (some ⟨b2,0,none⟩),.pointer (some ⟨b5,0,none⟩)],.func (.func 30) #[.pointer (some ⟨l,0,none⟩)] #[]] 37)) y') from by
          have hcs:=three_cells wc (.func (.func 30) #[.pointer (some ⟨l,0,none⟩)] #[]) (.func (.func 69) #[] #[.pointer (some ⟨g8,0,none⟩),.pointer (some ⟨b2,0,none⟩),.pointer (some ⟨b5,0,none⟩)]) (.func (.func 30) #[.pointer (some ⟨l,0,none⟩)] #[]) 37
          have hb7:=(Below.refl wc.heap.size wc).alloc (Nat.le_refl _) (.cells #[.func (.func 30) #[.pointer (some ⟨l,0,none⟩)] #[],.func (.func 69) #[] #[.pointer (some ⟨g8,0,none⟩),.pointer (some ⟨b2,0,none⟩),.pointer (some ⟨b5,0,none⟩)],.func (.func 30) #[.pointer (some ⟨l,0,none⟩)] #[]] 37)
          have hz7:wc.heap.size<((wc.alloc (.cells #[.func (.func 30) #[.pointer (some ⟨l,0,none⟩)] #[],.func (.func 69) #[] #[.pointer (some ⟨g8,0,none⟩),.pointer (some ⟨b2,0,none⟩),.pointer (some ⟨b5,0,none⟩)],.func (.func 30) #[.pointer (some ⟨l,0,none⟩)] #[]] 37))).heap.size:=by simp
          generalize (wc.alloc (.cells #[.func (.func 30) #[.pointer (some ⟨l,0,none⟩)] #[],.func (.func 69) #[] #[.pointer (some ⟨g8,0,none⟩),.pointer (some ⟨b2,0,none⟩),.pointer (some ⟨b5,0,none⟩)],.func (.func 30) #[.pointer (some ⟨l,0,none⟩)] #[]] 37))=W7 at *
          have hbel:=HC.out.1.bel
          have hbz:=hbel.size
          have hW7:AddW l p bb L1 D y.heap.size F (.slice ba bn bc) b2 b5 W7 W7:=by
            have h1:=HC.out.1.below hb7
            have hfar:=h1.far
            exact ⟨H.out.1.at H.out.2.1 h1.bel,h1.r2,h1.r5,h1.own.mono (by omega),⟨H.out.2.1,hfar.1,by omega,by omega⟩⟩
          have r8:=(hb7.block g8 (Array.getElem?_eq_some_iff.1 HC.out.2.1).1).trans HC.out.2.1
          have hfar:=hW7.far.1
          have hFl:F.length≤10000000:=by rw [HFF.out];have:=HRS.out.2.1;omega
          refine (steps_any wc.heap.size 3 3 [(30,#[.pointer (some ⟨l,0,none⟩)],#[]),(69,#[],#[.pointer (some ⟨g8,0,none⟩),.pointer (some ⟨b2,0,none⟩),.pointer (some ⟨b5,0,none⟩)]),(30,#[.pointer (some ⟨l,0,none⟩)],#[])] rfl (by decide)
            (fun i y=>match i with | 0=>LoR l p bb L1 D W7 y | 1=>(lsyncD D).2=0∧LoR l p bb L1 (lsyncD D).1 W7 y | 2=>((lsyncD D).2=0∧AA.2=0)∧LoR l p bb L1 AA.1 W7 y | _=>T.2=0∧LoR l p bb L1 T.1 W7 y) (fun k y=>k=(T.2:Int)∧LoR l p bb L1 T.1 W7 y) W7 hW7.lor ?_ ?_ ?_).mono ?_
          · intro f hf xs y
            rcases List.mem_cons.1 hf with rfl | hf
            · exact enters_of Tryz.func30 (by kernel_rfl) rfl xs y
            · rcases List.mem_cons.1 hf with rfl | hf
              · exact enters_of Tryz.func69 (by kernel_rfl) rfl xs y
              · rw [List.mem_singleton.1 hf]
                exact enters_of Tryz.func30 (by kernel_rfl) rfl xs y
          · intro i f y' hf hI
            have tt:Turns L1 W7 y':=by
              match i,hI with
              | 0,hI=>exact hI.t
              | 1,hI=>exact hI.2.t
              | 2,hI=>exact hI.2.t
              | n+3,hI=>exact hI.2.t
            have cc:∀ j,y'.cell? ⟨wc.heap.size,j,none⟩=W7.cell? ⟨wc.heap.size,j,none⟩:=fun j=>World.cell?_of_block (tt.block _ hz7 (fun q=>by have h1:wc.heap.size<y.heap.size:=hfar _ q;omega))
            match i,hf with
            | 0,hf=>cases hf;exact (cc 0).trans hcs.1
            | 1,hf=>cases hf;exact (cc 1).trans hcs.2.1
            | 2,hf=>cases hf;exact (cc 2).trans hcs.2.2
            | n+3,hf=>simp at hf
          · intro i f y' hf hI
            match i,hf,hI with
            | 0,hf,hI =>
              cases hf
              have hI:LoR l p bb L1 D W7 y':=hI
              refine (lsync_any hI (by have:=H.out.2.2.1;omega)).mono ?_
              rintro e y2 ⟨rfl,hq⟩
              by_cases h0:(lsyncD D).2=0
              · exact ⟨_,rfl,.inl ⟨by rw [h0];rfl,h0,hq⟩⟩
              · refine ⟨_,rfl,.inr ⟨by omega,?_⟩⟩
                rw [HTT.out.2.2,if_pos h0]
                exact ⟨rfl,hq⟩
            | 1,hf,hI =>
              cases hf
              obtain ⟨h0,hI⟩:(lsyncD D).2=0∧LoR l p bb L1 (lsyncD D).1 W7 y':=hI
              have hA:=hW7.on rfl hI
              have r8':=(hI.t.block g8 (Array.getElem?_eq_some_iff.1 r8).1 (fun q=>by have:=hfar _ q;omega)).trans r8
              refine (lren1_any hI g8 b2 b5 n (.slice ba bn bc) F hn9 hFl (fun z hz=>?_)).mono ?_
              · obtain ⟨c1,c2,c3⟩:=(hA.below hz).cells
                exact ⟨cell_of_row _ _ 0 _ _ _ ((hz.block _ (Array.getElem?_eq_some_iff.1 r8').1).trans r8'),c2.2.1,c2.2.2,c3⟩
              · rintro e y2 ⟨rfl,hq⟩
                rw [← HTT.out.2.1] at hq ⊢
                by_cases hr0:AA.2=0
                · exact ⟨_,rfl,.inl ⟨by rw [hr0];rfl,⟨h0,hr0⟩,hq⟩⟩
                · refine ⟨_,rfl,.inr ⟨by omega,?_⟩⟩
                  rw [HTT.out.2.2,if_neg (fun q=>q h0),if_pos hr0]
                  exact ⟨rfl,hq⟩
            | 2,hf,hI =>
              cases hf
              obtain ⟨⟨h0,h1⟩,hI⟩:((lsyncD D).2=0∧AA.2=0)∧LoR l p bb L1 AA.1 W7 y':=hI
              refine (lsync_any hI (by rw [HTT.out.2.1];have:=app_len (lsyncD D).1 (sname n) F;have:=lsync_len D;have:=H.out.2.2.1;omega)).mono ?_
              rintro e y2 ⟨rfl,hq⟩
              have hTe:T=lsyncD AA.1:=by rw [HTT.out.2.2,if_neg (fun q=>q h0),if_neg (fun q=>q h1)]
              rw [← hTe] at hq ⊢
              by_cases hr0:T.2=0
              · exact ⟨_,rfl,.inl ⟨by rw [hr0];rfl,hr0,hq⟩⟩
              · exact ⟨_,rfl,.inr ⟨by omega,rfl,hq⟩⟩
            | n+3,hf,_=>simp at hf
          · rintro e y2 ⟨k,rfl,⟨rfl,hI⟩ | ⟨_,rfl,hI⟩⟩
            · have hI:T.2=0∧LoR l p bb L1 T.1 W7 y2:=hI
              exact ⟨by rw [hI.1];rfl,hI.2⟩
            · exact ⟨rfl,hI⟩)
        go_upto_region 17 with (go_at_call 49;(with_reducible refine HST.out.mono ?_);rintro e w9 ⟨rfl,hz⟩;have HZ:=Lib.hid hz;clear hz q2)
        have hb7:=(Below.refl wc.heap.size wc).alloc (Nat.le_refl _) (.cells #[.func (.func 30) #[.pointer (some ⟨l,0,none⟩)] #[],.func (.func 69) #[] #[.pointer (some ⟨g8,0,none⟩),.pointer (some ⟨b2,0,none⟩),.pointer (some ⟨b5,0,none⟩)],.func (.func 30) #[.pointer (some ⟨l,0,none⟩)] #[]] 37)
        have HB7:=Lib.hid hb7
        clear HST hb7
        generalize (wc.alloc (.cells #[.func (.func 30) #[.pointer (some ⟨l,0,none⟩)] #[],.func (.func 69) #[] #[.pointer (some ⟨g8,0,none⟩),.pointer (some ⟨b2,0,none⟩),.pointer (some ⟨b5,0,none⟩)],.func (.func 30) #[.pointer (some ⟨l,0,none⟩)] #[]] 37))=W7 at *
        by_cases hT0:T.2=0
        · have hTz:((T.2:Int) != 0)=false:=by rw [hT0];rfl
          have HRM:=Lib.hid (by have h2:=HRS.out.2.2;rw [← HTT.out.1] at h2;exact h2 hT0)
          have HF:=Lib.hid (show lrenD D rs=(rems T.1 (nmsL D),0) from by unfold lrenD;rw [← HTT.out.1,if_pos hT0])
          clear hT0
          have hNl:(nmsL D).length=N:=by rw [HNN.out];unfold nmsL;rw [List.length_map]
          have HNL:=Lib.hid hNl
          obtain ⟨A',c',hv,Y,hY1,hY2⟩:=HC.out.2.2.1
          injection hv with e1 e2 e3
          subst e1 e3
          have hbA:=HC.out.1.bel
          have HY:=Lib.hid (And.intro hY1 hY2)
          have hkp:∀ (D':DskV) (z z2:World),LoR l p bb L1 D' W7 z→Below z.heap.size z z2→∀ g o,y.heap.size≤g→wc.heap[g]?=some o→z2.heap[g]?=some o:=fun D' z z2 hz hb g o hg ho=>by
            have h1:=(HB7.out.block g (Array.getElem?_eq_some_iff.1 ho).1).trans ho
            have h2:=(hz.t.block g (Array.getElem?_eq_some_iff.1 h1).1 (fun q=>by have:=H.out.2.1 g q;omega)).trans h1
            exact (hb.block g (Array.getElem?_eq_some_iff.1 h2).1).trans h2
          have HKP:=Lib.hid hkp
          have HW7:=Lib.hid (hbA.trans (HB7.out.mono hbA.size))
          clear e2 hY1 hY2 hkp hbA hNl
          go_wp2
          go_loopw [61] (fun s61 wr=>∃ i:Nat,s61=.int .i64 (i:Int)∧i≤N∧LoR l p bb L1 (rems T.1 ((nmsL D).take i)) W7 wr) (fun s61 _=>N - (intOf s61).toNat)
          case atStart=>exact ⟨0,rfl,Nat.zero_le _,HZ.out⟩
          case round =>
            obtain ⟨j,rfl,hj,hL⟩:=hrel
            have HL:=Lib.hid hL
            clear hL
            by_cases hjN:j<N
            · have hjI:(j:Int)<(N:Int):=by omega
              have hjl:j<(segL D.fs).length:=by rw [← HNN.out];exact hjN
              obtain ⟨x,hx⟩:∃ x,x=(segL D.fs)[j]:=⟨_,rfl⟩
              have hxs:(segL D.fs)[j]?=some x:=by rw [List.getElem?_eq_getElem hjl,hx]
              have hxm:x ∈ segL D.fs:=by rw [hx];exact List.getElem_mem hjl
              obtain ⟨gk,rfl,hck⟩:=HY.out.2 j x hxs
              obtain ⟨k0,k1,k2,k3⟩:=hck _ (fun r o hr ho=>HKP.out _ _ _ HL.out (Below.refl _ _) r o (by have:=(HY.out.1 r hr).1;have:=HC.out.2.2.2.2;omega) ho)
              obtain ⟨nb,hnb⟩:∃ nb:ByteArray,nb=⟨x.2.nm.toArray⟩:=⟨_,rfl⟩
              obtain ⟨sb,hsb⟩:∃ sb:ByteArray,sb=⟨x.2.by_.toArray⟩:=⟨_,rfl⟩
              rw [← hnb] at k1
              rw [← hsb] at k2
              have hnl:=seg_nm hxm
              have hjn:j<(nmsL D).length:=by rw [HNL.out];exact hjN
              have hnm:x.2.nm=(nmsL D)[j]:=by
                have h2:=nms_at hxs
                rw [List.getElem?_eq_getElem hjn] at h2
                exact (Option.some.inj h2).symm
              obtain ⟨fj,hfj,hdj⟩:=rems_find HRM.out.dead HRM.out.nd HRM.out.mem hjn hnm
              have htk:(nmsL D).take (j+1)=(nmsL D).take j++[x.2.nm]:=by rw [List.take_add_one,List.getElem?_eq_getElem hjn,hnm];rfl
              have hrm:remD (rems T.1 ((nmsL D).take j)) x.2.nm=(rems T.1 ((nmsL D).take (j+1)),0):=by
                have h2:=rem_one hdj hfj
                rw [htk,rems_snoc,h2]
              have HAC:=Lib.hid (fun (z:World) (hz:Below wr.heap.size wr z)=>(show Calls Tryz.prog 46 #[.pointer (some ⟨p,0,none⟩),.string nb] z (fun e w'=>e=.returned (.int .i64 0)∧LoR l p bb L1 (rems T.1 ((nmsL D).take (j+1))) W7 w') from by
                have h2:=(HL.out.below hz).act (R:=remD (rems T.1 ((nmsL D).take j)) nb.data.toList) (f:=46) (args:=#[.pointer (some ⟨p,0,none⟩),.string nb]) (fun n C L1 hd hlt=>remove_any nb (by rw [hnb];show x.2.nm.toArray.size≤_;rw [List.size_toArray,hnl];decide) z hd hlt)
                rw [show nb.data.toList=x.2.nm from by rw [hnb],hrm] at h2
                exact h2))
              have hw1:wrap64 ((j:Int)+1)=((j+1:Nat):Int):=by unfold wrap64;omega
              clear hjl hx hxs hxm hck hnb hsb hnl hjn hnm hfj hdj htk hrm
              go_upto_region 22 with fail
              have hb5:=(Below.refl wr.heap.size wr).alloc (Nat.le_refl _) (.cells #[.int .i64 (x.1:Int),.string nb,.string sb,.int .i64 (x.2.sy:Int)] 114)
              have r13:(wr.alloc (.cells #[.int .i64 (x.1:Int),.string nb,.string sb,.int .i64 (x.2.sy:Int)] 114)).heap[wr.heap.size]?=some (.cells #[.int .i64 (x.1:Int),.string nb,.string sb,.int .i64 (x.2.sy:Int)] 114 (0,0)):=heap_alloc_new _ _
              change Code.wp _ _ _ _ (wr.alloc (.cells #[.int .i64 (x.1:Int),.string nb,.string sb,.int .i64 (x.2.sy:Int)] 114))
              generalize wr.alloc (.cells #[.int .i64 (x.1:Int),.string nb,.string sb,.int .i64 (x.2.sy:Int)] 114)=W9 at *
              obtain ⟨g13,hg13⟩:∃ g13,g13=wr.heap.size:=⟨_,rfl⟩
              rw [← hg13] at r13 ⊢
              have HCK:=Lib.hid (fun (z:World) (hz:Below W9.heap.size W9 z)=>(show z.cell? ⟨l,0,none⟩=some (.pointer (some ⟨p,0,none⟩))∧z.cell? ⟨b2,0,none⟩=some (.pointer (some ⟨l,0,none⟩))∧z.cell? ⟨g13,1,none⟩=some (.string nb) from by
                have hbz:=hb5.trans (hz.mono hb5.size)
                refine ⟨(HL.out.below hbz).cell,cell_of_row _ _ 0 _ _ _ (HKP.out _ _ _ HL.out hbz _ _ HC.out.1.far.1 HC.out.1.r2),cell_of_row _ _ 1 _ _ _ ((hz.block _ (Array.getElem?_eq_some_iff.1 r13).1).trans r13)⟩))
              have HAC2:=Lib.hid (fun (z:World) (hz:Below W9.heap.size W9 z)=>HAC.out z (hb5.trans (hz.mono hb5.size)))
              clear hb5 r13 hg13 k0 k1 k2 k3
              refine (wpIn_wide (n:=1)).1 ?_
              refine RegK.wpIn_region_can (F:=Fence.wide) (KeptW W9) [(0,0),(1,0),(2,0),(3,0),(4,0),(5,0),(6,0),(7,3),(8,0)] (by kernel_rfl) (by kernel_rfl) (by kernel_rfl) (fun _ _ d _ _ h=>by cases d <;> exact h) ⟨rfl,rfl,rfl,Nat.le_refl _,fun _ _=>rfl⟩ ?_
              dsimp only [RegK.pick,List.getElem?_cons_zero,List.getElem?_cons_succ]
              change RegK.Can _ _ _ _ _ _ _ _ W9.drew
              have hkd:KeptW W9 W9.drew:=⟨rfl,rfl,rfl,Nat.le_refl _,fun _ _=>rfl⟩
              generalize W9.drew=v8 at *
              refine RegK.can_reads ?_
              intro K hK
              go_simp
              refine ⟨.pointer (some ⟨l,0,none⟩),fun q hy=>?_,hK _ ?_⟩
              · have c0:=(HCK.out _ (KeptW.bel hy)).2.1
                go_simp
              clear hK K
              iterate 2 (refine RegK.can_reads ?_;intro K hK;go_simp;(first | refine ⟨_,fun _ _=>rfl,hK _ ?_⟩ | refine hK _ ?_);clear hK K)
              refine RegK.can_reads ?_
              intro K hK
              go_simp
              refine ⟨.pointer (some ⟨p,0,none⟩),fun q hy=>?_,hK _ ?_⟩
              · have c0:=(HCK.out _ (KeptW.bel hy)).1
                go_simp
              clear hK K
              iterate 2 (refine RegK.can_reads ?_;intro K hK;go_simp;(first | refine ⟨_,fun _ _=>rfl,hK _ ?_⟩ | refine hK _ ?_);clear hK K)
              refine RegK.can_reads ?_
              intro K hK
              go_simp
              refine ⟨.string nb,fun q hy=>?_,hK _ ?_⟩
              · have c0:=(HCK.out _ (KeptW.bel hy)).2.2
                go_simp
              clear hK K
              refine RegK.can_frees (fun _=>trivial) ?_
              intro K K0 hK hK0
              go_simp
              refine ⟨trivial,?_⟩
              refine (callsIn_wide.2 (HAC2.out v8 (KeptW.bel hkd))).mono ?_
              rintro e w12 ⟨rfl,hz9⟩
              refine hK (fun _=>True) _ _ trivial ?_
              clear hK K hK0 K0
              refine RegK.can_reads ?_;intro K hK;go_simp;(first | refine ⟨_,fun _ _=>rfl,hK _ ?_⟩ | refine hK _ ?_);clear hK K
              refine RegK.can_nil ?_
              have HZ2:=Lib.hid hz9
              clear hz9
              go_wp2
              exact ⟨⟨j+1,by rw [Int.natCast_add];rfl,by omega,HZ2.out⟩,by simp only [intOf];omega⟩
            · have hjI : ¬ (j:Int)<(N:Int):=by omega
              obtain rfl:j=N:=by omega
              have HZ2:=Lib.hid (by have h2:=HL.out;rw [show (nmsL D).take j=nmsL D from by rw [← HNL.out,List.take_length]] at h2;exact h2)
              go_wp2
              go_ret
              rw [HF.out]
              exact ⟨rfl,HBK.out _ _ (HZ2.out.base HW7.out H.out.1.far)⟩
        · have hTz:((T.2:Int) != 0)=true:=by rw [bne_iff_ne];omega
          have HF:=Lib.hid (show lrenD D rs=T from by unfold lrenD;rw [← HTT.out.1,if_neg hT0])
          clear hT0
          go_wp2
          go_ret
          rw [HF.out]
          have hbA:=HC.out.1.bel
          exact ⟨rfl,HBK.out _ _ (HZ.out.base (hbA.trans (HB7.out.mono hbA.size)) H.out.1.far)⟩
end Go.Proofs.YticjodhkmidljaaGreatDoor
namespace Go.Proofs.YticjodhkmidljaaGreatDoor
section
variable {B S : List FilV} {D V V' : DskV} {nm s : Bs} {e : Nat}
theorem lo_app (h:LoOf S D V) (hn:nm.headD 0=98) (hr:s.length≤D.room) (hl:D.fs.length<1000) (he:appD V nm s=(V',e)):∃ D',appD D nm s=(D',e)∧LoOf S D' V':=by
  have hlv:V.fs.length<1000:=by
    have h2:=congrArg List.length h.fs
    rw [List.length_append] at h2
    omega
  have hfd:findF nm D.fs=findF nm V.fs:=by rw [h.fs];exact find_lo h.hi hn
  have key:∀ (x:Bs) (o:Option Nat) (d:Bool),x.length≤D.room→LoOf S ({ D.more ((findF nm D.fs).getD ⟨nm,[],0⟩) x with fuse:=o,dead:=d }:DskV) ({ V.more ((findF nm V.fs).getD ⟨nm,[],0⟩) x with fuse:=o,dead:=d }:DskV):=fun x o d hx=>by
    have hnm:=getD_nm (nm:=nm) V.fs
    refine ⟨?_,?_,rfl,rfl,?_,h.hi⟩
    · show putF { (findF nm D.fs).getD ⟨nm,[],0⟩ with by_:=_ } D.fs=putF { (findF nm V.fs).getD ⟨nm,[],0⟩ with by_:=_ } V.fs++S
      rw [hfd,h.fs]
      exact put_lo (by show ((findF nm V.fs).getD ⟨nm,[],0⟩).nm.headD 0=98;rw [hnm];exact hn) h.hi
    · show D.room - x.length+totF S=V.room - x.length
      have:=h.room
      omega
    · exact put_all (q:=fun n=>n.headD 0=98) (by show ((findF nm V.fs).getD ⟨nm,[],0⟩).nm.headD 0=98;rw [hnm];exact hn) h.lo
  have hd:=h.dead
  have hf:=h.fuse
  have hrm:=h.room
  unfold appD at he ⊢
  by_cases c1:V.dead=true
  · rw [if_pos c1] at he
    rw [if_pos (hd.trans c1)]
    cases he
    exact ⟨D,rfl,h⟩
  rw [if_neg c1] at he
  rw [if_neg (by rw [hd];exact c1)]
  by_cases c2:nm.length=0∨24<nm.length
  · rw [if_pos c2] at he ⊢
    cases he
    exact ⟨D,rfl,h⟩
  rw [if_neg c2] at he ⊢
  rw [if_neg (by omega)] at he
  rw [if_neg (by omega)]
  rw [hf]
  cases hu:V.fuse with
  | none =>
    rw [hu] at he
    dsimp only at he ⊢
    cases he
    have h2:=key s V.fuse V.dead hr
    refine ⟨_,rfl,⟨h2.fs,h2.room,?_,?_,h2.lo,h2.hi⟩⟩
    · exact hf
    · exact hd
  | some k =>
    rw [hu] at he
    dsimp only at he ⊢
    by_cases c3:k<s.length
    · rw [if_pos c3] at he ⊢
      cases he
      exact ⟨_,rfl,key (s.take k) none true (by rw [List.length_take];omega)⟩
    · rw [if_neg c3] at he ⊢
      cases he
      have h2:=key s (some (k - s.length)) V.dead hr
      exact ⟨_,rfl,⟨h2.fs,h2.room,rfl,hd,h2.lo,h2.hi⟩⟩
theorem lo_with {act:FilV→DskV × Nat} {act':FilV→DskV × Nat} (h:LoOf S D V) (hn:nm.headD 0=98) (ha:∀ f,findF nm V.fs=some f→f.nm=nm→∃ D',act f=(D',(act' f).2)∧LoOf S D' (act' f).1) (he:withD V nm act'=(V',e)):∃ D',withD D nm act=(D',e)∧LoOf S D' V':=by
  have hfd:findF nm D.fs=findF nm V.fs:=by rw [h.fs];exact find_lo h.hi hn
  unfold withD at he ⊢
  rw [h.dead,hfd]
  split
  · next hd =>
    rw [if_pos hd] at he
    cases he
    exact ⟨D,rfl,h⟩
  · next hd =>
    rw [if_neg hd] at he
    cases hf:findF nm V.fs with
    | none =>
      rw [hf] at he
      cases he
      exact ⟨D,rfl,h⟩
    | some f =>
      rw [hf] at he
      obtain ⟨D',h1,h2⟩:=ha f hf (find_nm hf).1
      have he':act' f=(V',e):=he
      rw [he'] at h1 h2
      exact ⟨D',h1,h2⟩
theorem lb_sync (h:LoOf S D V) (hn:nm.headD 0=98) (he:syncD V nm=(V',e)):∃ D',syncD D nm=(D',e)∧LoOf S D' V' :=
  lo_with h hn (fun f _ hfn=>⟨_,rfl,by
    refine ⟨?_,h.room,h.fuse,h.dead,put_all (q:=fun n=>n.headD 0=98) (by show f.nm.headD 0=98;rw [hfn];exact hn) h.lo,h.hi⟩
    show putF _ D.fs=putF _ V.fs++S
    rw [h.fs]
    exact put_lo (by show f.nm.headD 0=98;rw [hfn];exact hn) h.hi⟩) he
theorem lo_rem (h:LoOf S D V) (hn:nm.headD 0=98) (he:remD V nm=(V',e)):∃ D',remD D nm=(D',e)∧LoOf S D' V' :=
  lo_with h hn (fun f _ hfn=>by
    refine ⟨_,rfl,?_,?_,h.fuse,h.dead,del_all (q:=fun n=>n.headD 0=98) h.lo,h.hi⟩
    · show delF nm D.fs=delF nm V.fs++S
      rw [h.fs]
      exact del_lo h.hi hn
    · show D.room+f.by_.length+totF S=V.room+f.by_.length
      have:=h.room
      omega) he
theorem bname_lo (n:Nat):(bname n).headD 0=98:=rfl
theorem slot_hi {f:FilV} (h:f.nm.headD 0=115):slotD f.nm=none:=by
  unfold slotD
  split
  · cases hx:hexAcc (f.nm.drop 1) with
    | none=>rfl
    | some n =>
      show (if n≠0∧bname n=f.nm then some n else none)=none
      rw [if_neg (fun q=>by have h2:=bname_lo n;rw [q.2,h] at h2;exact absurd h2 (by decide))]
  · rfl
theorem base_hi {S:List FilV} (hS:HiS S):baseL S=[]:=by
  unfold baseL
  rw [List.filterMap_eq_nil_iff]
  intro f hf
  unfold baseF
  rw [slot_hi (hS f hf)]
  rfl
theorem LoOf.base (h:LoOf S D V):baseL D.fs=baseL V.fs:=by
  rw [h.fs]
  unfold baseL
  rw [List.filterMap_append]
  have h2:=base_hi h.hi
  unfold baseL at h2
  rw [h2,List.append_nil]
theorem lo_rems:∀ (l:List Bs) {D V:DskV},LoOf S D V→(∀ nm ∈ l,nm.headD 0=98)→LoOf S (rems D l) (rems V l)
  | [],_,_,h,_=>h
  | nm::r,D,V,h,hn=>by
    rw [rems_cons,rems_cons]
    obtain ⟨D',h1,h2⟩:=lo_rem (V':=(remD V nm).1) (e:=(remD V nm).2) h (hn nm (List.mem_cons_self ..)) rfl
    rw [h1]
    exact lo_rems r h2 (fun x hx=>hn x (List.mem_cons_of_mem _ hx))
theorem hi_rems:∀ (l:List Bs) {D V:DskV},HiOf B D V→(∀ nm ∈ l,nm.headD 0=115)→HiOf B (rems D l) (rems V l)
  | [],_,_,h,_=>h
  | nm::r,D,V,h,hn=>by
    rw [rems_cons,rems_cons]
    obtain ⟨D',h1,h2⟩:=hi_rem (V':=(remD V nm).1) (e:=(remD V nm).2) h (hn nm (List.mem_cons_self ..)) rfl
    rw [h1]
    exact hi_rems r h2 (fun x hx=>hn x (List.mem_cons_of_mem _ hx))
theorem lo_save {b b':Nat × Bs} {slot:Nat} {t:Bs} (h:LoOf S D V) (hr:(frL (insB slot t)).length≤D.room) (hl:D.fs.length<1000) (he:saveB V b slot t=(V',b',e)):∃ D',saveB D b slot t=(D',b',e)∧LoOf S D' V':=by
  unfold saveB at he ⊢
  split at he
  · next c=>rw [if_pos c];cases he;exact ⟨D,rfl,h⟩
  next c =>
  rw [if_neg c]
  split at he
  · next c=>rw [if_pos c];cases he;exact ⟨D,rfl,h⟩
  next c2 =>
  rw [if_neg c2]
  obtain ⟨D1,e1,h1⟩:=lo_app (V':=(appD V (bname slot) (frL (insB slot t))).1) (e:=(appD V (bname slot) (frL (insB slot t))).2) h (bname_lo slot) hr hl rfl
  rw [e1]
  dsimp only
  split at he
  · next c3=>rw [if_pos c3];cases he;exact ⟨D1,rfl,h1⟩
  next c3 =>
  rw [if_neg c3]
  obtain ⟨D2,e2,h2⟩:=lb_sync (V':=(syncD (appD V (bname slot) (frL (insB slot t))).1 (bname slot)).1) (e:=(syncD (appD V (bname slot) (frL (insB slot t))).1 (bname slot)).2) h1 (bname_lo slot) rfl
  rw [e2]
  dsimp only
  split at he
  · next c4=>rw [if_pos c4];cases he;exact ⟨D2,rfl,h2⟩
  next c4 =>
  rw [if_neg c4]
  split at he
  · next c5=>rw [if_pos c5];cases he;exact ⟨D2,rfl,h2⟩
  next c5 =>
  rw [if_neg c5]
  obtain ⟨D3,e3,h3⟩:=lo_rem (V':=(remD (syncD (appD V (bname slot) (frL (insB slot t))).1 (bname slot)).1 (bname b.1)).1) (e:=(remD (syncD (appD V (bname slot) (frL (insB slot t))).1 (bname slot)).1 (bname b.1)).2) h2 (bname_lo b.1) rfl
  rw [e3]
  cases he
  exact ⟨D3,rfl,h3⟩
theorem HiOf.next (h:HiOf B D V):nextN D=nextN V:=by unfold nextN;rw [h.last]
theorem HiOf.nms (h:HiOf B D V):nmsL D=nmsL V:=by unfold nmsL;rw [h.seg]
theorem lsync_room (he:lsyncD D=(V',e)):V'.room=D.room∧V'.fs.length≤D.fs.length+1:=by
  unfold lsyncD at he
  split at he
  · cases he
    exact ⟨rfl,Nat.le_succ _⟩
  · exact sync_room he
theorem hi_lnew {rs:List Bs} (h:HiOf B D V) (hr:(frsL rs).length≤D.room) (hl:D.fs.length<999) (he:lnewD V rs=(V',e)):∃ D',lnewD D rs=(D',e)∧HiOf B D' V':=by
  unfold lnewD at he ⊢
  obtain ⟨D1,e1,h1⟩:=hi_lsync (V':=(lsyncD V).1) (e:=(lsyncD V).2) h rfl
  have q1:=lsync_room e1
  rw [e1,h.next]
  dsimp only
  split at he
  · next c=>rw [if_pos c];exact ⟨D1,by rw [he],by rw [he] at h1;exact h1⟩
  next c =>
  rw [if_neg c]
  split at he
  · next c=>rw [if_pos c];cases he;exact ⟨D1,rfl,h1⟩
  next c2 =>
  rw [if_neg c2]
  obtain ⟨D2,e2,h2⟩:=hi_app (V':=(appD (lsyncD V).1 (sname (nextN V)) (frsL rs)).1) (e:=(appD (lsyncD V).1 (sname (nextN V)) (frsL rs)).2) h1 (sname_hi _) (by rw [q1.1];exact hr) (by have:=q1.2;omega) rfl
  rw [e2]
  dsimp only
  split at he
  · next c3=>rw [if_pos c3];exact ⟨D2,by rw [he],by rw [he] at h2;exact h2⟩
  next c3 =>
  rw [if_neg c3]
  exact hi_lsync h2 he
theorem hi_lren {rs:List Bs} (h:HiOf B D V) (hr:(frsL rs).length≤D.room) (hl:D.fs.length<999) (he:lrenD V rs=(V',e)):∃ D',lrenD D rs=(D',e)∧HiOf B D' V':=by
  unfold lrenD at he ⊢
  obtain ⟨D1,e1,h1⟩:=hi_lnew (V':=(lnewD V rs).1) (e:=(lnewD V rs).2) h hr hl rfl
  rw [e1]
  dsimp only
  split at he
  · next c =>
    rw [if_pos c]
    cases he
    refine ⟨_,rfl,?_⟩
    rw [h.nms]
    exact hi_rems _ h1 (fun nm hn=>by
      obtain ⟨x,hx,rfl⟩:=List.mem_map.1 hn
      exact h.hi _ (seg_mem hx).1)
  · next c =>
    rw [if_neg c]
    exact ⟨D1,by rw [he],by rw [he] at h1;exact h1⟩
/-- Files that are durable stay as they are. -/
theorem cutK_sync:∀ {B:List FilV} {k:Option Nat} {r:List FilV},(∀ f ∈ B,f.sy=f.by_.length)→cutK k (B++r)=B++cutK k r
  | [],_,_,_=>rfl
  | f::B,k,r,h=>by
    have hf:=h f (List.mem_cons_self ..)
    have h2:stayN k f=0:=by
      have:=stay_le k f
      omega
    have h3:leftN k f=k:=by
      unfold leftN
      rw [h2]
      cases k <;> rfl
    rw [List.cons_append,cutK,h3,cutK_sync (fun g hg=>h g (List.mem_cons_of_mem _ hg)),List.cons_append]
    congr 1
    unfold cutF
    rw [h2,Nat.add_zero,hf,List.take_length, ← hf]
theorem rise_app_lo {B S:List FilV} (hB:Rise B) (hS:Rise S) (h1:LoS B) (h2:HiS S):Rise (B++S):=List.pairwise_append.2 ⟨hB,hS,fun a ha b hb=>head_lt (h1 a ha) (h2 b hb)⟩
theorem hi_crash (h:HiOf B D V) (hBr:Rise B) (hVr:Rise V.fs) (hBs:∀ f ∈ B,f.sy=f.by_.length) (hVs:∀ f ∈ V.fs,f.sy≤f.by_.length) (hd:V.dead=false) {n:Int} (he:crashD V n=(V',e)):∃ D',crashD D n=(D',e)∧HiOf B D' V':=by
  have hDr:Rise D.fs:=by rw [h.fs];exact rise_app_lo hBr hVr h.lo h.hi
  have hDs:∀ f ∈ D.fs,f.sy≤f.by_.length:=fun f hf=>by
    rw [h.fs] at hf
    rcases List.mem_append.1 hf with q | q
    · exact Nat.le_of_eq (hBs f q)
    · exact hVs f q
  have f1:=cr_fs D (keepN n) hDr
  have f2:=cr_fs V (keepN n) hVr
  have r1:=cr_room [] D.fs [] D (keepN n) (by simp) hDr hDs
  have r2:=cr_room [] V.fs [] V (keepN n) (by simp) hVr hVs
  rw [f1] at r1
  rw [f2] at r2
  rw [show cutK (keepN n) D.fs=B++cutK (keepN n) V.fs by rw [h.fs,cutK_sync hBs]] at f1 r1
  unfold crashD at he ⊢
  rw [if_neg (by rw [hd];simp)] at he
  rw [if_neg (by rw [h.dead,hd];simp)]
  cases he
  refine ⟨_,rfl,?_,?_,rfl,rfl,h.lo,?_⟩
  · show (crAll D (keepN n) D.fs).1.fs=B++(crAll V (keepN n) V.fs).1.fs
    rw [f1,f2]
  · show (crAll D (keepN n) D.fs).1.room+totF B=(crAll V (keepN n) V.fs).1.room
    have h9:totF D.fs=totF B+totF V.fs:=by rw [h.fs,tot_app]
    rw [tot_app,h9] at r1
    have:=h.room
    omega
  · show HiS (crAll V (keepN n) V.fs).1.fs
    rw [f2]
    have hq:∀ (k:Option Nat) (l:List FilV),HiS l→HiS (cutK k l):=fun k l=>by
      induction l generalizing k with
      | nil=>exact fun _ f hf=>by cases hf
      | cons g r ih =>
        intro hl f hf
        rw [cutK] at hf
        rcases List.mem_cons.1 hf with q | q
        · rw [q];exact hl g (List.mem_cons_self ..)
        · exact ih _ (fun x hx=>hl x (List.mem_cons_of_mem _ hx)) f q
    exact hq _ _ h.hi
end
end Go.Proofs.YticjodhkmidljaaGreatDoor
namespace Go.Proofs.YticjodhkmidljaaGreatDoor
theorem insB_okW {slot:Nat} {t:Bs} (h:t.length≤20000):frOk (insB slot t):=by
  have h1:=insB_len slot t
  exact ⟨by omega,by omega⟩
theorem frI_lenW {slot:Nat} {t:Bs} (h:t.length≤20000):(frL (insB slot t)).length≤20035∧11≤(frL (insB slot t)).length:=by
  have h1:=insB_len slot t
  have h2:=numL_len (insB slot t).length
  rw [frL_len]
  omega
theorem rdB_insW {slot:Nat} {t:Bs} (hs:slot<18446744073709551616) (h:t.length≤20000):(RdV.mk 0 (insB slot t)).num=(slot,⟨0,numL t.length++t⟩)∧(RdV.mk 0 (numL t.length++t)).str 65536=(t,⟨0,[]⟩):=by
  refine ⟨num_app hs _,?_⟩
  have h2:=str_app' (t:=t) (most:=65536) (by omega) (by decide) []
  rw [List.append_nil] at h2
  exact h2
theorem take_goodW {slot:Nat} {t:Bs} (h:t.length≤20000):takeF (frL (insB slot t))=(insB slot t,(frL (insB slot t)).length,0):=by
  have h2:=take_fr (insB_okW (slot:=slot) h).1 (insB_okW (slot:=slot) h).2 []
  rw [List.append_nil] at h2
  exact h2
theorem look_goodW {slot n:Nat} {t:Bs} (hs:slot<18446744073709551616) (h:t.length≤20000) (nm:Bs):lookD n ⟨nm,frL (insB slot t),(frL (insB slot t)).length⟩=if slot≠n then (2,[]) else (1,t):=by
  obtain ⟨q1,q2⟩:=rdB_insW hs h
  have hl:=(frI_lenW (slot:=slot) h).2
  unfold lookD
  dsimp only
  rw [if_neg (by omega),take_goodW h]
  dsimp only
  rw [if_neg (by simp)]
  have hr:(rdB (insB slot t)).e=0:=by
    unfold rdB
    rw [q1]
    dsimp only
    rw [q2]
    rfl
  rw [hr,q1]
  dsimp only
  rw [q2]
  by_cases hn:slot=n
  · rw [if_neg (by simp [hn]),if_neg (by simp [hn])]
  · rw [if_pos (.inr hn),if_pos hn]
/-- A disk that holds nothing but the last base. -/
structure StoW (D:DskV) (b:Nat × Bs):Prop where
  dead:D.dead=false
  fs:D.fs=stF b
  b64:b.1<18446744073709551616
  len:b.2.length≤20000
  zero:b.1=0→b.2=[]
  sum:D.room+totF D.fs=4194304
theorem lk_goodW {slot:Nat} {t:Bs} (hs:slot<18446744073709551616) (h:t.length≤20000):lookD slot (goodF slot t)=(1,t):=by
  unfold goodF
  rw [look_goodW hs h,if_neg (by simp)]
theorem open_stoW {D:DskV} {b:Nat × Bs} (h:StoW D b) : ¬ spoilt (baseL D.fs)∧lastG (baseL D.fs)=b∧rems D (rmN (baseL D.fs))=D:=by
  have hk:=lk_goodW h.b64 h.len
  rw [h.fs,stF_base h.b64]
  by_cases h0:b.1=0
  · rw [if_pos h0]
    have:=h.zero h0
    refine ⟨fun hx=>?_,?_,rfl⟩
    · obtain ⟨x,hx,_⟩:=hx
      cases hx
    · show ((0:Nat),([]:Bs))=b
      rw [← h0, ← this]
  · rw [if_neg h0]
    have hl:lkN (b.1,goodF b.1 b.2)=1:=by unfold lkN;rw [hk]
    refine ⟨fun hx=>?_,?_,?_⟩
    · obtain ⟨x,hx,h2⟩:=hx
      rw [List.mem_singleton.1 hx,hl] at h2
      cases h2
    · show (if lkN (b.1,goodF b.1 b.2)=1 then (b.1,(lookD b.1 (goodF b.1 b.2)).2) else (0,[]))=b
      rw [if_pos hl,hk]
    · have hy:youngN [(b.1,goodF b.1 b.2)]=[]:=by unfold youngN;rw [List.filter_cons_of_neg (by simp [hl])];rfl
      have hg:goodN [(b.1,goodF b.1 b.2)]=[bname b.1]:=by unfold goodN;rw [List.filter_cons_of_pos (by simp [hl])];rfl
      unfold rmN
      rw [hy,hg]
      rfl
theorem stF_totW {b:Nat × Bs} (h:b.2.length≤20000):totF (stF b)≤20035:=by
  unfold stF
  split
  · decide
  · rw [tot_cons]
    have:=(frI_lenW (slot:=b.1) h).1
    show (frL (insB b.1 b.2)).length+0≤_
    omega
/-- The power went while a base was saved. -/
structure TornW (D:DskV) (b:Nat × Bs) (slot:Nat) (t:Bs):Prop where
  dead:D.dead=true
  fuse:D.fuse=none
  fs:∃ xs,D.fs=putF ⟨bname slot,xs,0⟩ (stF b)∧xs.length≤20035
  sum:D.room+totF D.fs=4194304
theorem save_stoW {D:DskV} {b:Nat × Bs} (h:StoW D b) {slot:Nat} {t:Bs} (hlt:b.1<slot) (hs:slot<18446744073709551616) (ht:t.length≤20000) :
    (∃ D',saveB D b slot t=(D',(slot,t),0)∧StoW D' (slot,t)∧(D.fuse=none→D'.fuse=none)) ∨
    (D.fuse≠none∧∃ D',saveB D b slot t=(D',b,9)∧TornW D' b slot t):=by
  have hnone:=stF_none h.b64 hs hlt
  rw [← h.fs] at hnone
  have hfl:=frI_lenW (slot:=slot) ht
  have htot:=stF_totW h.len
  have hsum:=h.sum
  rw [← h.fs] at htot
  have hlen:=stF_len b
  rw [← h.fs] at hlen
  have hrise:=stF_rise b
  rw [← h.fs] at hrise
  obtain ⟨X,hX⟩:∃ X,X=frL (insB slot t):=⟨_,rfl⟩
  have happ:appD D (bname slot) X=match D.fuse with
      | some k=>if k<X.length then ({ D.more ⟨bname slot,[],0⟩ (X.take k) with fuse:=none,dead:=true },9) else ({ D.more ⟨bname slot,[],0⟩ X with fuse:=some (k - X.length) },0)
      | none=>(D.more ⟨bname slot,[],0⟩ X,0):=by
    unfold appD
    rw [h.dead,if_neg (by simp),if_neg (by rw [bname_len];omega),if_neg (by rw [hX];omega),hnone]
    rfl
  have hgood:∀ o,appD D (bname slot) X=({ D.more ⟨bname slot,[],0⟩ X with fuse:=o },0)→(∃ D',saveB D b slot t=(D',(slot,t),0)∧StoW D' (slot,t)∧D'.fuse=o):=fun o ho=>by
    obtain ⟨D1,hD1⟩:∃ D1,D1=({ D.more ⟨bname slot,[],0⟩ X with fuse:=o }:DskV):=⟨_,rfl⟩
    rw [← hD1] at ho
    have f1:D1.fs=putF ⟨bname slot,X,0⟩ D.fs:=by rw [hD1];rfl
    have r1:D1.room=D.room - X.length:=by rw [hD1];rfl
    have d1:D1.dead=false:=by rw [hD1];exact h.dead
    have u1:D1.fuse=o:=by rw [hD1]
    have hsy:syncD D1 (bname slot)=({ D1 with fs:=putF (goodF slot t) D.fs },0):=by
      unfold syncD
      rw [with_some d1 (f:=⟨bname slot,X,0⟩) (by rw [f1];exact put_find (f:=⟨bname slot,X,0⟩))]
      rw [f1]
      show ({ D1 with fs:=putF ⟨bname slot,X,X.length⟩ (putF ⟨bname slot,X,0⟩ D.fs) },0)=_
      rw [put_put (f:=⟨bname slot,X,X.length⟩) (g:=⟨bname slot,X,0⟩) rfl,hX]
      rfl
    have t1:totF (putF (goodF slot t) D.fs)=totF D.fs+X.length:=by rw [(put_new (f:=goodF slot t) hrise hnone).1,hX];rfl
    unfold saveB
    rw [if_neg (by omega),if_neg (fun q=>q (insB_okW ht)), ← hX,ho,if_neg (by simp)]
    dsimp only
    rw [hsy,if_neg (by simp)]
    by_cases h0:b.1=0
    · rw [if_pos h0]
      refine ⟨_,rfl,⟨d1,?_,hs,ht,fun q=>?_,?_⟩,u1⟩
      · show putF (goodF slot t) D.fs=_
        rw [h.fs]
        unfold stF
        rw [if_pos h0,if_neg (by show slot≠0;omega)]
        rfl
      · exact absurd q (by show slot≠0;omega)
      · show D1.room+totF (putF (goodF slot t) D.fs)=_
        rw [t1,r1]
        rw [← hX] at hfl
        omega
    · rw [if_neg h0]
      have hne:bname b.1≠bname slot:=fun e=>by have:=bname_inj h.b64 hs e;omega
      have hfo:findF (bname b.1) (putF (goodF slot t) D.fs)=some (goodF b.1 b.2):=by
        rw [put_other (by exact hne),h.fs]
        unfold stF findF
        rw [if_neg h0,List.find?_cons_of_pos (by simp [goodF])]
      have hde:delF (bname b.1) (putF (goodF slot t) D.fs)=[goodF slot t]:=by rw [h.fs];exact putf_del h0 hne
      rw [rem_one (D:={ D1 with fs:=putF (goodF slot t) D.fs }) d1 hfo]
      refine ⟨_,rfl,⟨d1,?_,hs,ht,fun q=>?_,?_⟩,u1⟩
      · show delF (bname b.1) (putF (goodF slot t) D.fs)=_
        rw [hde]
        unfold stF
        rw [if_neg (by show slot≠0;omega)]
      · exact absurd q (by show slot≠0;omega)
      · show D1.room+(goodF b.1 b.2).by_.length+totF (delF (bname b.1) (putF (goodF slot t) D.fs))=_
        rw [hde,r1,tot_cons]
        have h3:totF D.fs=(goodF b.1 b.2).by_.length:=by rw [h.fs];unfold stF;rw [if_neg h0,tot_cons];rfl
        have h4:(goodF slot t).by_.length=X.length:=by rw [hX];rfl
        rw [← hX] at hfl
        show _+((goodF slot t).by_.length+0)=_
        omega
  cases hf:D.fuse with
  | none =>
    rw [hf] at happ
    left
    obtain ⟨D',h1,h2,h3⟩:=hgood none (by rw [happ];unfold DskV.more;rw [hf])
    exact ⟨D',h1,h2,fun _=>h3⟩
  | some k =>
    rw [hf] at happ
    dsimp only at happ
    by_cases hk:k<X.length
    · right
      rw [if_pos hk] at happ
      refine ⟨by simp,{ D.more ⟨bname slot,[],0⟩ (X.take k) with fuse:=none,dead:=true },?_,rfl,rfl,⟨X.take k,?_,?_⟩,?_⟩
      · unfold saveB
        rw [if_neg (by omega),if_neg (fun q=>q (insB_okW ht)), ← hX,happ,if_pos (by simp)]
      · show putF _ D.fs=_
        rw [h.fs]
        rfl
      · rw [List.length_take]
        rw [← hX] at hfl
        omega
      · show D.room - (X.take k).length+totF (putF ⟨bname slot,[]++X.take k,0⟩ D.fs)=_
        rw [(put_new (f:=⟨bname slot,[]++X.take k,0⟩) hrise hnone).1]
        have h1:([]++X.take k).length=(X.take k).length:=by simp
        have h2:(X.take k).length≤X.length:=by rw [List.length_take];omega
        show _+(_+([]++X.take k).length)=_
        rw [h1]
        rw [← hX] at hfl
        omega
    · left
      rw [if_neg hk] at happ
      obtain ⟨D',h1,h2,h3⟩:=hgood _ happ
      exact ⟨D',h1,h2,fun q=>by cases q⟩
end Go.Proofs.YticjodhkmidljaaGreatDoor
