/- Base: Base, Save. Condition: as each theorem says. -/
import Derived.BigQuiet
import Derived.Test.YticjodhkmidljaaGreatDoorZKeepNil11
import Derived.Test.YticjodhkmidljaaGreatDoorZKeepNil12
namespace Go.Proofs.YticjodhkmidljaaGreatDoor
open Go.RowKit Go.Shelf
theorem open_any {p b n:Nat} {C:Bs→Nat} {L:List Nat} {D:DskV} (hlen:D.fs.length≤1000000) (hnl:∀ f ∈ D.fs,f.nm.length≤maxLen) (w:World) (hv:PV w) (h:DskAt w p b n C L D) (hL:∀ g ∈ L,g<w.heap.size) (hdd:D.dead=false) :
    Calls Tryz.prog 23 #[.pointer (some ⟨p,0,none⟩)] w (OpenR p b L D w):=callsIn_wide.1 (open_in hlen hnl w hv h hL hdd)
set_option maxRecDepth 100000 in
set_option maxHeartbeats 4000000 in
theorem base_any (S p:Nat) (b:Nat × Bs) (w:World) (h:StoAt w S p b) :
    Calls Tryz.prog 27 #[.pointer (some ⟨S,0,none⟩)] w fun e w'=>e=.returned (.tuple #[.int .u64 (b.1:Int),.string ⟨(if b.1=0 then [] else b.2).toArray⟩,.bool (decide (b.1≠0))])∧Below w.heap.size w w':=by
  have c1:w.cell? ⟨S,1,none⟩=some (.int .u64 (b.1:Int)):=cell_of_row _ _ 1 _ _ _ h
  have c2:w.cell? ⟨S,2,none⟩=some (.string ⟨b.2.toArray⟩):=cell_of_row _ _ 2 _ _ _ h
  clear h
  by_cases h0:b.1=0
  · rw [if_pos h0,decide_eq_false (by omega)]
    have hz:((b.1:Int) == 0)=true:=by rw [h0];rfl
    have HZ:=Lib.hid h0
    clear h0
    go_enter Tryz.func27,Tryz.ntmps27
    go_wp2
    go_ret3
    rw [HZ.out]
    exact ⟨rfl,Below.refl _ _⟩
  · rw [if_neg h0,decide_eq_true h0]
    have hz:((b.1:Int) == 0)=false:=by rw [beq_eq_false_iff_ne];omega
    clear h0
    go_enter Tryz.func27,Tryz.ntmps27
    go_upto_region 3 with fail
    go_quiet (fail)
    have hb:=below_drewN (Below.refl w.heap.size w) nq
    have HB:=Lib.hid hb
    generalize w.drewN nq=v1 at *
    clear hb
    go_wp2
    go_ret3
    exact ⟨rfl,HB.out⟩
/-- What Save tells. -/
def insB (slot:Nat) (text:Bs):Bs:=numL slot++(numL text.length++text)
def saveB (D:DskV) (b:Nat × Bs) (slot:Nat) (text:Bs):DskV × (Nat × Bs) × Nat :=
  if slot≤b.1 then (D,b,2) else if ¬ frOk (insB slot text) then (D,b,6)
  else if (appD D (bname slot) (frL (insB slot text))).2≠0 then ((appD D (bname slot) (frL (insB slot text))).1,b,(appD D (bname slot) (frL (insB slot text))).2)
  else if (syncD (appD D (bname slot) (frL (insB slot text))).1 (bname slot)).2≠0 then ((syncD (appD D (bname slot) (frL (insB slot text))).1 (bname slot)).1,b,(syncD (appD D (bname slot) (frL (insB slot text))).1 (bname slot)).2)
  else if b.1=0 then ((syncD (appD D (bname slot) (frL (insB slot text))).1 (bname slot)).1,(slot,text),0)
  else ((remD (syncD (appD D (bname slot) (frL (insB slot text))).1 (bname slot)).1 (bname b.1)).1,(slot,text),(remD (syncD (appD D (bname slot) (frL (insB slot text))).1 (bname slot)).1 (bname b.1)).2)
/-- A store and its disk. -/
structure BaAt (w:World) (S p bb:Nat) (L:List Nat) (D:DskV) (b:Nat × Bs):Prop where
  sto:StoAt w S p b
  dsk:∃ n C,DskAt w p bb n C L D
  lt:∀ g ∈ L,g<w.heap.size
  off:S ∉ L
/-- What has come of a store and its disk since w. -/
def BaR (S p bb:Nat) (L:List Nat) (D:DskV) (b:Nat × Bs) (w y:World):Prop:=∃ L1,BaAt y S p bb L1 D b∧Turns (S::L) w y∧∀ g ∈ L1,g ∈ L∨w.heap.size≤g
/-- What Save leaves. -/
def SaveR (S p bb:Nat) (L:List Nat) (R:DskV × (Nat × Bs) × Nat) (w:World) (e:Ending) (w':World):Prop:=e=.returned (.int .i64 (R.2.2:Int))∧BaR S p bb L R.1 R.2.1 w w'
theorem BaAt.below {w w':World} {S p bb:Nat} {L:List Nat} {D:DskV} {b:Nat × Bs} (h:BaAt w S p bb L D b) (hb:Below w.heap.size w w'):BaAt w' S p bb L D b:=by
  obtain ⟨n,C,hd⟩:=h.dsk
  exact ⟨(hb.block S (Array.getElem?_eq_some_iff.1 h.sto).1).trans h.sto,⟨n,C,hd.below hb⟩,fun g hg=>Nat.lt_of_lt_of_le (h.lt g hg) hb.size,h.off⟩
theorem BaR.refl {w:World} {S p bb:Nat} {L:List Nat} {D:DskV} {b:Nat × Bs} (h:BaAt w S p bb L D b):BaR S p bb L D b w w:=⟨L,h,Turns.refl _ _,fun _ hg=>.inl hg⟩
theorem BaR.below {w y y':World} {S p bb:Nat} {L:List Nat} {D:DskV} {b:Nat × Bs} (h:BaR S p bb L D b w y) (hb:Below y.heap.size y y'):BaR S p bb L D b w y':=by
  obtain ⟨L1,h1,h2,h3⟩:=h
  exact ⟨L1,h1.below hb,h2.trans (Turns.of hb),h3⟩
theorem BaR.act {w y y':World} {S p bb:Nat} {L L1:List Nat} {D:DskV} {b:Nat × Bs} {R:DskV × Nat} {k:Int} (h:BaAt y S p bb L1 D b) (ht:Turns (S::L) w y) (hl:∀ g ∈ L1,g ∈ L∨w.heap.size≤g) (hr:DkR p bb L1 R y k y'):BaR S p bb L R.1 b w y':=by
  obtain ⟨_,n,C,L',hd,ht',hl'⟩:=hr
  obtain ⟨L2,hd2,hl2⟩:=hd.trim
  have hS:=(Array.getElem?_eq_some_iff.1 h.sto).1
  refine ⟨L2,⟨(ht'.block S hS h.off).trans h.sto,⟨n,C,hd2⟩,fun g hg=>(hl2 g hg).2,fun hg=>?_⟩,⟨ht'.os.trans ht.os,ht'.tape.trans ht.tape,ht'.out.trans ht.out,Nat.le_trans ht.size ht'.size,fun g hg hn=>(ht'.block g (Nat.lt_of_lt_of_le hg ht.size) (fun hg2=>?_)).trans (ht.block g hg hn)⟩,fun g hg=>?_⟩
  · rcases hl' S (hl2 S hg).1 with h1 | h1
    · exact h.off h1
    · omega
  · rcases hl g hg2 with h2 | h2
    · exact hn (List.mem_cons_of_mem _ h2)
    · omega
  · rcases hl' g (hl2 g hg).1 with h1 | h1
    · exact hl g h1
    · exact .inr (Nat.le_trans ht.size h1)
theorem BaR.set {w y y':World} {S p bb:Nat} {L:List Nat} {D:DskV} {b b':Nat × Bs} (h:BaR S p bb L D b w y) (hb:ButOne S y y') (hs:StoAt y' S p b'):BaR S p bb L D b' w y':=by
  obtain ⟨L1,h1,ht,hl⟩:=h
  obtain ⟨n,C,hd⟩:=h1.dsk
  refine ⟨L1,⟨hs,⟨n,C,hd.keep (fun g hg=>hb.block g (h1.lt g hg) (fun e=>h1.off (e ▸ hg)))⟩,fun g hg=>Nat.lt_of_lt_of_le (h1.lt g hg) hb.size,h1.off⟩,⟨hb.os.trans ht.os,hb.tape.trans ht.tape,hb.output.trans ht.out,Nat.le_trans ht.size hb.size,fun g hg hn=>(hb.block g (Nat.lt_of_lt_of_le hg ht.size) (fun e=>hn (by rw [e];exact List.mem_cons_self ..))).trans (ht.block g hg hn)⟩,hl⟩
theorem BaR.far {w y:World} {S p bb B0:Nat} {L:List Nat} {D:DskV} {b:Nat × Bs} (h:BaR S p bb L D b w y) (hB:B0≤w.heap.size) (hS:B0≤S) (hL:∀ g ∈ L,B0≤g):Below B0 w y:=by
  obtain ⟨_,_,ht,_⟩:=h
  exact ht.below (Below.refl _ _) hB (fun g hg=>by
    rcases List.mem_cons.1 hg with h1 | h1
    · rw [h1];exact hS
    · exact hL g h1)
theorem bname_size (u:Nat):(⟨(bname u).toArray⟩:ByteArray).size=17:=by
  show (bname u).toArray.size=17
  rw [List.size_toArray]
  unfold bname
  rw [List.length_cons,hexW_len]
set_option maxRecDepth 100000 in
set_option maxHeartbeats 16000000 in
theorem save_any (B0 S p bb slot:Nat) (L:List Nat) (D:DskV) (b:Nat × Bs) (x:ByteArray) (hs64:slot<18446744073709551616) (hb64:b.1<18446744073709551616) (hx:x.size≤1000000) (w:World) (hv:PVB B0 w) (hB0:B0≤w.heap.size) (hBS:B0≤S) (hBL:∀ g ∈ L,B0≤g) (h:BaAt w S p bb L D b) :
    Calls Tryz.prog 31 #[.pointer (some ⟨S,0,none⟩),.int .u64 (slot:Int),.string x] w (SaveR S p bb L (saveB D b slot x.data.toList) w):=by
  have hxl:=str_len x
  obtain ⟨T,hT⟩:∃ T,T=saveB D b slot x.data.toList:=⟨_,rfl⟩
  rw [← hT]
  have c1:w.cell? ⟨S,1,none⟩=some (.int .u64 (b.1:Int)):=cell_of_row _ _ 1 _ _ _ h.sto
  unfold saveB at hT
  have H:=Lib.hid h
  by_cases h1:slot≤b.1
  · rw [if_pos h1] at hT
    have hd1:((slot:Int)≤(b.1:Int)):=by omega
    have HT:=Lib.hid hT
    clear h hT h1 hxl hs64 hb64
    go_enter Tryz.func31,Tryz.ntmps31
    go_wp2
    go_ret
    rw [HT.out]
    exact ⟨rfl,BaR.refl H.out⟩
  · rw [if_neg h1] at hT
    have hd1 : ¬ ((slot:Int)≤(b.1:Int)):=by omega
    obtain ⟨I,hI⟩:∃ I,I=insB slot x.data.toList:=⟨_,rfl⟩
    rw [← hI] at hT
    have hI2:numL slot++strL x=I:=by rw [hI];unfold insB strL;rw [hxl]
    have hIl:I.length≤1000018:=by
      have q1:=(numL_len slot).1
      have q2:=strL_len x
      rw [← hI2,List.length_append]
      omega
    have Hn:=Lib.hid (num_any (.slice none 0 0) [] slot hs64 (by simp) w (ReadB.nil w))
    have Hs:=Lib.hid (fun (v:Value) (y:World) (hy:ReadB y v (numL slot))=>by have h2:=str_any v (numL slot) x (by have:=(numL_len slot).1;omega) y hy;rw [hI2] at h2;exact h2)
    obtain ⟨z,hz⟩:∃ z:ByteArray,z=⟨I.toArray⟩:=⟨_,rfl⟩
    have hzs:z.size=I.length:=by rw [hz];simp [ByteArray.size]
    obtain ⟨F,hF⟩:∃ F,F=putF3 [] I:=⟨_,rfl⟩
    have Hp:=Lib.hid (fun (y:World)=>by have h2:=fput_any (.slice none 0 0) [] z (by simp) (by unfold maxLen;omega) y (ReadB.nil y);rw [show z.data.toList=I by rw [hz], ← hF] at h2;exact h2)
    have HZ:=Lib.hid hz
    clear hI hI2 hxl hz hzs h1 h
    unfold putF3 at hF
    have Hfin:=Lib.hid hF
    by_cases hf:frOk I
    · rw [if_neg (fun h=>h hf)] at hT
      rw [if_pos hf] at hF
      have HT:=Lib.hid hT
      have HF:=Lib.hid hF
      have hF2:((F.2:Nat):Int)=0:=by rw [hF];rfl
      rw [hF2] at Hp
      clear hT hF hF2 hf Hfin
      go_enter Tryz.func31,Tryz.ntmps31
      go_wp2_with (first
        | ((with_reducible refine Hn.out.mono ?_);rintro e w1 ⟨v1,rfl,ho1,hb1⟩;have Ho1:=Lib.hid (And.intro ho1 hb1);clear ho1 hb1)
        | ((with_reducible refine (Hs.out _ _ Ho1.out.1.read).mono ?_);rintro e w2 ⟨v2,rfl,ho2,hb2⟩
           have hcv:=OwnB.read ho2 |>.conv (P:=Tryz.prog) (src:=121) (dst:=9) (e:=5) Tryz.underlying121 Tryz.underlying5 Tryz.underlying9
           rw [← HZ.out] at hcv
           have Ho2:=Lib.hid (Ho1.out.2.trans (hb2.mono Ho1.out.2.size));clear ho2 hb2)
        | ((with_reducible refine (Hp.out _).mono ?_);rintro e w5 ⟨v3,rfl,ho3,hb3⟩;have Ho3:=Lib.hid (And.intro ho3 (Ho2.out.trans (hb3.mono Ho2.out.size)));clear ho3 hb3))
      have HRB:=Lib.hid (show ReadB w5 v3 (frL I) from by have h2:=Ho3.out.1.read;rw [HF.out] at h2;simpa using h2)
      obtain ⟨fb,hfb⟩:∃ fb:ByteArray,fb=⟨(frL I).toArray⟩:=⟨_,rfl⟩
      have hfbl:fb.data.toList=frL I:=by rw [hfb]
      have hfbs:fb.size≤maxLen:=by
        rw [hfb]
        show (frL I).toArray.size≤_
        rw [List.size_toArray,frL_len]
        have:=(numL_len I.length).1
        unfold maxLen
        omega
      have hnb:(⟨(bname slot).toArray⟩:ByteArray).size≤maxLen:=by rw [bname_size];unfold maxLen;omega
      have HFB:=Lib.hid (And.intro hfb (And.intro hfbl (And.intro hfbs hnb)))
      clear hfb hfbl hfbs hnb hcv
      have HBR:=Lib.hid ((BaR.refl H.out).below Ho3.out.2)
      have HPV:=Lib.hid (fun (y:World) (hy:Below w5.heap.size w5 y)=>hv y (((HBR.out.below hy)).far hB0 hBS hBL))
      have HSP:=Lib.hid (fun (y:World) (hy:Below w5.heap.size w5 y)=>(show y.cell? ⟨S,0,none⟩=some (.pointer (some ⟨p,0,none⟩)) from by
        obtain ⟨L1,hA,_,_⟩:=HBR.out.below hy
        exact cell_of_row _ _ 0 _ _ _ hA.sto))
      refine (wpIn_wide (n:=1)).1 ?_
      refine RegK.wpIn_region_can (F:=Fence.wide) (KeptW w5) [(0,0),(1,0),(2,0),(3,0),(4,0),(6,0),(7,0),(5,1),(8,3),(9,0)] (by kernel_rfl) (by kernel_rfl) (by kernel_rfl) (fun _ _ d _ _ h=>by cases d <;> exact h) ⟨rfl,rfl,rfl,Nat.le_refl _,fun _ _=>rfl⟩ ?_
      dsimp only [RegK.pick,List.getElem?_cons_zero,List.getElem?_cons_succ]
      change RegK.Can _ _ _ _ _ _ _ _ w5.drew
      have hkd:KeptW w5 w5.drew:=⟨rfl,rfl,rfl,Nat.le_refl _,fun _ _=>rfl⟩
      generalize w5.drew=v8 at *
      iterate 3 (refine RegK.can_reads ?_;intro K hK;go_simp;(first | refine ⟨_,fun _ _=>rfl,hK _ ?_⟩ | refine hK _ ?_);clear hK K)
      refine RegK.can_reads ?_
      intro K hK
      go_simp
      refine ⟨.pointer (some ⟨p,0,none⟩),fun y hy=>?_,hK _ ?_⟩
      · have c0:=HSP.out y (KeptW.bel hy)
        go_simp
      clear hK K
      iterate 2 (refine RegK.can_reads ?_;intro K hK;go_simp;(first | refine ⟨_,fun _ _=>rfl,hK _ ?_⟩ | refine hK _ ?_);clear hK K)
      refine RegK.can_reads ?_
      intro K hK
      go_simp
      refine ⟨.string fb,fun y hy=>?_,hK _ ?_⟩
      · have hcv:=((HRB.out.below (KeptW.bel hy)).conv (P:=Tryz.prog) (src:=121) (dst:=9) (e:=5) Tryz.underlying121 Tryz.underlying5 Tryz.underlying9);rw [← HFB.out.1] at hcv
        go_simp
      clear hK K
      refine RegK.can_turns (fun _=>trivial) ?_
      intro K K0 hK hK0
      go_simp
      refine ⟨trivial,?_⟩
      refine (callsIn_wide.2 (name_any slot hs64 v8 (HPV.out v8 (KeptW.bel hkd)))).mono ?_
      rintro e v2 ⟨rfl,hb7⟩
      have v2k:KeptW w5 v2:=KeptW.mono hkd hb7
      refine hK _ _ v2k ?_
      clear hK K hK0 K0
      obtain ⟨L1,hA,ht,hl⟩:=HBR.out.below (KeptW.bel v2k)
      obtain ⟨n1,C1,hd⟩:=hA.dsk
      refine RegK.can_frees (fun _=>trivial) ?_
      intro K K0 hK hK0
      go_simp
      refine ⟨trivial,?_⟩
      refine (callsIn_wide.2 (append_any ⟨(bname slot).toArray⟩ fb HFB.out.2.2.2 HFB.out.2.2.1 _ hd hA.lt)).mono ?_
      rintro e w9 ⟨k,rfl,hr⟩
      have hbr:BaR S p bb L (appD D (bname slot) fb.data.toList).1 b w w9:=BaR.act hA ht hl hr
      have HK:=Lib.hid hr.1
      clear hr
      refine hK (fun _=>True) _ _ trivial ?_
      clear hK K hK0 K0 hA ht hl hd v2k hb7 hkd
      refine RegK.can_reads ?_;intro K hK;go_simp;(first | refine ⟨_,fun _ _=>rfl,hK _ ?_⟩ | refine hK _ ?_);clear hK K
      refine RegK.can_nil ?_
      have hk:=HK.out
      clear HK
      rw [show ((⟨(bname slot).toArray⟩:ByteArray).data.toList)=bname slot from rfl] at hk
      rw [HFB.out.2.1] at hk hbr
      obtain ⟨e1,he1⟩:∃ e1,e1=(appD D (bname slot) (frL I)).2:=⟨_,rfl⟩
      rw [← he1] at hk
      subst hk
      clear HBR HPV HSP HRB
      by_cases hk0:e1≠0
      · have hkz:((e1:Int) != 0)=true:=by rw [bne_iff_ne];omega
        have HT2:=Lib.hid (show T=((appD D (bname slot) (frL I)).1,b,e1) from by rw [HT.out,if_pos (by rw [← he1];exact hk0), ← he1])
        have HBR:=Lib.hid hbr
        clear hbr hk0 he1
        go_wp2
        go_ret
        rw [HT2.out]
        exact ⟨rfl,HBR.out⟩
      · have he0:e1=0:=by omega
        subst he0
        have HT2:=Lib.hid (HT.out.trans (if_neg (by rw [← he1];exact hk0)))
        clear hk0 he1
        have HBR:=Lib.hid (hbr)
        have HPV:=Lib.hid (fun (y:World) (hy:Below w9.heap.size w9 y)=>hv y (((HBR.out.below hy)).far hB0 hBS hBL))
        have HSP:=Lib.hid (fun (y:World) (hy:Below w9.heap.size w9 y)=>(show y.cell? ⟨S,0,none⟩=some (.pointer (some ⟨p,0,none⟩)) from by
          obtain ⟨L1,hA,_,_⟩:=HBR.out.below hy
          exact cell_of_row _ _ 0 _ _ _ hA.sto))
        clear hbr
        go_wp2
        refine (wpIn_wide (n:=1)).1 ?_
        refine RegK.wpIn_region_can (F:=Fence.wide) (KeptW w9) [(0,0),(1,0),(2,0),(3,0),(4,0),(5,1),(6,3),(7,0)] (by kernel_rfl) (by kernel_rfl) (by kernel_rfl) (fun _ _ d _ _ h=>by cases d <;> exact h) ⟨rfl,rfl,rfl,Nat.le_refl _,fun _ _=>rfl⟩ ?_
        dsimp only [RegK.pick,List.getElem?_cons_zero,List.getElem?_cons_succ]
        change RegK.Can _ _ _ _ _ _ _ _ w9.drew
        have hkd:KeptW w9 w9.drew:=⟨rfl,rfl,rfl,Nat.le_refl _,fun _ _=>rfl⟩
        generalize w9.drew=v8 at *
        iterate 3 (refine RegK.can_reads ?_;intro K hK;go_simp;(first | refine ⟨_,fun _ _=>rfl,hK _ ?_⟩ | refine hK _ ?_);clear hK K)
        refine RegK.can_reads ?_
        intro K hK
        go_simp
        refine ⟨.pointer (some ⟨p,0,none⟩),fun y hy=>?_,hK _ ?_⟩
        · have c0:=HSP.out y (KeptW.bel hy)
          go_simp
        clear hK K
        refine RegK.can_reads ?_;intro K hK;go_simp;(first | refine ⟨_,fun _ _=>rfl,hK _ ?_⟩ | refine hK _ ?_);clear hK K
        refine RegK.can_turns (fun _=>trivial) ?_
        intro K K0 hK hK0
        go_simp
        refine ⟨trivial,?_⟩
        refine (callsIn_wide.2 (name_any slot hs64 v8 (HPV.out v8 (KeptW.bel hkd)))).mono ?_
        rintro e v2 ⟨rfl,hb7⟩
        have v2k:KeptW w9 v2:=KeptW.mono hkd hb7
        refine hK _ _ v2k ?_
        clear hK K hK0 K0
        obtain ⟨L1,hA,ht,hl⟩:=HBR.out.below (KeptW.bel v2k)
        obtain ⟨n1,C1,hd⟩:=hA.dsk
        refine RegK.can_frees (fun _=>trivial) ?_
        intro K K0 hK hK0
        go_simp
        refine ⟨trivial,?_⟩
        refine (callsIn_wide.2 (sync_any ⟨(bname slot).toArray⟩ HFB.out.2.2.2 _ hd)).mono ?_
        rintro e w12 ⟨k,rfl,hr⟩
        have hbr:BaR S p bb L (syncD (appD D (bname slot) (frL I)).1 (bname slot)).1 b w w12:=BaR.act hA ht hl hr
        have HK:=Lib.hid hr.1
        clear hr
        refine hK (fun _=>True) _ _ trivial ?_
        clear hK K hK0 K0 hA ht hl hd v2k hb7 hkd
        refine RegK.can_reads ?_;intro K hK;go_simp;(first | refine ⟨_,fun _ _=>rfl,hK _ ?_⟩ | refine hK _ ?_);clear hK K
        refine RegK.can_nil ?_
        have hk:=HK.out
        clear HK
        rw [show ((⟨(bname slot).toArray⟩:ByteArray).data.toList)=bname slot from rfl] at hk
        obtain ⟨e2,he2⟩:∃ e2,e2=(syncD (appD D (bname slot) (frL I)).1 (bname slot)).2:=⟨_,rfl⟩
        rw [← he2] at hk
        subst hk
        clear HBR HPV HSP
        by_cases hk0:e2≠0
        · have hkz:((e2:Int) != 0)=true:=by rw [bne_iff_ne];omega
          have HT3:=Lib.hid (show T=((syncD (appD D (bname slot) (frL I)).1 (bname slot)).1,b,e2) from by rw [HT2.out,if_pos (by rw [← he2];exact hk0), ← he2])
          have HBR:=Lib.hid hbr
          clear hbr hk0 he2
          go_wp2
          go_ret
          rw [HT3.out]
          exact ⟨rfl,HBR.out⟩
        · have he0:e2=0:=by omega
          subst he0
          have HT3:=Lib.hid (HT2.out.trans (if_neg (by rw [← he2];exact hk0)))
          have hso:StoAt w12 S p b:=by obtain ⟨L1,hA,_,_⟩:=hbr;exact hA.sto
          have c1:w12.cell? ⟨S,1,none⟩=some (.int .u64 (b.1:Int)):=cell_of_row _ _ 1 _ _ _ hso
          have t1:=thaw0 1 hso
          have hso2:=heap_setCell_same w12 S 1 (stoC p b) _ (.int .u64 (slot:Int)) hso
          have t2:=thaw0 2 hso2
          have c2:(w12.setCell ⟨S,1,none⟩ (.int .u64 (slot:Int))).cell? ⟨S,2,none⟩=some (.string ⟨b.2.toArray⟩):=cell_of_row _ _ 2 _ _ _ hso2
          have hso3:=heap_setCell_same _ S 2 _ _ (.string x) hso2
          have hbr3:BaR S p bb L (syncD (appD D (bname slot) (frL I)).1 (bname slot)).1 (slot,x.data.toList) w ((w12.setCell ⟨S,1,none⟩ (.int .u64 (slot:Int))).setCell ⟨S,2,none⟩ (.string x)):=hbr.set (ButOne.st (ButOne.st ⟨rfl,rfl,rfl,Nat.le_refl _,fun _ _ _=>rfl⟩)) (by rw [StoAt,hso3];rfl)
          have HBR3:=Lib.hid hbr3
          clear hk0 he2 hso hso2 hso3 hbr hbr3
          by_cases hb0:b.1=0
          · have hbz:((b.1:Int) == 0)=true:=by rw [hb0];rfl
            have HT4:=Lib.hid (HT3.out.trans (if_pos hb0))
            clear hb0
            go_wp2
            go_ret
            rw [HT4.out]
            exact ⟨rfl,HBR3.out⟩
          · have hbz:((b.1:Int) == 0)=false:=by rw [beq_eq_false_iff_ne];omega
            have HT4:=Lib.hid (HT3.out.trans (if_neg hb0))
            clear hb0
            go_wp2
            clear c1 c2 t1 t2
            generalize (w12.setCell ⟨S,1,none⟩ (.int .u64 (slot:Int))).setCell ⟨S,2,none⟩ (.string x)=w15 at *
            have HBR:=Lib.hid (HBR3.out)
            have HPV:=Lib.hid (fun (y:World) (hy:Below w15.heap.size w15 y)=>hv y (((HBR.out.below hy)).far hB0 hBS hBL))
            have HSP:=Lib.hid (fun (y:World) (hy:Below w15.heap.size w15 y)=>(show y.cell? ⟨S,0,none⟩=some (.pointer (some ⟨p,0,none⟩)) from by
              obtain ⟨L1,hA,_,_⟩:=HBR.out.below hy
              exact cell_of_row _ _ 0 _ _ _ hA.sto))
            refine (wpIn_wide (n:=1)).1 ?_
            refine RegK.wpIn_region_can (F:=Fence.wide) (KeptW w15) [(0,0),(1,0),(2,0),(3,0),(4,0),(5,1),(6,3),(7,0)] (by kernel_rfl) (by kernel_rfl) (by kernel_rfl) (fun _ _ d _ _ h=>by cases d <;> exact h) ⟨rfl,rfl,rfl,Nat.le_refl _,fun _ _=>rfl⟩ ?_
            dsimp only [RegK.pick,List.getElem?_cons_zero,List.getElem?_cons_succ]
            change RegK.Can _ _ _ _ _ _ _ _ w15.drew
            have hkd:KeptW w15 w15.drew:=⟨rfl,rfl,rfl,Nat.le_refl _,fun _ _=>rfl⟩
            generalize w15.drew=v8 at *
            iterate 3 (refine RegK.can_reads ?_;intro K hK;go_simp;(first | refine ⟨_,fun _ _=>rfl,hK _ ?_⟩ | refine hK _ ?_);clear hK K)
            refine RegK.can_reads ?_
            intro K hK
            go_simp
            refine ⟨.pointer (some ⟨p,0,none⟩),fun y hy=>?_,hK _ ?_⟩
            · have c0:=HSP.out y (KeptW.bel hy)
              go_simp
            clear hK K
            refine RegK.can_reads ?_;intro K hK;go_simp;(first | refine ⟨_,fun _ _=>rfl,hK _ ?_⟩ | refine hK _ ?_);clear hK K
            refine RegK.can_turns (fun _=>trivial) ?_
            intro K K0 hK hK0
            go_simp
            refine ⟨trivial,?_⟩
            refine (callsIn_wide.2 (name_any b.1 hb64 v8 (HPV.out v8 (KeptW.bel hkd)))).mono ?_
            rintro e v2 ⟨rfl,hb7⟩
            have v2k:KeptW w15 v2:=KeptW.mono hkd hb7
            refine hK _ _ v2k ?_
            clear hK K hK0 K0
            obtain ⟨L1,hA,ht,hl⟩:=HBR.out.below (KeptW.bel v2k)
            obtain ⟨n1,C1,hd⟩:=hA.dsk
            refine RegK.can_frees (fun _=>trivial) ?_
            intro K K0 hK hK0
            go_simp
            refine ⟨trivial,?_⟩
            refine (callsIn_wide.2 (remove_any ⟨(bname b.1).toArray⟩ (by rw [bname_size];unfold maxLen;omega) _ hd hA.lt)).mono ?_
            rintro e w18 ⟨k,rfl,hr⟩
            have hbr:BaR S p bb L (remD (syncD (appD D (bname slot) (frL I)).1 (bname slot)).1 (bname b.1)).1 (slot,x.data.toList) w w18:=BaR.act hA ht hl hr
            have HK:=Lib.hid hr.1
            clear hr
            refine hK (fun _=>True) _ _ trivial ?_
            clear hK K hK0 K0 hA ht hl hd v2k hb7 hkd
            refine RegK.can_reads ?_;intro K hK;go_simp;(first | refine ⟨_,fun _ _=>rfl,hK _ ?_⟩ | refine hK _ ?_);clear hK K
            refine RegK.can_nil ?_
            have hk:=HK.out
            clear HK
            rw [show ((⟨(bname b.1).toArray⟩:ByteArray).data.toList)=bname b.1 from rfl] at hk
            subst hk
            have HBR4:=Lib.hid hbr
            clear hbr
            go_wp2
            go_ret
            rw [HT4.out]
            exact ⟨rfl,HBR4.out⟩
    · rw [if_pos hf] at hT
      rw [if_neg hf] at hF
      have HT:=Lib.hid hT
      have hF2:((F.2:Nat):Int)=6:=by rw [hF];rfl
      rw [hF2] at Hp
      clear hT hF hF2 hf Hfin
      go_enter Tryz.func31,Tryz.ntmps31
      go_wp2_with (first
        | ((with_reducible refine Hn.out.mono ?_);rintro e w1 ⟨v1,rfl,ho1,hb1⟩;have Ho1:=Lib.hid (And.intro ho1 hb1);clear ho1 hb1)
        | ((with_reducible refine (Hs.out _ _ Ho1.out.1.read).mono ?_);rintro e w2 ⟨v2,rfl,ho2,hb2⟩
           have hcv:=OwnB.read ho2 |>.conv (P:=Tryz.prog) (src:=121) (dst:=9) (e:=5) Tryz.underlying121 Tryz.underlying5 Tryz.underlying9
           rw [← HZ.out] at hcv
           have Ho2:=Lib.hid (Ho1.out.2.trans (hb2.mono Ho1.out.2.size));clear ho2 hb2)
        | ((with_reducible refine (Hp.out _).mono ?_);rintro e w5 ⟨v3,rfl,ho3,hb3⟩;have Ho3:=Lib.hid (And.intro ho3 (Ho2.out.trans (hb3.mono Ho2.out.size)));clear ho3 hb3))
      go_ret
      rw [HT.out]
      exact ⟨rfl,(BaR.refl H.out).below Ho3.out.2⟩
end Go.Proofs.YticjodhkmidljaaGreatDoor
namespace Go.Proofs.YticjodhkmidljaaGreatDoor
theorem hexC1_fin:∀ d:Fin 16,hexV (hexC1 d.val)=some d.val:=by decide +kernel
theorem hexC1_acc {d:Nat} (h:d<16):hexV (hexC1 d)=some d:=hexC1_fin ⟨d,h⟩
theorem hexW_acc:∀ k n,n<16 ^ k→hexAcc (hexW k n)=some n
  | 0,n,h=>by
    have:n=0:=by simpa using h
    rw [this];rfl
  | k+1,n,h=>by
    have h1:n / 16<16 ^ k:=by
      rw [Nat.pow_succ] at h
      omega
    rw [hexW,hexAcc_snoc,hexW_acc k _ h1]
    unfold hexStep
    rw [hexC1_acc (Nat.mod_lt _ (by decide))]
    show some (n / 16*16+n % 16)=some n
    congr 1
    omega
theorem bname_len (n:Nat):(bname n).length=17:=by unfold bname;rw [List.length_cons,hexW_len]
theorem slot_name {n:Nat} (h1:1≤n) (h2:n<18446744073709551616):slotD (bname n)=some n:=by
  unfold slotD
  rw [if_pos (bname_len n),show (bname n).drop 1=hexW 16 n from rfl,hexW_acc 16 n h2]
  show (if n≠0∧bname n=bname n then some n else none)=some n
  rw [if_pos ⟨by omega,rfl⟩]
theorem bname_inj {n m:Nat} (hn:n<18446744073709551616) (hm:m<18446744073709551616) (h:bname n=bname m):n=m:=by
  have h2:hexW 16 n=hexW 16 m:=(List.cons.inj h).2
  have h3:=hexW_acc 16 n hn
  rw [h2,hexW_acc 16 m hm] at h3
  exact (Option.some.inj h3).symm
theorem insB_len (slot:Nat) (t:Bs):(insB slot t).length≤18+t.length∧2≤(insB slot t).length:=by
  unfold insB
  have h1:=numL_len slot
  have h2:=numL_len t.length
  simp only [List.length_append]
  omega
/-- A base's file. -/
def goodF (slot:Nat) (t:Bs):FilV:=⟨bname slot,frL (insB slot t),(frL (insB slot t)).length⟩
def stF (b:Nat × Bs):List FilV:=if b.1=0 then [] else [goodF b.1 b.2]
theorem base_one {slot:Nat} {f:FilV} (h1:1≤slot) (hs:slot<18446744073709551616) (hf:f.nm=bname slot):baseF f=some (slot,f):=by
  unfold baseF
  rw [hf,slot_name h1 hs]
  rfl
theorem stF_base {b:Nat × Bs} (hs:b.1<18446744073709551616):baseL (stF b)=if b.1=0 then [] else [(b.1,goodF b.1 b.2)]:=by
  unfold stF
  by_cases h:b.1=0
  · rw [if_pos h,if_pos h];rfl
  · rw [if_neg h,if_neg h]
    unfold baseL
    rw [List.filterMap_cons,base_one (by omega) hs rfl]
    rfl
theorem stF_rise (b:Nat × Bs):Rise (stF b):=by
  unfold stF
  split
  · exact List.Pairwise.nil
  · exact List.pairwise_singleton _ _
theorem stF_len (b:Nat × Bs):(stF b).length≤1:=by
  unfold stF
  split <;> simp
theorem stF_none {b:Nat × Bs} {slot:Nat} (hb:b.1<18446744073709551616) (hs:slot<18446744073709551616) (h:b.1<slot):findF (bname slot) (stF b)=none:=by
  unfold stF
  split
  · rfl
  · unfold findF
    rw [List.find?_cons_of_neg]
    · rfl
    · have hne:bname b.1≠bname slot:=fun e=>by have:=bname_inj hb hs e;omega
      exact fun e=>hne (of_decide_eq_true e)
theorem putf_del {g:FilV} {b:Nat × Bs} (hb:b.1≠0) (hn:bname b.1≠g.nm):delF (bname b.1) (putF g (stF b))=[g]:=by
  have h1:decide (g.nm≠bname b.1)=true:=by simpa using Ne.symm hn
  have h2:decide ((goodF b.1 b.2).nm≠bname b.1)=false:=by simp [goodF]
  unfold stF
  rw [if_neg hb]
  unfold putF delF
  rw [if_neg (show ¬ (goodF b.1 b.2).nm=g.nm from hn)]
  split
  · rw [List.filter_cons_of_pos (p:=fun f:FilV=>decide (f.nm≠bname b.1)) h1,List.filter_cons_of_neg (by rw [h2];decide)];rfl
  · rw [List.filter_cons_of_neg (by rw [h2];decide)]
    show List.filter _ (putF g [])=_
    unfold putF
    rw [List.filter_cons_of_pos (p:=fun f:FilV=>decide (f.nm≠bname b.1)) h1];rfl
end Go.Proofs.YticjodhkmidljaaGreatDoor
namespace Go.Proofs.YticjodhkmidljaaGreatDoor
theorem sname_fin:∀ n:Fin 210,numN (sname (n.val+1))=some (n.val+1)∧sname n.val<sname (n.val+1)∧(sname (n.val+1)).length=9:=by decide +kernel
theorem sname_num {n:Nat} (h1:1≤n) (h2:n≤210):numN (sname n)=some n:=by
  have h:=(sname_fin ⟨n - 1,by omega⟩).1
  dsimp only at h
  rwa [show n - 1+1=n by omega] at h
theorem sname_len {n:Nat} (h1:1≤n) (h2:n≤210):(sname n).length=9:=by
  have h:=(sname_fin ⟨n - 1,by omega⟩).2.2
  dsimp only at h
  rwa [show n - 1+1=n by omega] at h
theorem sname_lt:∀ (k n:Nat),n+k+1≤210→sname n<sname (n+k+1)
  | 0,n,h=>(sname_fin ⟨n,by omega⟩).2.1
  | k+1,n,h=>List.lt_trans (sname_lt k n (by omega)) ((sname_fin ⟨n+k+1,by omega⟩).2.1)
theorem sname_lt' {n m:Nat} (h:n<m) (hm:m≤210):sname n<sname m:=by
  have h2:=sname_lt (m - n - 1) n (by omega)
  rwa [show n+(m - n - 1)+1=m by omega] at h2
/-- A whole segment. -/
def segW (n:Nat) (R:List Bs):FilV:=⟨sname n,frsL R,(frsL R).length⟩
def whs:Nat→List (List Bs)→List FilV
  | _,[]=>[]
  | a,R::r=>segW a R::whs (a+1) r
def whsN:Nat→List (List Bs)→List (Nat × FilV)
  | _,[]=>[]
  | a,R::r=>(a,segW a R)::whsN (a+1) r
def lastF (n:Nat) (R:List Bs) (t:Bs) (y:Nat):FilV:=⟨sname n,frsL R++t,(frsL (R.take y)).length⟩
theorem lastF_whole (n:Nat) (R:List Bs):lastF n R [] R.length=segW n R:=by unfold lastF segW;rw [List.append_nil,List.take_length]
theorem whs_len:∀ (a:Nat) (P:List (List Bs)),(whs a P).length=P.length
  | _,[]=>rfl
  | a,R::r=>by rw [whs,List.length_cons,whs_len,List.length_cons]
theorem whsN_len:∀ (a:Nat) (P:List (List Bs)),(whsN a P).length=P.length
  | _,[]=>rfl
  | a,R::r=>by rw [whsN,List.length_cons,whsN_len,List.length_cons]
theorem whs_snoc:∀ (a:Nat) (P:List (List Bs)) (R:List Bs),whs a (P++[R])=whs a P++[segW (a+P.length) R]
  | _,[],_=>rfl
  | a,Q::r,R=>by
    rw [List.cons_append,whs,whs_snoc,whs,List.length_cons,List.cons_append,show a+1+r.length=a+(r.length+1) by omega]
theorem whsN_at:∀ (a:Nat) (P:List (List Bs)) (i:Nat),(whsN a P)[i]?=(P[i]?).map (fun Q=>(a+i,segW (a+i) Q))
  | _,[],_=>by simp [whsN]
  | a,Q::r,0=>by simp [whsN]
  | a,Q::r,i+1=>by
    rw [whsN,List.getElem?_cons_succ,whsN_at,List.getElem?_cons_succ,show a+1+i=a+(i+1) by omega]
theorem segF_w {n:Nat} {f:FilV} (h1:1≤n) (h2:n≤210) (hf:f.nm=sname n):segF f=some (n,f):=by
  unfold segF
  rw [hf,sname_num h1 h2]
  rfl
theorem segL_whs:∀ (a:Nat) (P:List (List Bs)),1≤a→a+P.length≤211→segL (whs a P)=whsN a P
  | _,[],_,_=>rfl
  | a,R::r,h1,h2=>by
    rw [List.length_cons] at h2
    unfold segL
    rw [whs,List.filterMap_cons,segF_w h1 (by omega) rfl]
    dsimp only
    have h3:=segL_whs (a+1) r (by omega) (by omega)
    unfold segL at h3
    rw [h3,whsN]
theorem whs_mem:∀ (a:Nat) (P:List (List Bs)) (f:FilV),f ∈ whs a P→∃ k Q,k<P.length∧P[k]?=some Q∧f=segW (a+k) Q
  | _,[],_,h=>by cases h
  | a,R::r,f,h=>by
    rcases List.mem_cons.1 h with rfl | h
    · exact ⟨0,R,by simp,rfl,rfl⟩
    · obtain ⟨k,Q,h1,h2,h3⟩:=whs_mem (a+1) r f h
      exact ⟨k+1,Q,by simpa using h1,by simpa using h2,by rw [h3,show a+1+k=a+(k+1) by omega]⟩
theorem whs_rise:∀ (a:Nat) (P:List (List Bs)),a+P.length≤211→Rise (whs a P)
  | _,[],_=>List.Pairwise.nil
  | a,R::r,h=>by
    rw [List.length_cons] at h
    refine List.pairwise_cons.2 ⟨fun f hf=>?_,whs_rise (a+1) r (by omega)⟩
    obtain ⟨k,Q,h1,_,rfl⟩:=whs_mem _ _ _ hf
    exact sname_lt' (by omega) (by omega)
theorem whs_last_rise {a:Nat} {P:List (List Bs)} {g:FilV} (h:a+P.length≤210) (hg:g.nm=sname (a+P.length)):Rise (whs a P++[g]):=by
  refine List.pairwise_append.2 ⟨whs_rise a P (by omega),List.pairwise_singleton _ _,fun f hf q hq=>?_⟩
  rw [List.mem_singleton.1 hq,hg]
  obtain ⟨k,Q,h1,_,rfl⟩:=whs_mem _ _ _ hf
  exact sname_lt' (by omega) (by omega)
theorem put_end {f:FilV}:∀ {l:List FilV},(∀ g ∈ l,g.nm<f.nm)→putF f l=l++[f]
  | [],_=>rfl
  | g::r,h=>by
    have h1:=h g (List.mem_cons_self ..)
    rw [putF,if_neg (fun e=>by rw [e] at h1;exact List.lt_irrefl _ h1),if_neg (fun e=>List.lt_irrefl _ (List.lt_trans h1 e)),put_end (fun q hq=>h q (List.mem_cons_of_mem _ hq))]
    rfl
theorem tot_app (a b:List FilV):totF (a++b)=totF a+totF b:=by simp [totF]
theorem tot_whs:∀ (a:Nat) (P:List (List Bs)),totF (whs a P)=(frsL P.flatten).length
  | _,[]=>rfl
  | a,R::r=>by
    rw [whs,tot_cons,tot_whs,List.flatten_cons,frsL_app,List.length_append]
    rfl
/-- Bytes that are no frame, nor begin with one. -/
def Tor (t:Bs):Prop:=(splD t).1=[]∧(splD t).2.1=0
theorem tor_nil:Tor []:=⟨rfl,rfl⟩
theorem tor_pre {x t:Bs} (h:frOk x) (hp:t <+: frL x) (hl:t.length<(frL x).length):Tor t:=by
  by_cases h0:t.length=0
  · rw [List.length_eq_zero_iff.1 h0]
    exact tor_nil
  · have h2:=take_torn h.1 h.2 hp hl
    unfold Tor
    rw [splD_err (by rw [h2];decide) h0]
    exact ⟨rfl,rfl⟩
theorem splD_tor {R:List Bs} {t:Bs} (h:Oks R) (ht:Tor t):(splD (frsL R++t)).1=R∧(splD (frsL R++t)).2.1=(frsL R).length:=by
  rw [splD_frs R h t]
  dsimp only
  rw [ht.1,ht.2]
  exact ⟨List.append_nil _,rfl⟩
/-- A disk that holds a log's segments: whole ones from a on, and a last one. -/
structure Lg (D:DskV) (a:Nat) (P:List (List Bs)) (R:List Bs) (t:Bs) (y:Nat):Prop where
  fs:D.fs=whs a P++[lastF (a+P.length) R t y]
  ok:Oks P.flatten
  okR:Oks R
  num:1≤a∧a+P.length≤200
  yR:y≤R.length
  tor:Tor t
  sum:D.room+totF D.fs=4194304
/-- .. none. -/
structure Lg0 (D:DskV):Prop where
  fs:D.fs=[]
  room:D.room=4194304
section
variable {D : DskV} {a : Nat} {P : List (List Bs)} {R : List Bs} {t : Bs} {y : Nat}
theorem Lg.rise (h:Lg D a P R t y):Rise D.fs:=by rw [h.fs];exact whs_last_rise (by have:=h.num;omega) rfl
theorem Lg.seg (h:Lg D a P R t y):segL D.fs=whsN a P++[(a+P.length,lastF (a+P.length) R t y)]:=by
  have hn:=h.num
  rw [h.fs,segL_snoc,segL_whs a P hn.1 (by omega),segF_w (n:=a+P.length) (by omega) (by omega) rfl]
  rfl
theorem oks_take {l:List Bs} (h:Oks l) (n:Nat):Oks (l.take n):=fun x hx=>h x (List.take_subset _ _ hx)
theorem frsL_take (l:List Bs) (n:Nat):frsL (l.take n) <+: frsL l:=by
  refine ⟨frsL (l.drop n),?_⟩
  rw [← frsL_app,List.take_append_drop]
theorem Lg.sy_le (_:Lg D a P R t y):(lastF (a+P.length) R t y).by_.take (lastF (a+P.length) R t y).sy=frsL (R.take y):=by
  show (frsL R++t).take (frsL (R.take y)).length=_
  have h2:frsL (R.take y) <+: frsL R++t:=(frsL_take R y).trans (List.prefix_append _ _)
  exact (List.prefix_iff_eq_take.1 h2).symm
theorem Lg.good (h:Lg D a P R t y) : ¬ Spoilt (segL D.fs):=by
  rintro ⟨i,x,hx,hb⟩
  rw [h.seg] at hx hb
  have hl:=whsN_len a P
  by_cases hi:i<P.length
  · rw [List.getElem?_append_left (by omega),whsN_at,List.getElem?_eq_getElem hi] at hx
    simp only [Option.map_some,Option.some.injEq] at hx
    subst hx
    rcases hb with ⟨h0,hb⟩ | hb | ⟨_,hb⟩
    · rw [List.getElem?_append_left (by omega),whsN_at,List.getElem?_eq_getElem (by omega)] at hb
      exact hb _ rfl (by show a+i=a+(i - 1)+1;omega)
    · refine hb ?_
      show (splD ((frsL P[i]).take (frsL P[i]).length)).2.2=0
      rw [List.take_length,splD_all (fun z hz=>h.ok z (List.mem_flatten.2 ⟨_,List.getElem_mem hi,hz⟩))]
    · exact Nat.lt_irrefl _ hb
  · have hi2:i=P.length:=by
      have:=(List.getElem?_eq_some_iff.1 hx).1
      simp [hl] at this
      omega
    subst hi2
    rw [List.getElem?_append_right (by omega),hl,Nat.sub_self,List.getElem?_cons_zero] at hx
    obtain rfl:=Option.some.inj hx
    rcases hb with ⟨h0,hb⟩ | hb | ⟨hb,_⟩
    · rw [List.getElem?_append_left (by omega),whsN_at,List.getElem?_eq_getElem (by omega)] at hb
      exact hb _ rfl (by show a+P.length=a+(P.length - 1)+1;omega)
    · refine hb ?_
      dsimp only
      rw [h.sy_le,splD_all (oks_take h.okR y)]
    · simp [hl] at hb
theorem recL_whsN:∀ (a:Nat) (P:List (List Bs)),Oks P.flatten→recL (whsN a P)=P.flatten
  | _,[],_=>rfl
  | a,R::r,h=>by
    rw [List.flatten_cons] at h
    have h1:Oks R:=fun z hz=>h z (List.mem_append_left _ hz)
    have h2:Oks r.flatten:=fun z hz=>h z (List.mem_append_right _ hz)
    have h3:=recL_whsN (a+1) r h2
    unfold recL at h3 ⊢
    rw [whsN,List.flatMap_cons,h3,List.flatten_cons]
    show (splD (frsL R)).1++_=_
    rw [splD_all h1]
theorem Lg.recs (h:Lg D a P R t y):recL (segL D.fs)=P.flatten++R:=by
  rw [h.seg,recL_snoc,recL_whsN a P h.ok]
  show _++(splD (frsL R++t)).1=_
  rw [(splD_tor h.okR h.tor).1]
theorem Lg.ends (h:Lg D a P R t y):endL (segL D.fs)=(frsL R).length:=by
  rw [h.seg,endL_snoc]
  exact (splD_tor h.okR h.tor).2
theorem Lg.find (h:Lg D a P R t y):findF (sname (a+P.length)) D.fs=some (lastF (a+P.length) R t y) :=
  find_of h.rise (f:=lastF (a+P.length) R t y) (by rw [h.fs];exact List.mem_append_right _ (List.mem_singleton.2 rfl))
theorem Lg.putl (h:Lg D a P R t y) (g:FilV) (hg:g.nm=sname (a+P.length)):putF g D.fs=whs a P++[g]:=by
  have hr:=h.rise
  rw [h.fs] at hr ⊢
  exact put_mid (f:=lastF (a+P.length) R t y) hg hr
theorem Lg.tot (h:Lg D a P R t y):totF D.fs=(frsL P.flatten).length+(frsL R).length+t.length:=by
  rw [h.fs,tot_app,tot_whs,tot_cons]
  show _+((frsL R++t).length+0)=_
  rw [List.length_append]
  omega
end
end Go.Proofs.YticjodhkmidljaaGreatDoor
namespace Go.Proofs.YticjodhkmidljaaGreatDoor
def lastS (D:DskV):Option (Nat × FilV):=(segL D.fs).getLast?
def lsyncD (D:DskV):DskV × Nat:=match lastS D with
  | none=>(D,0)
  | some x=>syncD D x.2.nm
/-- What Open does to a log that is whole. -/
def lopenD (D:DskV):DskV × Nat:=match lastS D with
  | none=>(D,0)
  | some x=>if (cutD D x.2.nm (endL (segL D.fs):Int)).2≠0 then cutD D x.2.nm (endL (segL D.fs):Int) else lsyncD (cutD D x.2.nm (endL (segL D.fs):Int)).1
def laddD (D:DskV) (r:Bs):DskV × Nat:=if ¬ frOk r then (D,6) else match lastS D with
  | none=>appD D (sname 1) (frL r)
  | some x=>if x.2.by_.length<1024 then appD D x.2.nm (frL r) else if (lsyncD D).2≠0 then lsyncD D else if x.1=99999999 then ((lsyncD D).1,7) else appD (lsyncD D).1 (sname (x.1+1)) (frL r)
def nextN (D:DskV):Nat:=match lastS D with
  | none=>1
  | some x=>x.1+1
/-- Renew, up to the elder segments' removal. -/
def lnewD (D:DskV) (rs:List Bs):DskV × Nat:=if (lsyncD D).2≠0 then lsyncD D else if 99999999<nextN D then ((lsyncD D).1,7) else
  if (appD (lsyncD D).1 (sname (nextN D)) (frsL rs)).2≠0 then appD (lsyncD D).1 (sname (nextN D)) (frsL rs) else lsyncD (appD (lsyncD D).1 (sname (nextN D)) (frsL rs)).1
section
variable {D : DskV} {a : Nat} {P : List (List Bs)} {R : List Bs} {t : Bs} {y : Nat}
theorem Lg.last (h:Lg D a P R t y):lastS D=some (a+P.length,lastF (a+P.length) R t y):=by
  unfold lastS
  rw [h.seg,List.getLast?_append]
  rfl
theorem Lg0.last (h:Lg0 D):lastS D=none:=by
  unfold lastS
  rw [h.fs]
  rfl
/-- The last file is another one. -/
theorem Lg.set (h:Lg D a P R t y) {D':DskV} {R':List Bs} {t':Bs} {y':Nat} (hf:D'.fs=putF (lastF (a+P.length) R' t' y') D.fs) (hR:Oks R') (hy:y'≤R'.length) (ht:Tor t')
    (hr:D'.room+(frsL R').length+t'.length=D.room+(frsL R).length+t.length):Lg D' a P R' t' y':=by
  have h1:=h.putl (lastF (a+P.length) R' t' y') rfl
  have h2:=h.tot
  have h3:=h.sum
  refine ⟨hf.trans h1,h.ok,hR,h.num,hy,ht,?_⟩
  have h4:totF D'.fs=(frsL P.flatten).length+(frsL R').length+t'.length:=by
    rw [hf,h1,tot_app,tot_whs,tot_cons]
    show _+((frsL R'++t').length+0)=_
    rw [List.length_append]
    omega
  omega
theorem Lg.same (h:Lg D a P R t y) {D':DskV} (hf:D'.fs=D.fs) (hr:D'.room=D.room):Lg D' a P R t y:=⟨hf.trans h.fs,h.ok,h.okR,h.num,h.yR,h.tor,by rw [hf,hr];exact h.sum⟩
theorem lg_sync1 (h:Lg D a P R [] y) (hd:D.dead=false):∃ D',syncD D (sname (a+P.length))=(D',0)∧Lg D' a P R [] R.length∧D'.dead=false∧D'.fuse=D.fuse:=by
  refine ⟨{ D with fs:=putF (lastF (a+P.length) R [] R.length) D.fs },?_,h.set rfl h.okR (Nat.le_refl _) tor_nil rfl,hd,rfl⟩
  unfold syncD
  rw [with_some hd h.find]
  congr 3
  unfold lastF
  dsimp only
  rw [List.append_nil,List.take_length]
theorem lg_sync (h:Lg D a P R [] y) (hd:D.dead=false):∃ D',lsyncD D=(D',0)∧Lg D' a P R [] R.length∧D'.dead=false∧D'.fuse=D.fuse:=by
  obtain ⟨D',h1,h2⟩:=lg_sync1 h hd
  refine ⟨D',?_,h2⟩
  unfold lsyncD
  rw [h.last]
  exact h1
theorem lg_open (h:Lg D a P R t y) (hd:D.dead=false):∃ D',lopenD D=(D',0)∧Lg D' a P R [] R.length∧D'.dead=false∧D'.fuse=D.fuse:=by
  have hy:(frsL (R.take y)).length≤(frsL R).length:=(frsL_take R y).length_le
  have hb:(lastF (a+P.length) R t y).by_.length=(frsL R).length+t.length:=by unfold lastF;rw [List.length_append]
  have hc:cutD D (sname (a+P.length)) (((frsL R).length:Nat):Int)=({ D with fs:=putF (lastF (a+P.length) R [] y) D.fs,room:=D.room+t.length },0):=by
    unfold cutD
    rw [with_some hd h.find]
    rw [if_neg (by rw [hb];show ¬ (_<(((frsL (R.take y)).length:Nat):Int)∨_);omega),hb,Int.toNat_natCast,Nat.add_sub_cancel_left]
    congr 3
    unfold lastF
    rw [List.take_left,List.append_nil]
  have h2:Lg ({ D with fs:=putF (lastF (a+P.length) R [] y) D.fs,room:=D.room+t.length }:DskV) a P R [] y:=h.set rfl h.okR h.yR tor_nil (by show D.room+t.length+_+0=_;omega)
  obtain ⟨D',h3,h4,h5,h6⟩:=lg_sync h2 hd
  refine ⟨D',?_,h4,h5,h6⟩
  unfold lopenD
  rw [h.last]
  dsimp only
  rw [h.ends,show (lastF (a+P.length) R t y).nm=sname (a+P.length) from rfl,hc,if_neg (by simp)]
  exact h3
theorem lg0_open (h:Lg0 D):lopenD D=(D,0):=by unfold lopenD;rw [h.last]
theorem lg0_sync (h:Lg0 D):lsyncD D=(D,0):=by unfold lsyncD;rw [h.last]
theorem frsL_one (r:Bs):frsL [r]=frL r:=by simp [frsL]
theorem Lg.all_lt (h:Lg D a P R t y):∀ g ∈ D.fs,g.nm<sname (a+P.length+1):=fun g hg=>by
  have hn:=h.num
  rw [h.fs] at hg
  rcases List.mem_append.1 hg with q | q
  · obtain ⟨k,Q,h1,_,rfl⟩:=whs_mem _ _ _ q
    exact sname_lt' (by omega) (by omega)
  · rw [List.mem_singleton.1 q]
    exact sname_lt' (Nat.lt_succ_self _) (by omega)
theorem none_of_lt {nm:Bs} {l:List FilV} (h:∀ g ∈ l,g.nm<nm):findF nm l=none:=by
  unfold findF
  rw [List.find?_eq_none]
  intro g hg e
  have h1:=h g hg
  have e:g.nm=nm:=by simpa using e
  rw [e] at h1
  exact List.lt_irrefl _ h1
/-- How many bytes go behind the fuse. -/
theorem app_cases (hd:D.dead=false) {nm s:Bs} (hn:1≤nm.length∧nm.length≤24) (hr:s.length≤D.room) (hl:(findF nm D.fs).isNone=true→D.fs.length<1000) :
    (∃ o,appD D nm s=({ D.more ((findF nm D.fs).getD ⟨nm,[],0⟩) s with fuse:=o },0)∧(D.fuse=none→o=none)) ∨
    (∃ k,D.fuse=some k∧k<s.length∧appD D nm s=({ D.more ((findF nm D.fs).getD ⟨nm,[],0⟩) (s.take k) with fuse:=none,dead:=true },9)):=by
  unfold appD
  rw [if_neg (by rw [hd];simp),if_neg (by omega),if_neg (by rintro (q | ⟨q1,q2⟩); · omega
                                                            · have:=hl q1;omega)]
  cases hf:D.fuse with
  | none=>exact .inl ⟨none,by unfold DskV.more;rw [hf],fun _=>rfl⟩
  | some k =>
    dsimp only
    by_cases hk:k<s.length
    · exact .inr ⟨k,rfl,hk,by rw [if_pos hk]⟩
    · exact .inl ⟨_,by rw [if_neg hk],fun q=>by cases q⟩
theorem oks_snoc {l:List Bs} {r:Bs} (h:Oks l) (hr:frOk r):Oks (l++[r]):=fun x hx=>by
  rcases List.mem_append.1 hx with q | q
  · exact h x q
  · rw [List.mem_singleton.1 q];exact hr
theorem Lg.flen (h:Lg D a P R t y):D.fs.length≤200:=by
  have hn:=h.num
  rw [h.fs,List.length_append,whs_len]
  simp
  omega
/-- Bytes behind the last segment. -/
theorem lg_app (h:Lg D a P R [] y) (hd:D.dead=false) {r:Bs} (hr:frOk r) (hroom:(frL r).length≤D.room) :
    (∃ D',appD D (sname (a+P.length)) (frL r)=(D',0)∧Lg D' a P (R++[r]) [] y∧D'.dead=false∧(D.fuse=none→D'.fuse=none)) ∨
    (∃ D' t,appD D (sname (a+P.length)) (frL r)=(D',9)∧Lg D' a P R t y∧D'.dead=true∧D'.fuse=none∧D.fuse≠none):=by
  have hn:=h.num
  have hl:=sname_len (n:=a+P.length) (by omega) (by omega)
  have hput:∀ s,putF { lastF (a+P.length) R [] y with by_:=(lastF (a+P.length) R [] y).by_++s } D.fs=putF ⟨sname (a+P.length),frsL R++s,(frsL (R.take y)).length⟩ D.fs:=fun s=>by
    congr 1
    unfold lastF
    rw [List.append_nil]
  rcases app_cases hd (nm:=sname (a+P.length)) (s:=frL r) (by omega) hroom (by rw [h.find];intro q;cases q) with ⟨o,h1,h2⟩ | ⟨k,h0,h1,h2⟩
  · refine .inl ⟨_,h1,?_,hd,h2⟩
    refine h.set (R':=R++[r]) (t':=[]) (y':=y) ?_ (oks_snoc h.okR hr) (by rw [List.length_append];have:=h.yR;omega) tor_nil ?_
    · rw [h.find]
      show putF { lastF (a+P.length) R [] y with by_:=(lastF (a+P.length) R [] y).by_++frL r } D.fs=_
      rw [hput]
      congr 1
      unfold lastF
      rw [frsL_app,frsL_one,List.append_nil,List.take_append_of_le_length h.yR]
    · show D.room - (frL r).length+_+0=_+0
      rw [frsL_app,frsL_one,List.length_append]
      omega
  · refine .inr ⟨_,(frL r).take k,h2,?_,rfl,rfl,by rw [h0];simp⟩
    have htl:((frL r).take k).length=k:=by rw [List.length_take];omega
    refine h.set (R':=R) (t':=(frL r).take k) (y':=y) ?_ h.okR h.yR (tor_pre hr (List.take_prefix _ _) (by omega)) ?_
    · rw [h.find]
      show putF { lastF (a+P.length) R [] y with by_:=(lastF (a+P.length) R [] y).by_++(frL r).take k } D.fs=_
      rw [hput]
      rfl
    · show D.room - ((frL r).take k).length+_+((frL r).take k).length=_+0
      omega
/-- A new segment, that holds some records, or a beginning of them. -/
theorem torn_cut:∀ (l:List Bs),Oks l→∀ k,k≤(frsL l).length→∃ j t,j≤l.length∧(frsL l).take k=frsL (l.take j)++t∧Tor t∧∀ y,y≤l.length→(frsL (l.take y)).length≤k→y≤j
  | [],_,k,_=>⟨0,[],Nat.le_refl _,by simp [frsL],tor_nil,fun y hy _=>hy⟩
  | x::l,h,k,hk=>by
    have hx:=h x (List.mem_cons_self ..)
    have hfx:=frL_len x
    rw [frsL_cons,List.length_append] at hk
    by_cases hkx:k<(frL x).length
    · refine ⟨0,(frL x).take k,Nat.zero_le _,?_,tor_pre hx (List.take_prefix _ _) (by rw [List.length_take];omega),fun y hy hl=>?_⟩
      · rw [frsL_cons,List.take_append_of_le_length (by omega)]
        rfl
      · cases y with
        | zero=>exact Nat.le_refl _
        | succ y =>
          rw [List.take_succ_cons,frsL_cons,List.length_append] at hl
          omega
    · obtain ⟨j,t,h1,h2,h3,h4⟩:=torn_cut l (fun z hz=>h z (List.mem_cons_of_mem _ hz)) (k - (frL x).length) (by omega)
      refine ⟨j+1,t,by rw [List.length_cons];omega,?_,h3,fun y hy hl=>?_⟩
      · rw [frsL_cons,List.take_append,List.take_of_length_le (by omega),h2,List.take_succ_cons,frsL_cons,List.append_assoc]
      · cases y with
        | zero=>exact Nat.zero_le _
        | succ y =>
          rw [List.take_succ_cons,frsL_cons,List.length_append] at hl
          have:=h4 y (by rw [List.length_cons] at hy;omega) (by omega)
          omega
/-- A file behind all others. -/
theorem Lg.more (h:Lg D a P R [] R.length) (hq:a+P.length+1≤200) {D':DskV} {R':List Bs} {t':Bs} {y':Nat} (hf:D'.fs=putF (lastF (a+P.length+1) R' t' y') D.fs) (hR:Oks R') (hy:y'≤R'.length) (ht:Tor t')
    (hr:D'.room+(frsL R').length+t'.length=D.room):Lg D' a (P++[R]) R' t' y':=by
  have h1:putF (lastF (a+P.length+1) R' t' y') D.fs=whs a (P++[R])++[lastF (a+(P++[R]).length) R' t' y']:=by
    rw [put_end (f:=lastF (a+P.length+1) R' t' y') h.all_lt,h.fs,lastF_whole, ← whs_snoc,List.length_append,List.length_singleton,Nat.add_assoc]
  have h3:=h.sum
  have h2:=h.tot
  refine ⟨hf.trans h1,?_,hR,?_,hy,ht,?_⟩
  · rw [List.flatten_append,List.flatten_singleton]
    intro x hx
    rcases List.mem_append.1 hx with q | q
    · exact h.ok x q
    · exact h.okR x q
  · rw [List.length_append,List.length_singleton]
    exact ⟨h.num.1,by omega⟩
  · rw [hf,h1,tot_app,tot_whs,tot_cons,List.flatten_append,List.flatten_singleton,frsL_app,List.length_append]
    show D'.room+(_+_+((frsL R'++t').length+0))=_
    rw [List.length_append]
    simp at h2
    omega
/-- A first file. -/
theorem Lg0.more (h:Lg0 D) {D':DskV} {n:Nat} (hn:1≤n∧n≤200) {R':List Bs} {t':Bs} {y':Nat} (hf:D'.fs=putF (lastF n R' t' y') D.fs) (hR:Oks R') (hy:y'≤R'.length) (ht:Tor t')
    (hr:D'.room+(frsL R').length+t'.length=D.room):Lg D' n [] R' t' y':=by
  rw [h.fs] at hf
  have h3:=h.room
  refine ⟨hf,fun x hx=>(by cases hx),hR,hn,hy,ht,?_⟩
  rw [hf]
  show D'.room+totF [_]=_
  rw [tot_cons]
  show D'.room+((frsL R'++t').length+0)=_
  rw [List.length_append]
  omega
/-- A new segment is written. -/
theorem lg_new (h:Lg D a P R [] R.length) (hq:a+P.length+1≤200) (hd:D.dead=false) {rs:List Bs} (hr:Oks rs) (hroom:(frsL rs).length≤D.room) :
    (∃ D',appD D (sname (a+P.length+1)) (frsL rs)=(D',0)∧Lg D' a (P++[R]) rs [] 0∧D'.dead=false∧(D.fuse=none→D'.fuse=none)) ∨
    (∃ D' j t,appD D (sname (a+P.length+1)) (frsL rs)=(D',9)∧j≤rs.length∧Lg D' a (P++[R]) (rs.take j) t 0∧D'.dead=true∧D'.fuse=none∧D.fuse≠none):=by
  have hnone:=none_of_lt h.all_lt
  have hl:=sname_len (n:=a+P.length+1) (by omega) (by omega)
  have hfl:=h.flen
  rcases app_cases hd (nm:=sname (a+P.length+1)) (s:=frsL rs) (by omega) hroom (fun _=>by omega) with ⟨o,h1,h2⟩ | ⟨k,h0,h1,h2⟩
  · refine .inl ⟨_,h1,?_,hd,h2⟩
    refine h.more hq (R':=rs) (t':=[]) (y':=0) ?_ hr (Nat.zero_le _) tor_nil (by show D.room - (frsL rs).length+_+0=_;omega)
    rw [hnone]
    show putF ⟨sname (a+P.length+1),[]++frsL rs,0⟩ D.fs=_
    unfold lastF
    rw [List.nil_append,List.append_nil]
    rfl
  · obtain ⟨j,t,j1,j2,j3,_⟩:=torn_cut rs hr k (by omega)
    have hlen:=congrArg List.length j2
    rw [List.length_take,List.length_append] at hlen
    refine .inr ⟨_,j,t,h2,j1,?_,rfl,rfl,by rw [h0];simp⟩
    refine h.more hq (R':=rs.take j) (t':=t) (y':=0) ?_ (oks_take hr j) (Nat.zero_le _) j3 (by show D.room - ((frsL rs).take k).length+_+_=_;rw [List.length_take];omega)
    rw [hnone]
    show putF ⟨sname (a+P.length+1),[]++(frsL rs).take k,0⟩ D.fs=_
    unfold lastF
    rw [List.nil_append,j2]
    rfl
theorem lg0_new (h:Lg0 D) (hd:D.dead=false) {rs:List Bs} (hr:Oks rs) (hroom:(frsL rs).length≤D.room) :
    (∃ D',appD D (sname 1) (frsL rs)=(D',0)∧Lg D' 1 [] rs [] 0∧D'.dead=false∧(D.fuse=none→D'.fuse=none)) ∨
    (∃ D' j t,appD D (sname 1) (frsL rs)=(D',9)∧j≤rs.length∧Lg D' 1 [] (rs.take j) t 0∧D'.dead=true∧D'.fuse=none∧D.fuse≠none):=by
  have hnone:findF (sname 1) D.fs=none:=by rw [h.fs];rfl
  have hl:=sname_len (n:=1) (by omega) (by omega)
  rcases app_cases hd (nm:=sname 1) (s:=frsL rs) (by omega) hroom (fun _=>by rw [h.fs];decide) with ⟨o,h1,h2⟩ | ⟨k,h0,h1,h2⟩
  · refine .inl ⟨_,h1,?_,hd,h2⟩
    refine h.more (n:=1) (by decide) (R':=rs) (t':=[]) (y':=0) ?_ hr (Nat.zero_le _) tor_nil (by show D.room - (frsL rs).length+_+0=_;omega)
    rw [hnone]
    show putF ⟨sname 1,[]++frsL rs,0⟩ D.fs=_
    unfold lastF
    rw [List.nil_append,List.append_nil]
    rfl
  · obtain ⟨j,t,j1,j2,j3,_⟩:=torn_cut rs hr k (by omega)
    have hlen:=congrArg List.length j2
    rw [List.length_take,List.length_append] at hlen
    refine .inr ⟨_,j,t,h2,j1,?_,rfl,rfl,by rw [h0];simp⟩
    refine h.more (n:=1) (by decide) (R':=rs.take j) (t':=t) (y':=0) ?_ (oks_take hr j) (Nat.zero_le _) j3 (by show D.room - ((frsL rs).take k).length+_+_=_;rw [List.length_take];omega)
    rw [hnone]
    show putF ⟨sname 1,[]++(frsL rs).take k,0⟩ D.fs=_
    unfold lastF
    rw [List.nil_append,j2]
    rfl
end
end Go.Proofs.YticjodhkmidljaaGreatDoor
