/- Keep: Save. Condition: the keep lies there; the disk has room. -/
import Derived.Test.YticjodhkmidljaaGreatDoorZKeepNil26
import Derived.Test.YticjodhkmidljaaGreatDoorZKeepNil19
namespace Go.Proofs.YticjodhkmidljaaGreatDoor
open Go.RowKit Go.Shelf
theorem infoSt:(Tryz.prog.info? 9).map (fun i=>(i.zero,i.size,i.bytes))=some (some (.string ByteArray.empty),1,16):=by kernel_rfl
section
variable {N p bb k g S l n B : Nat} {Q : List Nat} {D D1 : DskV} {b b1 : Nat × Bs} {V : KepV} {w w' : World} {kk : Nat}
theorem kp_save (h:KpI N p bb k S l g n Q D b V w) (slot:Nat) (x:ByteArray) (hs64:slot<18446744073709551616) (hb64:b.1<18446744073709551616) (hx:x.size≤1000000) (he:saveB D b slot x.data.toList=(D1,b1,kk)) :
    Calls Tryz.prog 31 #[.pointer (some ⟨S,0,none⟩),.int .u64 (slot:Int),.string x] w fun e w'=>e=.returned (.int .i64 (kk:Int))∧KpI N p bb k S l g n Q D1 b1 V w'∧Hd N Q w w':=by
  refine (lw_save h.lw.sz h.lw.pv h.lw.lw h.sto h.ne.1 (fun x hx=>by simp only [List.mem_cons,List.not_mem_nil,or_false] at hx;simp [hx]) slot x hs64 hb64 hx he).mono ?_
  rintro e w' ⟨rfl,h2,h3,hh⟩
  exact ⟨rfl,⟨h.lw.of h2 hh.bel,h3,h.kep.stay (hh.keep k (by simp)) (hh.keep g (by simp)),h.off⟩,hh.less (fun x hx=>by simp [hx])⟩
theorem kp_renew (h:KpI N p bb k S l g n Q D b V w) (hs:SegOk D) (rs:List Bs) (hrs:Oks rs) (hF:(frsL rs).length≤3000000) (v:Value) (hst:StrS w v rs) (hrem:(lnewD D rs).2=0→RemOk (lnewD D rs).1 (nmsL D)) :
    Calls Tryz.prog 35 #[.pointer (some ⟨l,0,none⟩),v] w fun e w'=>e=.returned (.int .i64 ((lrenD D rs).2:Int))∧KpI N p bb k S l g n Q (lrenD D rs).1 b V w'∧Hd N Q w w':=by
  refine (lw_renew (l:=l) (by simp) h.lw.sz h.lw.pv hs.1 hs.2 rs hrs hF v hst hrem h.lw.lw).mono ?_
  rintro e w' ⟨rfl,h2,hh⟩
  exact ⟨rfl,h.disk (h.lw.of h2 hh.bel) hh,hh.less (fun x hx=>by simp [hx])⟩
theorem KpI.struck (h:KpI N p bb k S l g n Q D b V w) {slot:Nat} (hm:MpAt Tryz.prog 22 w' g n (mpV (fun s=>if slot<s then V.vs s else none))) (hg:w.grownBy w' (some g)):KpI N p bb k S l g n Q D b (V.drop slot) w'∧Hd N Q w w' :=
  h.turn (k:=k) ⟨hg.os,hg.tape,hg.output,hg.size,fun q hq _ hqg=>hg.block q hq (fun e=>hqg (Option.some.inj e))⟩ ⟨(hg.block k h.kep.lt (fun e=>h.kep.ne (Option.some.inj e))).trans h.kep.row,hm⟩
end
theorem vot_size (v:VotV):(Tryz.prog.info? 26).map (·.size)=some (votK v).length:=vo_size _ _
theorem vots_at {w:World} {base c:Nat} {a:Option Addr} {L:List VotV} (hm:L.length≤maxLen) (h:w.ownsRow base 26 4 (.slice a L.length c) L.length (flat votK L)):∀ i v,L[i]?=some v→∃ gk,a=some ⟨gk,0,none⟩∧gk<w.heap.size∧base≤gk∧w.rangeAt gk (i*4) (votK v):=by
  intro i v hv
  have hs:=own_slice (fun x=>vot_len x) h rfl hm
  obtain ⟨q,o,h1,h2,h3⟩:=hs.cells i v hv
  rcases h.2 with ⟨e,h0⟩ | ⟨g,cap,cur,e,hb,_⟩
  · have:=(List.getElem?_eq_some_iff.1 hv).1
    omega
  · have e2:a=some ⟨g,0,none⟩:=by
      simp only [Value.slice.injEq] at e
      exact e.1
    rw [e2] at h1
    injection h1 with h1
    injection h1 with h1 h4
    subst h1
    subst h4
    refine ⟨_,e2,h2,hb,fun j u hu=>?_⟩
    have:=h3 j u hu
    rwa [Nat.zero_add] at this
theorem st_new (w:World) (x:Bs):SliceAt 1 (fun x:Bs=>[encStr x]) (w.alloc (.cells #[encStr x] 9)) (some ⟨w.heap.size,0,none⟩) 1 [x]:=by
  refine ⟨rfl,by decide,fun i y hy=>?_⟩
  cases i with
  | zero =>
    simp at hy
    subst hy
    refine ⟨w.heap.size,0,rfl,by simp,fun j u hj=>?_⟩
    have h:=range_row (heap_alloc_new w (.cells [encStr x].toArray 9)) j u hj
    rw [Nat.zero_mul,Nat.zero_add]
    exact h
  | succ i=>simp at hy
theorem flat_encS (l:List Bs):flat (fun x:Bs=>[encStr x]) l=encS l:=by
  unfold flat encS
  induction l with
  | nil=>rfl
  | cons x r ih=>simp [ih]
theorem save_bad {N p bb k S l g n:Nat} {Q:List Nat} {D:DskV} {b:Nat × Bs} {V:KepV} {w:World} (h:KpI N p bb k S l g n Q D b V w) (hz:b.1=0→b.2=[]) (slot:Nat) (x:ByteArray) (hbad:slot≤b.1∨4611686018427387904<slot) :
    Calls Tryz.prog 12 #[.pointer (some ⟨k,0,none⟩),.int .u64 (slot:Int),.string x] w fun e w'=>e=.returned (.int .i64 2)∧KpI N p bb k S l g n Q D b V w'∧Hd N Q w w':=by
  obtain ⟨P,hP⟩:∃ P,V.pr=P:=⟨_,rfl⟩
  have hb1:=(Below.refl w.heap.size w).alloc (Nat.le_refl _) (.cells #[.int .u64 (slot:Int)] 22)
  have HK:=Lib.hid (And.intro (h.mark hb1 (B:=w.heap.size) ⟨Nat.le_refl _,by simp⟩) (heap_alloc_new w (.cells #[.int .u64 (slot:Int)] 22)))
  have HH:=Lib.hid (And.intro hb1 (And.intro (h.hd hb1) h))
  have HB:=Lib.hid (fun (y:World) (hy:Below w.heap.size w y)=>kbase_any (h.kep.below hy) (show StoAt y S p b from (hy.block S (sto_lt h.sto)).trans h.sto) hz)
  obtain ⟨bs,bt⟩:=b
  clear hb1 h hz hP
  by_cases h1:slot≤bs
  · have h1':(slot:Int)≤(bs:Int):=by omega
    clear h1 hbad
    go_enter Tryz.func12,Tryz.ntmps12
    go_upto_region 1 with fail
    change Code.wp _ _ _ _ (w.alloc (.cells #[.int .u64 (slot:Int)] 22))
    generalize w.alloc (.cells #[.int .u64 (slot:Int)] 22)=w1 at *
    go_wp2_with ((with_reducible refine (HB.out _ HH.out.1).mono ?_);rintro e w2 ⟨rfl,hb2⟩;have HB2:=Lib.hid hb2;have c0:w2.cell? ⟨w.heap.size,0,none⟩=some (.int .u64 (slot:Int)):=cell_of_row _ _ _ _ _ _ ((hb2.block _ (Array.getElem?_eq_some_iff.1 HK.out.2).1).trans HK.out.2);clear hb2)
    go_ret
    have hbz:=HH.out.1.trans (HB2.out.mono HH.out.1.size)
    exact ⟨rfl,HH.out.2.2.below hbz,HH.out.2.2.hd hbz⟩
  · have h1' : ¬ (slot:Int)≤(bs:Int):=by omega
    have h2:(4611686018427387904:Int)<(slot:Int):=by
      rcases hbad with q | q
      · exact (h1 q).elim
      · omega
    clear h1 hbad
    go_enter Tryz.func12,Tryz.ntmps12
    go_upto_region 1 with fail
    change Code.wp _ _ _ _ (w.alloc (.cells #[.int .u64 (slot:Int)] 22))
    generalize w.alloc (.cells #[.int .u64 (slot:Int)] 22)=w1 at *
    go_wp2_with ((with_reducible refine (HB.out _ HH.out.1).mono ?_);rintro e w2 ⟨rfl,hb2⟩;have HB2:=Lib.hid hb2;have c0:w2.cell? ⟨w.heap.size,0,none⟩=some (.int .u64 (slot:Int)):=cell_of_row _ _ _ _ _ _ ((hb2.block _ (Array.getElem?_eq_some_iff.1 HK.out.2).1).trans HK.out.2);clear hb2)
    go_ret
    have hbz:=HH.out.1.trans (HB2.out.mono HH.out.1.size)
    exact ⟨rfl,HH.out.2.2.below hbz,HH.out.2.2.hd hbz⟩
set_option maxRecDepth 100000 in
set_option maxHeartbeats 8000000 in
theorem save_torn {N p bb k S l g n:Nat} {Q:List Nat} {D:DskV} {b:Nat × Bs} {V:KepV} {w:World} (h:KpI N p bb k S l g n Q D b V w) (hz:b.1=0→b.2=[]) (slot:Nat) (x:ByteArray) (hx:x.size≤1000000) (hb64:b.1<18446744073709551616) (hlo:b.1<slot) (hhi:slot≤4611686018427387904) {D1:DskV} {b1:Nat × Bs} {kk:Nat} (he:saveB D b slot x.data.toList=(D1,b1,kk)) (hk0:kk≠0) :
    Calls Tryz.prog 12 #[.pointer (some ⟨k,0,none⟩),.int .u64 (slot:Int),.string x] w fun e w'=>e=.returned (.int .i64 (kk:Int))∧KpI N p bb k S l g n Q D1 b1 V w'∧Hd N Q w w':=by
  obtain ⟨P,hP⟩:∃ P,V.pr=P:=⟨_,rfl⟩
  have hb1:=(Below.refl w.heap.size w).alloc (Nat.le_refl _) (.cells #[.int .u64 (slot:Int)] 22)
  have HK:=Lib.hid (And.intro (h.mark hb1 (B:=w.heap.size) ⟨Nat.le_refl _,by simp⟩) (heap_alloc_new w (.cells #[.int .u64 (slot:Int)] 22)))
  have HH:=Lib.hid (And.intro hb1 (And.intro (h.hd hb1) h))
  have HB:=Lib.hid (fun (y:World) (hy:Below w.heap.size w y)=>kbase_any (h.kep.below hy) (show StoAt y S p b from (hy.block S (sto_lt h.sto)).trans h.sto) hz)
  obtain ⟨bs,bt⟩:=b
  have h1' : ¬ (slot:Int)≤(bs:Int):=by simp only at hlo;omega
  have h2' : ¬ (4611686018427387904:Int)<(slot:Int):=by omega
  have HSV:=Lib.hid (fun (y:World) (hy:KpI N p bb k S l g n (w.heap.size::Q) D (bs,bt) V y)=>kp_save hy slot x (by omega) hb64 hx he)
  have hk':((kk:Int) == 0)=false:=by rw [beq_eq_false_iff_ne];omega
  clear hb1 h hz hP hlo hhi he hk0 hx hb64
  go_enter Tryz.func12,Tryz.ntmps12
  go_upto_region 1 with fail
  change Code.wp _ _ _ _ (w.alloc (.cells #[.int .u64 (slot:Int)] 22))
  generalize w.alloc (.cells #[.int .u64 (slot:Int)] 22)=w1 at *
  go_upto_region 6 with ((with_reducible refine (HB.out _ HH.out.1).mono ?_);rintro e w2 ⟨rfl,hb2⟩;have HB2:=Lib.hid hb2;have c0:w2.cell? ⟨w.heap.size,0,none⟩=some (.int .u64 (slot:Int)):=cell_of_row _ _ _ _ _ _ ((hb2.block _ (Array.getElem?_eq_some_iff.1 HK.out.2).1).trans HK.out.2);clear hb2)
  have HK2:=Lib.hid (And.intro (HK.out.1.below HB2.out) ((HB2.out.block _ (Array.getElem?_eq_some_iff.1 HK.out.2).1).trans HK.out.2))
  have HH2:=Lib.hid (HH.out.2.1.trans ((HK.out.1.less (Q':=Q) (fun x hx=>by simp [hx])).hd HB2.out))
  clear c0
  refine (wpIn_wide (n:=1)).1 ?_
  refine RegK.wpIn_region_can (F:=Fence.wide) (KeptW w2) [(0,0),(1,0),(2,0),(3,0),(4,0),(5,0),(6,3),(7,0)] (by kernel_rfl) (by kernel_rfl) (by kernel_rfl) (fun _ _ d _ _ h=>by cases d <;> exact h) ⟨rfl,rfl,rfl,Nat.le_refl _,fun _ _=>rfl⟩ ?_
  dsimp only [RegK.pick,List.getElem?_cons_zero,List.getElem?_cons_succ]
  change RegK.Can _ _ _ _ _ _ _ _ w2.drew
  have hkd:KeptW w2 w2.drew:=⟨rfl,rfl,rfl,Nat.le_refl _,fun _ _=>rfl⟩
  generalize w2.drew=v1 at *
  iterate 3 (refine RegK.can_reads ?_;intro K hK;go_simp;(first | refine ⟨_,fun _ _=>rfl,hK _ ?_⟩ | refine hK _ ?_);clear hK K)
  refine RegK.can_reads ?_
  intro K hK
  go_simp
  refine ⟨.pointer (some ⟨S,0,none⟩),fun y hy=>?_,hK _ ?_⟩
  · have c1:=(HK2.out.1.kep.below (KeptW.bel hy)).cells.1
    go_simp
  clear hK K
  refine RegK.can_reads ?_
  intro K hK
  go_simp
  refine ⟨.int .u64 (slot:Int),fun y hy=>?_,hK _ ?_⟩
  · have c1:y.cell? ⟨w.heap.size,0,none⟩=some (.int .u64 (slot:Int)):=cell_of_row _ _ _ _ _ _ (((KeptW.bel hy).block _ (Array.getElem?_eq_some_iff.1 HK2.out.2).1).trans HK2.out.2)
    go_simp
  clear hK K
  refine RegK.can_reads ?_;intro K hK;go_simp;(first | refine ⟨_,fun _ _=>rfl,hK _ ?_⟩ | refine hK _ ?_);clear hK K
  refine RegK.can_frees (fun _=>trivial) ?_
  intro K K0 hK hK0
  go_simp
  refine ⟨trivial,?_⟩
  refine (callsIn_wide.2 (HSV.out v1 (HK2.out.1.below (KeptW.bel hkd)))).mono ?_
  rintro e v3 ⟨rfl,h3,hh3⟩
  refine hK (fun _=>True) _ _ trivial ?_
  clear hK K hK0 K0
  have HA:=Lib.hid (And.intro h3 (And.intro (show v3.heap[w.heap.size]?=_ from (hh3.keep w.heap.size (by simp)).trans (((KeptW.bel hkd).block _ (Array.getElem?_eq_some_iff.1 HK2.out.2).1).trans HK2.out.2)) (((HK2.out.1.less (Q':=Q) (fun x hx=>by simp [hx])).hd (KeptW.bel hkd)).trans (hh3.less (K':=Q) (fun x hx=>by simp [hx])))))
  clear h3 hh3
  refine RegK.can_reads ?_;intro K hK;go_simp;(first | refine ⟨_,fun _ _=>rfl,hK _ ?_⟩ | refine hK _ ?_);clear hK K
  refine RegK.can_nil ?_
  go_wp2_with fail
  go_ret
  exact ⟨rfl,HA.out.1.less (fun x hx=>by simp [hx]),HH2.out.trans HA.out.2.2⟩
def recs0 (P:BalV):List Bs:=if P=bal0 then [] else [recB (.pro P)]
theorem recs_all (V:KepV) (L:List VotV):(renK V L).map recB=recs0 V.pr++L.map (fun v=>recB (.vot v)):=by
  unfold renK recs0
  rw [List.map_append,List.map_map]
  congr 1
  split <;> rfl
/-- Save, as the records are told anew. -/
structure SvI (w4:World) (a:Option Addr) (wv:World) (R:List Bs) (v:Value) (wr:World):Prop where
  bel:Below w4.heap.size w4 wr
  row:wr.ownsRow w4.heap.size 9 1 v R.length (encS R)
  vot:∀ gk,a=some ⟨gk,0,none⟩→gk<wv.heap.size→wr.heap[gk]?=wv.heap[gk]?
  siz:wv.heap.size≤wr.heap.size
set_option maxRecDepth 100000 in
set_option maxHeartbeats 16000000 in
theorem save_good {N p bb k S l g n:Nat} {Q:List Nat} {D:DskV} {b:Nat × Bs} {V:KepV} {w:World} (h:KpI N p bb k S l g n Q D b V w) (hz:b.1=0→b.2=[]) (slot:Nat) (x:ByteArray) (hx:x.size≤1000000) (hb64:b.1<18446744073709551616) (hlo:b.1<slot) (hhi:slot≤4611686018427387904) {D1:DskV} {b1:Nat × Bs} (he:saveB D b slot x.data.toList=(D1,b1,0)) (hn:n≤10000)
    (hfit:∀ s r,V.vs s=some r→RecFit (.vot ⟨s,r.1,r.2⟩)) (hpf:RecFit (.pro V.pr))
    (hL:∀ L,VotsOf (V.drop slot) L→L.length≤n→SegOk D1∧Oks ((renK (V.drop slot) L).map recB)∧(frsL ((renK (V.drop slot) L).map recB)).length≤3000000∧((lnewD D1 ((renK (V.drop slot) L).map recB)).2=0→RemOk (lnewD D1 ((renK (V.drop slot) L).map recB)).1 (nmsL D1))) :
    Calls Tryz.prog 12 #[.pointer (some ⟨k,0,none⟩),.int .u64 (slot:Int),.string x] w fun e w'=>∃ L,VotsOf (V.drop slot) L∧L.length≤n∧e=.returned (.int .i64 ((lrenD D1 ((renK (V.drop slot) L).map recB)).2:Int))∧KpI N p bb k S l g n Q (lrenD D1 ((renK (V.drop slot) L).map recB)).1 b1 (V.drop slot) w'∧Hd N Q w w':=by
  obtain ⟨P,hP⟩:∃ P,V.pr=P:=⟨_,rfl⟩
  have hb1:=(Below.refl w.heap.size w).alloc (Nat.le_refl _) (.cells #[.int .u64 (slot:Int)] 22)
  have HK:=Lib.hid (And.intro (h.mark hb1 (B:=w.heap.size) ⟨Nat.le_refl _,by simp⟩) (heap_alloc_new w (.cells #[.int .u64 (slot:Int)] 22)))
  have HH:=Lib.hid (And.intro hb1 (And.intro (h.hd hb1) h))
  have HB:=Lib.hid (fun (y:World) (hy:Below w.heap.size w y)=>kbase_any (h.kep.below hy) (show StoAt y S p b from (hy.block S (sto_lt h.sto)).trans h.sto) hz)
  obtain ⟨bs,bt⟩:=b
  have h1' : ¬ (slot:Int)≤(bs:Int):=by simp only at hlo;omega
  have h2' : ¬ (4611686018427387904:Int)<(slot:Int):=by omega
  have HSV:=Lib.hid (fun (y:World) (hy:KpI N p bb k S l g n (w.heap.size::Q) D (bs,bt) V y)=>kp_save hy slot x (by omega) hb64 hx he)
  have HL:=Lib.hid hL
  have HF:=Lib.hid (And.intro hfit (And.intro hpf hn))
  have hs64:∀ s r,(V.drop slot).vs s=some r→s<18446744073709551616:=fun s r hr=>by
    have hr2:(if slot<s then V.vs s else none)=some r:=hr
    split at hr2
    · exact (hfit s r hr2).slot
    · cases hr2
  have HS64:=Lib.hid hs64
  have HPE:=Lib.hid hP
  obtain ⟨pn,prr⟩:=P
  obtain ⟨i0,hi0,hz0,hs0,hb0⟩:=info_parts infoSt
  have Hi0:=Lib.hid (And.intro hi0 (And.intro hz0 (And.intro hs0 hb0)))
  clear hb1 h hz hP hlo hhi he hx hb64 hL hfit hpf hs64 hi0 hz0 hs0 hb0
  go_enter Tryz.func12,Tryz.ntmps12
  go_upto_region 1 with fail
  change Code.wp _ _ _ _ (w.alloc (.cells #[.int .u64 (slot:Int)] 22))
  generalize w.alloc (.cells #[.int .u64 (slot:Int)] 22)=w1 at *
  go_upto_region 6 with ((with_reducible refine (HB.out _ HH.out.1).mono ?_);rintro e w2 ⟨rfl,hb2⟩;have HB2:=Lib.hid hb2;have c0:w2.cell? ⟨w.heap.size,0,none⟩=some (.int .u64 (slot:Int)):=cell_of_row _ _ _ _ _ _ ((hb2.block _ (Array.getElem?_eq_some_iff.1 HK.out.2).1).trans HK.out.2);clear hb2)
  have HK2:=Lib.hid (And.intro (HK.out.1.below HB2.out) ((HB2.out.block _ (Array.getElem?_eq_some_iff.1 HK.out.2).1).trans HK.out.2))
  have HH2:=Lib.hid (HH.out.2.1.trans ((HK.out.1.less (Q':=Q) (fun x hx=>by simp [hx])).hd HB2.out))
  clear c0
  refine (wpIn_wide (n:=1)).1 ?_
  refine RegK.wpIn_region_can (F:=Fence.wide) (KeptW w2) [(0,0),(1,0),(2,0),(3,0),(4,0),(5,0),(6,3),(7,0)] (by kernel_rfl) (by kernel_rfl) (by kernel_rfl) (fun _ _ d _ _ h=>by cases d <;> exact h) ⟨rfl,rfl,rfl,Nat.le_refl _,fun _ _=>rfl⟩ ?_
  dsimp only [RegK.pick,List.getElem?_cons_zero,List.getElem?_cons_succ]
  change RegK.Can _ _ _ _ _ _ _ _ w2.drew
  have hkd:KeptW w2 w2.drew:=⟨rfl,rfl,rfl,Nat.le_refl _,fun _ _=>rfl⟩
  generalize w2.drew=v1 at *
  iterate 3 (refine RegK.can_reads ?_;intro K hK;go_simp;(first | refine ⟨_,fun _ _=>rfl,hK _ ?_⟩ | refine hK _ ?_);clear hK K)
  refine RegK.can_reads ?_
  intro K hK
  go_simp
  refine ⟨.pointer (some ⟨S,0,none⟩),fun y hy=>?_,hK _ ?_⟩
  · have c1:=(HK2.out.1.kep.below (KeptW.bel hy)).cells.1
    go_simp
  clear hK K
  refine RegK.can_reads ?_
  intro K hK
  go_simp
  refine ⟨.int .u64 (slot:Int),fun y hy=>?_,hK _ ?_⟩
  · have c1:y.cell? ⟨w.heap.size,0,none⟩=some (.int .u64 (slot:Int)):=cell_of_row _ _ _ _ _ _ (((KeptW.bel hy).block _ (Array.getElem?_eq_some_iff.1 HK2.out.2).1).trans HK2.out.2)
    go_simp
  clear hK K
  refine RegK.can_reads ?_;intro K hK;go_simp;(first | refine ⟨_,fun _ _=>rfl,hK _ ?_⟩ | refine hK _ ?_);clear hK K
  refine RegK.can_frees (fun _=>trivial) ?_
  intro K K0 hK hK0
  go_simp
  refine ⟨trivial,?_⟩
  refine (callsIn_wide.2 (HSV.out v1 (HK2.out.1.below (KeptW.bel hkd)))).mono ?_
  rintro e v3 ⟨rfl,h3,hh3⟩
  refine hK (fun _=>True) _ _ trivial ?_
  clear hK K hK0 K0
  have HA:=Lib.hid (And.intro h3 (And.intro (show v3.heap[w.heap.size]?=_ from (hh3.keep w.heap.size (by simp)).trans (((KeptW.bel hkd).block _ (Array.getElem?_eq_some_iff.1 HK2.out.2).1).trans HK2.out.2)) (((HK2.out.1.less (Q':=Q) (fun x hx=>by simp [hx])).hd (KeptW.bel hkd)).trans (hh3.less (K':=Q) (fun x hx=>by simp [hx])))))
  clear h3 hh3
  refine RegK.can_reads ?_;intro K hK;go_simp;(first | refine ⟨_,fun _ _=>rfl,hK _ ?_⟩ | refine hK _ ?_);clear hK K
  refine RegK.can_nil ?_
  obtain ⟨z0,z1,z2,z3,c4⟩:=HA.out.1.kep.cells
  clear z0 z1 z2 z3
  have HDF:=Lib.hid (deleteFunc_any HA.out.1.kep.mp (slot:=slot) (c:=w.heap.size) (cell_of_row _ _ _ _ _ _ HA.out.2.1) (fun e=>HA.out.1.off.2.2.1 (by simp [e])))
  go_upto_region 11 with ((with_reducible refine HDF.out.mono ?_);rintro e w4 ⟨rfl,hm4,hg4⟩;have HA4:=Lib.hid (HA.out.1.struck hm4 hg4);clear hm4 hg4)
  have HKZ:=Lib.hid (HA4.out.1.less (Q':=Q) (fun x hx=>by simp [hx]))
  have HHZ:=Lib.hid ((HH2.out.trans HA.out.2.2).trans (HA4.out.2.less (K':=Q) (fun x hx=>by simp [hx])))
  have hrg:w4.rangeAt k 2 (balC ⟨pn,prr⟩):=by
    have:=HKZ.out.kep.pr
    rwa [show (V.drop slot).pr=⟨pn,prr⟩ from HPE.out] at this
  have HR:=Lib.hid hrg
  have HPC:=Lib.hid (show w4.cell? ⟨k,2,none⟩=some (.int .u64 (pn:Int))∧w4.cell? ⟨k,3,none⟩=some (.int .u8 (prr:Int)) from ⟨hrg 0 _ rfl,hrg 1 _ rfl⟩)
  clear HA4 HA HDF c4 HK2 HH2 HSV HB HK hrg
  by_cases hp0:(⟨pn,prr⟩:BalV)=bal0
  · have HQ:=Lib.hid (show (decide ((⟨pn,prr⟩:BalV)=bal0) == false)=false by rw [decide_eq_true hp0];rfl)
    have HQ0:=Lib.hid (show Below w4.heap.size w4 w4∧w4.ownsRow w4.heap.size 9 1 (.slice none 0 0) (recs0 ⟨pn,prr⟩).length (encS (recs0 ⟨pn,prr⟩)) from by
      rw [show recs0 ⟨pn,prr⟩=[] from if_pos hp0]
      exact ⟨Below.refl _ _,World.ownsRow_nil _ _ _ _⟩)
    obtain ⟨c2,c3⟩:=HPC.out
    clear hp0
    go_upto_region 13 with ((with_reducible refine wpList_eql_bal false _ _ rfl ⟨pn,prr⟩ bal0 rfl rfl _ HQ.out ?_ ?_);exact (Eq.refl true))
    clear c2 c3
    have HVt:=Lib.hid (fun (y:World) (hy:Below w4.heap.size w4 y)=>(show Calls Tryz.prog 14 #[.pointer (some ⟨k,0,none⟩),.int .u64 0] y _ from votes_any 0 (by have:=HF.out.2.2;omega) HS64.out (HKZ.out.below hy).kep))
    go_upto_region 14 with ((with_reducible refine (HVt.out _ HQ0.out.1).mono ?_);rintro e wv ⟨A,c,L,rfl,hv1,hv2,hv3,hv4⟩;have HV:=Lib.hid (And.intro hv1 (And.intro hv2 (And.intro hv3 hv4)));clear hv1 hv2 hv3 hv4)
    have HVA:=Lib.hid (vots_at (by have:=HV.out.2.1;have:=HF.out.2.2;unfold maxLen;omega) HV.out.2.2.2)
    have HLL:=Lib.hid (show L.length≤10000 by have:=HV.out.2.1;have:=HF.out.2.2;omega)
    have HAL:=Lib.hid (HL.out L HV.out.1.all HV.out.2.1)
    have HFV:=Lib.hid (fun v (hv:v ∈ L)=>(show RecFit (.vot v) from by
      have h1:=((HV.out.1.mem v).1 hv).1
      have h2:(if slot<v.slot then V.vs v.slot else none)=some (v.b,v.v):=h1
      split at h2
      · exact HF.out.1 _ _ h2
      · cases h2))
    have HS0:=Lib.hid (show SvI w4 A wv (recs0 ⟨pn,prr⟩++(L.take 0).map (fun v=>recB (.vot v))) (.slice none 0 0) wv from ⟨HQ0.out.1.trans (HV.out.2.2.1.mono HQ0.out.1.size),by rw [List.take_zero,List.map_nil,List.append_nil];exact own_stay HQ0.out.2 (fun q _ _ hl=>HV.out.2.2.1.block q hl),fun _ _ _=>rfl,Nat.le_refl _⟩)
    generalize hLn:L.length=m
    have HLN:=Lib.hid hLn
    clear hLn
    have bL:(m:Int)<1152921504606846976:=by have:=HLL.out;have:=HLN.out;omega
    go_loopw [10,62] (fun s10 s62 wr=>∃ i:Nat,s62=.int .i64 (i:Int)∧i≤m∧SvI w4 A wv (recs0 ⟨pn,prr⟩++(L.take i).map (fun v=>recB (.vot v))) s10 wr) (fun _ s62 _=>m - (intOf s62).toNat)
    case atStart=>exact ⟨0,rfl,Nat.zero_le _,HS0.out⟩
    case round =>
      obtain ⟨i,rfl,hi,hsv⟩:=hrel
      have HSV:=Lib.hid hsv
      have hrl:(recs0 ⟨pn,prr⟩++(L.take i).map (fun v=>recB (.vot v))).length≤20000:=by
        rw [List.length_append,List.length_map,List.length_take]
        have h1:(recs0 ⟨pn,prr⟩).length≤1:=by unfold recs0;split <;> simp
        have:=HLL.out
        omega
      obtain ⟨R,hR⟩:∃ R,recs0 ⟨pn,prr⟩++(L.take i).map (fun v=>recB (.vot v))=R:=⟨_,rfl⟩
      rw [hR] at HSV hrl
      have HRE:=Lib.hid hR
      have HRL:=Lib.hid hrl
      clear hsv hR hrl
      by_cases hiL:i<m
      · have hiL':(i:Int)<(m:Int):=by omega
        have hin:i<L.length:=by rw [HLN.out];exact hiL
        obtain ⟨v,hv⟩:∃ v,v=L[i]:=⟨_,rfl⟩
        have hvs:L[i]?=some v:=by rw [List.getElem?_eq_getElem hin,hv]
        obtain ⟨gk,rfl,hgk,hgb,hrv⟩:=HVA.out i v hvs
        have hfv:=HFV.out v (List.mem_of_getElem? hvs)
        have hblk:=HSV.out.vot gk rfl hgk
        have hrw:wr.rangeAt gk (i*4) (votK v):=fun j u hu=>(World.cell?_of_block (a:=⟨gk,i*4+j,none⟩) hblk).trans (hrv j u hu)
        have HRW:=Lib.hid hrw
        have htake:L.take (i+1)=L.take i++[v]:=by rw [List.take_add_one,hvs];rfl
        have HTK:=Lib.hid htake
        have hgt:∃ cur,wv.heap[gk]?=some (.cells cur 26 (0,0)):=by
          rcases HV.out.2.2.2.2 with ⟨e,_⟩ | ⟨g5,cap,cur,e,_,hg5,_⟩
          · cases e
          · simp only [Value.slice.injEq,Option.some.injEq,Addr.mk.injEq,and_true] at e
            exact ⟨cur,by rw [e.1];exact hg5⟩
        have HGK:=Lib.hid (And.intro hgk (And.intro hblk hgt))
        obtain ⟨A10,c10,rfl⟩:=own_slice_of HSV.out.row
        clear hin hv hvs hgb hrv hblk hrw htake hgk hgt hi
        go_upto_region 16 with (first
          | (with_reducible refine wpList_load_mid rfl 26 _ rfl gk (i*4) rfl (votK v) _ HRW.out Tryz.underlying26 rfl (vot_size v) ?_)
          | ((with_reducible refine wpList_store_mid rfl 26 _ _ rfl wr.heap.size 0 _ rfl rfl ?_ ?_ ?_ ?_);exact th_new wr (voCells 0 vo0) 26;exact vo_size 0 vo0;exact all_oneCell_toArray (vot_one v)))
        change Code.wp _ _ _ _ ((wr.alloc (.cells (voCells 0 vo0).toArray 26)).setCells wr.heap.size 0 (votK v))
        have hbx:=box_below wr (voCells 0 vo0) (votK v) 26
        have hrx:=box_row wr (voCells 0 vo0) (votK v) 26 rfl
        have HBX:=Lib.hid hbx
        have HO5:=Lib.hid (own_stay HSV.out.row (fun q _ _ hl=>hbx.block q hl))
        generalize (wr.alloc (.cells (voCells 0 vo0).toArray 26)).setCells wr.heap.size 0 (votK v)=w5 at *
        obtain ⟨vsl,⟨vn,vr⟩,vvv⟩:=v
        obtain ⟨vx,hvx⟩:∃ vx:ByteArray,vx=⟨vvv.toArray⟩:=⟨_,rfl⟩
        have hrx2:w5.heap[wr.heap.size]?=some (.cells #[.int .u64 (vsl:Int),.int .u64 (vn:Int),.int .u8 (vr:Int),.string vx] 26 (0,0)):=by rw [hvx];exact hrx
        have d0:w5.cell? ⟨wr.heap.size,0,none⟩=some (.int .u64 (vsl:Int)):=cell_of_row _ _ _ _ _ _ hrx2
        have d1:w5.cell? ⟨wr.heap.size,1,none⟩=some (.int .u64 (vn:Int)):=cell_of_row _ _ _ _ _ _ hrx2
        have d2:w5.cell? ⟨wr.heap.size,2,none⟩=some (.int .u8 (vr:Int)):=cell_of_row _ _ _ _ _ _ hrx2
        have d3:w5.cell? ⟨wr.heap.size,3,none⟩=some (.string vx):=cell_of_row _ _ _ _ _ _ hrx2
        obtain ⟨rec,hrec⟩:∃ rec,recB (.vot ⟨vsl,⟨vn,vr⟩,vvv⟩)=rec:=⟨_,rfl⟩
        have HREC:=Lib.hid hrec
        have HBy:=Lib.hid (show Calls Tryz.prog 34 #[.agg #[.int .u8 2,.int .u64 (vsl:Int),.int .u64 (vn:Int),.int .u8 (vr:Int),.string vx]] w5 fun e w'=>e=.returned (.string ⟨rec.toArray⟩)∧Below w5.heap.size w5 w' from by rw [hvx, ← hrec];exact bytes_any (.vot ⟨vsl,⟨vn,vr⟩,vvv⟩) hfv w5)
        clear hbx hrx hvx hrx2 hrec hfv
        go_wp2_with (first
          | ((with_reducible refine HBy.out.mono ?_);rintro e w8 ⟨rfl,hb8⟩;have HB8:=Lib.hid hb8;have HO8:=Lib.hid (own_stay HO5.out (fun q _ _ hl=>hb8.block q hl));clear hb8)
          | (at_builtin;refine wpList_plain rfl (fun K hK=>?_);refine wp_append_slice (k:=1) (enc:=fun x:Bs=>[encStr x]) _ _ 60 rfl w4.heap.size 9 i0 _ 16 Tryz.underlying60 Hi0.out.1 Hi0.out.2.1 Hi0.out.2.2.1 Hi0.out.2.2.2 rfl (by omega) (fun _=>rfl) (fun x u hu=>by simp at hu;subst hu;rfl) (.slice A10 R.length c10) R.length _ rfl (HO8.out.alloc _) _ 1 1 [rec] rfl (st_new _ _) (fun e=>by cases e) (by have:=HRL.out;unfold maxLen;omega) (by have:=HRL.out;omega) (by have h1:=HSV.out.bel.size;have h2:=HBX.out.size;have h3:=HB8.out.size;rw [World.size_alloc];omega) ?_;intro v7 w7 ho7 hg7;have H7:=Lib.hid (And.intro ho7 hg7);clear ho7 hg7;refine hK _ _ ?_))
        have hsz8:w4.heap.size≤w8.heap.size:=Nat.le_trans HSV.out.bel.size (Nat.le_trans HBX.out.size HB8.out.size)
        have hb8:Below w4.heap.size w4 w8:=(HSV.out.bel.trans (HBX.out.mono HSV.out.bel.size)).trans (HB8.out.mono (Nat.le_trans HSV.out.bel.size HBX.out.size))
        have hown:∀ q,(Value.slice A10 R.length c10).ownBlock=some q→w4.heap.size≤q∧∃ cur,(w8.alloc (.cells #[encStr rec] 9)).heap[q]?=some (.cells cur 9 (0,0)):=fun q hq=>by
          rcases (HO8.out.alloc (.cells #[encStr rec] 9)).2 with ⟨e,_⟩ | ⟨g5,cap,cur,e,h5,hg5,_⟩
          · rw [e] at hq
            cases hq
          · rw [e] at hq
            cases hq
            exact ⟨h5,cur,hg5⟩
        have hb7:Below w4.heap.size w4 w7:=(hb8.alloc hsz8 (.cells #[encStr rec] 9)).grown H7.out.2 (by simp;omega) (fun q hq=>(hown q hq).1)
        have hnew:recs0 ⟨pn,prr⟩++(L.take (i+1)).map (fun v=>recB (.vot v))=R++[rec]:=by
          rw [HTK.out,List.map_append, ← List.append_assoc,HRE.out]
          congr 1
          exact congrArg (fun z=>[z]) HREC.out
        have h7:=H7.out.1
        rw [flat_encS] at h7
        have hgk7:w7.heap[gk]?=wv.heap[gk]?:=by
          have hlt8:gk<w8.heap.size:=Nat.lt_of_lt_of_le HGK.out.1 (Nat.le_trans HSV.out.siz (Nat.le_trans HBX.out.size HB8.out.size))
          have e8:(w8.alloc (.cells #[encStr rec] 9)).heap[gk]?=wv.heap[gk]?:=by
            rw [Below.heap_alloc _ _ _ hlt8,HB8.out.block gk (Nat.lt_of_lt_of_le HGK.out.1 (Nat.le_trans HSV.out.siz HBX.out.size)),HBX.out.block gk (Nat.lt_of_lt_of_le HGK.out.1 HSV.out.siz)]
            exact HGK.out.2.1
          refine (H7.out.2.block gk (by simp;omega) (fun e=>?_)).trans e8
          obtain ⟨cur,hc⟩:=(hown gk e.symm).2
          obtain ⟨cur2,hc2⟩:=HGK.out.2.2
          rw [e8,hc2] at hc
          injection hc with hc
          injection hc with _ hc
          exact absurd hc (by decide)
        refine ⟨⟨i+1,rfl,by omega,?_⟩,by simp only [intOf];omega⟩
        rw [hnew]
        refine ⟨hb7,?_,fun q hq hql=>?_,Nat.le_trans HSV.out.siz (Nat.le_trans HBX.out.size (Nat.le_trans HB8.out.size (Nat.le_trans (by simp) H7.out.2.size)))⟩
        · rw [List.length_append,show encS (R++[rec])=encS R++encS [rec] from List.map_append ..]
          exact h7
        · injection hq with hq
          injection hq with hq
          subst hq
          exact hgk7
      · have hiL' : ¬ (i:Int)<(m:Int):=by omega
        obtain rfl:i=m:=by omega
        have hall:R=(renK (V.drop slot) L).map recB:=by
          rw [recs_all, ← HRE.out,List.take_of_length_le (by rw [HLN.out];exact Nat.le_refl _),show (V.drop slot).pr=⟨pn,prr⟩ from HPE.out]
        have hks:=HKZ.out.below HSV.out.bel
        obtain ⟨z0,c1,z2,z3,z4⟩:=hks.kep.cells
        have hrow:=strS_own HSV.out.row
        rw [hall] at hrow
        have HRN:=Lib.hid (kp_renew hks HAL.out.1 _ HAL.out.2.1 HAL.out.2.2.1 _ hrow HAL.out.2.2.2)
        have HBR:=Lib.hid (HKZ.out.hd HSV.out.bel)
        clear z0 z2 z3 z4 hks hrow hall hi hiL bL
        obtain ⟨RR,hRR⟩:∃ RR,lrenD D1 ((renK (V.drop slot) L).map recB)=RR:=⟨_,rfl⟩
        rw [hRR] at HRN
        have HRR:=Lib.hid hRR
        clear hRR
        obtain ⟨A10,c10,rfl⟩:=own_slice_of HSV.out.row
        go_wp2_with ((with_reducible refine HRN.out.mono ?_);rintro e w9 ⟨rfl,h9,hh9⟩;have H9:=Lib.hid (And.intro h9 hh9);clear h9 hh9)
        go_ret
        exact ⟨L,HV.out.1.all,HV.out.2.1,by rw [HRR.out];rfl,by rw [HRR.out];exact H9.out.1,(HHZ.out.trans HBR.out).trans H9.out.2⟩
  · have HQ:=Lib.hid (show (decide ((⟨pn,prr⟩:BalV)=bal0) == false)=true by rw [decide_eq_false hp0];rfl)
    obtain ⟨rec,hrec⟩:∃ rec,recB (.pro ⟨pn,prr⟩)=rec:=⟨_,rfl⟩
    have HREC:=Lib.hid (show recs0 ⟨pn,prr⟩=[rec] from by rw [← hrec];exact if_neg hp0)
    have HBy:=Lib.hid (show Calls Tryz.prog 34 #[.agg #[.int .u8 1,.int .u64 0,.int .u64 (pn:Int),.int .u8 (prr:Int),.string ⟨#[]⟩]] w4 fun e w'=>e=.returned (.string ⟨rec.toArray⟩)∧Below w4.heap.size w4 w' from by rw [← hrec];exact bytes_any (.pro ⟨pn,prr⟩) (by have:=HF.out.2.1;rwa [HPE.out] at this) w4)
    obtain ⟨c2,c3⟩:=HPC.out
    clear hp0 hrec
    go_upto_region 13 with (first
      | ((with_reducible refine wpList_eql_bal false _ _ rfl ⟨pn,prr⟩ bal0 rfl rfl _ HQ.out ?_ ?_);exact (Eq.refl true))
      | ((with_reducible refine HBy.out.mono ?_);rintro e w8 ⟨rfl,hb8⟩;have HB8:=Lib.hid hb8;clear hb8)
      | (at_builtin;refine wpList_plain rfl (fun K hK=>?_);refine wp_append_slice (k:=1) (enc:=fun x:Bs=>[encStr x]) _ _ 60 rfl w4.heap.size 9 i0 _ 16 Tryz.underlying60 Hi0.out.1 Hi0.out.2.1 Hi0.out.2.2.1 Hi0.out.2.2.2 rfl (by omega) (fun _=>rfl) (fun x u hu=>by simp at hu;subst hu;rfl) (.slice none 0 0) 0 _ rfl (World.ownsRow_nil _ _ _ _) _ 1 1 [rec] rfl (st_new _ _) (fun e=>by cases e) (by simp [maxLen]) (by omega) (by have:=HB8.out.size;simp;omega) ?_;intro v7 w7 ho7 hg7;have H70:=Lib.hid (And.intro ho7 hg7);clear ho7 hg7;refine hK _ _ ?_))
    have hq1:Below w4.heap.size w4 w7:=(HB8.out.alloc HB8.out.size (.cells #[encStr rec] 9)).grown H70.out.2 (by have:=HB8.out.size;simp;omega) (fun q hq=>by cases hq)
    have hq2:=H70.out.1
    rw [flat_encS] at hq2
    have HQ0:=Lib.hid (show Below w4.heap.size w4 w7∧w7.ownsRow w4.heap.size 9 1 v7 (recs0 ⟨pn,prr⟩).length (encS (recs0 ⟨pn,prr⟩)) from by
      rw [HREC.out]
      exact ⟨hq1,hq2⟩)
    clear hq1 hq2 HREC HBy HB8 H70 c2 c3
    obtain ⟨A0,c0,hv7⟩:=own_slice_of HQ0.out.2
    rw [hv7] at HQ0 ⊢
    obtain ⟨w6,hw6⟩:∃ w6,w6=w7:=⟨_,rfl⟩
    rw [← hw6] at HQ0 ⊢
    clear hv7 hw6
    have HVt:=Lib.hid (fun (y:World) (hy:Below w4.heap.size w4 y)=>(show Calls Tryz.prog 14 #[.pointer (some ⟨k,0,none⟩),.int .u64 0] y _ from votes_any 0 (by have:=HF.out.2.2;omega) HS64.out (HKZ.out.below hy).kep))
    go_upto_region 14 with ((with_reducible refine (HVt.out _ HQ0.out.1).mono ?_);rintro e wv ⟨A,c,L,rfl,hv1,hv2,hv3,hv4⟩;have HV:=Lib.hid (And.intro hv1 (And.intro hv2 (And.intro hv3 hv4)));clear hv1 hv2 hv3 hv4)
    have HVA:=Lib.hid (vots_at (by have:=HV.out.2.1;have:=HF.out.2.2;unfold maxLen;omega) HV.out.2.2.2)
    have HLL:=Lib.hid (show L.length≤10000 by have:=HV.out.2.1;have:=HF.out.2.2;omega)
    have HAL:=Lib.hid (HL.out L HV.out.1.all HV.out.2.1)
    have HFV:=Lib.hid (fun v (hv:v ∈ L)=>(show RecFit (.vot v) from by
      have h1:=((HV.out.1.mem v).1 hv).1
      have h2:(if slot<v.slot then V.vs v.slot else none)=some (v.b,v.v):=h1
      split at h2
      · exact HF.out.1 _ _ h2
      · cases h2))
    have HS0:=Lib.hid (show SvI w4 A wv (recs0 ⟨pn,prr⟩++(L.take 0).map (fun v=>recB (.vot v))) (.slice A0 (recs0 ⟨pn,prr⟩).length c0) wv from ⟨HQ0.out.1.trans (HV.out.2.2.1.mono HQ0.out.1.size),by rw [List.take_zero,List.map_nil,List.append_nil];exact own_stay HQ0.out.2 (fun q _ _ hl=>HV.out.2.2.1.block q hl),fun _ _ _=>rfl,Nat.le_refl _⟩)
    generalize hLn:L.length=m
    have HLN:=Lib.hid hLn
    clear hLn
    have bL:(m:Int)<1152921504606846976:=by have:=HLL.out;have:=HLN.out;omega
    go_loopw [10,62] (fun s10 s62 wr=>∃ i:Nat,s62=.int .i64 (i:Int)∧i≤m∧SvI w4 A wv (recs0 ⟨pn,prr⟩++(L.take i).map (fun v=>recB (.vot v))) s10 wr) (fun _ s62 _=>m - (intOf s62).toNat)
    case atStart=>exact ⟨0,rfl,Nat.zero_le _,HS0.out⟩
    case round =>
      obtain ⟨i,rfl,hi,hsv⟩:=hrel
      have HSV:=Lib.hid hsv
      have hrl:(recs0 ⟨pn,prr⟩++(L.take i).map (fun v=>recB (.vot v))).length≤20000:=by
        rw [List.length_append,List.length_map,List.length_take]
        have h1:(recs0 ⟨pn,prr⟩).length≤1:=by unfold recs0;split <;> simp
        have:=HLL.out
        omega
      obtain ⟨R,hR⟩:∃ R,recs0 ⟨pn,prr⟩++(L.take i).map (fun v=>recB (.vot v))=R:=⟨_,rfl⟩
      rw [hR] at HSV hrl
      have HRE:=Lib.hid hR
      have HRL:=Lib.hid hrl
      clear hsv hR hrl
      by_cases hiL:i<m
      · have hiL':(i:Int)<(m:Int):=by omega
        have hin:i<L.length:=by rw [HLN.out];exact hiL
        obtain ⟨v,hv⟩:∃ v,v=L[i]:=⟨_,rfl⟩
        have hvs:L[i]?=some v:=by rw [List.getElem?_eq_getElem hin,hv]
        obtain ⟨gk,rfl,hgk,hgb,hrv⟩:=HVA.out i v hvs
        have hfv:=HFV.out v (List.mem_of_getElem? hvs)
        have hblk:=HSV.out.vot gk rfl hgk
        have hrw:wr.rangeAt gk (i*4) (votK v):=fun j u hu=>(World.cell?_of_block (a:=⟨gk,i*4+j,none⟩) hblk).trans (hrv j u hu)
        have HRW:=Lib.hid hrw
        have htake:L.take (i+1)=L.take i++[v]:=by rw [List.take_add_one,hvs];rfl
        have HTK:=Lib.hid htake
        have hgt:∃ cur,wv.heap[gk]?=some (.cells cur 26 (0,0)):=by
          rcases HV.out.2.2.2.2 with ⟨e,_⟩ | ⟨g5,cap,cur,e,_,hg5,_⟩
          · cases e
          · simp only [Value.slice.injEq,Option.some.injEq,Addr.mk.injEq,and_true] at e
            exact ⟨cur,by rw [e.1];exact hg5⟩
        have HGK:=Lib.hid (And.intro hgk (And.intro hblk hgt))
        obtain ⟨A10,c10,rfl⟩:=own_slice_of HSV.out.row
        clear hin hv hvs hgb hrv hblk hrw htake hgk hgt hi
        go_upto_region 16 with (first
          | (with_reducible refine wpList_load_mid rfl 26 _ rfl gk (i*4) rfl (votK v) _ HRW.out Tryz.underlying26 rfl (vot_size v) ?_)
          | ((with_reducible refine wpList_store_mid rfl 26 _ _ rfl wr.heap.size 0 _ rfl rfl ?_ ?_ ?_ ?_);exact th_new wr (voCells 0 vo0) 26;exact vo_size 0 vo0;exact all_oneCell_toArray (vot_one v)))
        change Code.wp _ _ _ _ ((wr.alloc (.cells (voCells 0 vo0).toArray 26)).setCells wr.heap.size 0 (votK v))
        have hbx:=box_below wr (voCells 0 vo0) (votK v) 26
        have hrx:=box_row wr (voCells 0 vo0) (votK v) 26 rfl
        have HBX:=Lib.hid hbx
        have HO5:=Lib.hid (own_stay HSV.out.row (fun q _ _ hl=>hbx.block q hl))
        generalize (wr.alloc (.cells (voCells 0 vo0).toArray 26)).setCells wr.heap.size 0 (votK v)=w5 at *
        obtain ⟨vsl,⟨vn,vr⟩,vvv⟩:=v
        obtain ⟨vx,hvx⟩:∃ vx:ByteArray,vx=⟨vvv.toArray⟩:=⟨_,rfl⟩
        have hrx2:w5.heap[wr.heap.size]?=some (.cells #[.int .u64 (vsl:Int),.int .u64 (vn:Int),.int .u8 (vr:Int),.string vx] 26 (0,0)):=by rw [hvx];exact hrx
        have d0:w5.cell? ⟨wr.heap.size,0,none⟩=some (.int .u64 (vsl:Int)):=cell_of_row _ _ _ _ _ _ hrx2
        have d1:w5.cell? ⟨wr.heap.size,1,none⟩=some (.int .u64 (vn:Int)):=cell_of_row _ _ _ _ _ _ hrx2
        have d2:w5.cell? ⟨wr.heap.size,2,none⟩=some (.int .u8 (vr:Int)):=cell_of_row _ _ _ _ _ _ hrx2
        have d3:w5.cell? ⟨wr.heap.size,3,none⟩=some (.string vx):=cell_of_row _ _ _ _ _ _ hrx2
        obtain ⟨rec,hrec⟩:∃ rec,recB (.vot ⟨vsl,⟨vn,vr⟩,vvv⟩)=rec:=⟨_,rfl⟩
        have HREC:=Lib.hid hrec
        have HBy:=Lib.hid (show Calls Tryz.prog 34 #[.agg #[.int .u8 2,.int .u64 (vsl:Int),.int .u64 (vn:Int),.int .u8 (vr:Int),.string vx]] w5 fun e w'=>e=.returned (.string ⟨rec.toArray⟩)∧Below w5.heap.size w5 w' from by rw [hvx, ← hrec];exact bytes_any (.vot ⟨vsl,⟨vn,vr⟩,vvv⟩) hfv w5)
        clear hbx hrx hvx hrx2 hrec hfv
        go_wp2_with (first
          | ((with_reducible refine HBy.out.mono ?_);rintro e w8 ⟨rfl,hb8⟩;have HB8:=Lib.hid hb8;have HO8:=Lib.hid (own_stay HO5.out (fun q _ _ hl=>hb8.block q hl));clear hb8)
          | (at_builtin;refine wpList_plain rfl (fun K hK=>?_);refine wp_append_slice (k:=1) (enc:=fun x:Bs=>[encStr x]) _ _ 60 rfl w4.heap.size 9 i0 _ 16 Tryz.underlying60 Hi0.out.1 Hi0.out.2.1 Hi0.out.2.2.1 Hi0.out.2.2.2 rfl (by omega) (fun _=>rfl) (fun x u hu=>by simp at hu;subst hu;rfl) (.slice A10 R.length c10) R.length _ rfl (HO8.out.alloc _) _ 1 1 [rec] rfl (st_new _ _) (fun e=>by cases e) (by have:=HRL.out;unfold maxLen;omega) (by have:=HRL.out;omega) (by have h1:=HSV.out.bel.size;have h2:=HBX.out.size;have h3:=HB8.out.size;rw [World.size_alloc];omega) ?_;intro v7 w7 ho7 hg7;have H7:=Lib.hid (And.intro ho7 hg7);clear ho7 hg7;refine hK _ _ ?_))
        have hsz8:w4.heap.size≤w8.heap.size:=Nat.le_trans HSV.out.bel.size (Nat.le_trans HBX.out.size HB8.out.size)
        have hb8:Below w4.heap.size w4 w8:=(HSV.out.bel.trans (HBX.out.mono HSV.out.bel.size)).trans (HB8.out.mono (Nat.le_trans HSV.out.bel.size HBX.out.size))
        have hown:∀ q,(Value.slice A10 R.length c10).ownBlock=some q→w4.heap.size≤q∧∃ cur,(w8.alloc (.cells #[encStr rec] 9)).heap[q]?=some (.cells cur 9 (0,0)):=fun q hq=>by
          rcases (HO8.out.alloc (.cells #[encStr rec] 9)).2 with ⟨e,_⟩ | ⟨g5,cap,cur,e,h5,hg5,_⟩
          · rw [e] at hq
            cases hq
          · rw [e] at hq
            cases hq
            exact ⟨h5,cur,hg5⟩
        have hb7:Below w4.heap.size w4 w7:=(hb8.alloc hsz8 (.cells #[encStr rec] 9)).grown H7.out.2 (by simp;omega) (fun q hq=>(hown q hq).1)
        have hnew:recs0 ⟨pn,prr⟩++(L.take (i+1)).map (fun v=>recB (.vot v))=R++[rec]:=by
          rw [HTK.out,List.map_append, ← List.append_assoc,HRE.out]
          congr 1
          exact congrArg (fun z=>[z]) HREC.out
        have h7:=H7.out.1
        rw [flat_encS] at h7
        have hgk7:w7.heap[gk]?=wv.heap[gk]?:=by
          have hlt8:gk<w8.heap.size:=Nat.lt_of_lt_of_le HGK.out.1 (Nat.le_trans HSV.out.siz (Nat.le_trans HBX.out.size HB8.out.size))
          have e8:(w8.alloc (.cells #[encStr rec] 9)).heap[gk]?=wv.heap[gk]?:=by
            rw [Below.heap_alloc _ _ _ hlt8,HB8.out.block gk (Nat.lt_of_lt_of_le HGK.out.1 (Nat.le_trans HSV.out.siz HBX.out.size)),HBX.out.block gk (Nat.lt_of_lt_of_le HGK.out.1 HSV.out.siz)]
            exact HGK.out.2.1
          refine (H7.out.2.block gk (by simp;omega) (fun e=>?_)).trans e8
          obtain ⟨cur,hc⟩:=(hown gk e.symm).2
          obtain ⟨cur2,hc2⟩:=HGK.out.2.2
          rw [e8,hc2] at hc
          injection hc with hc
          injection hc with _ hc
          exact absurd hc (by decide)
        refine ⟨⟨i+1,rfl,by omega,?_⟩,by simp only [intOf];omega⟩
        rw [hnew]
        refine ⟨hb7,?_,fun q hq hql=>?_,Nat.le_trans HSV.out.siz (Nat.le_trans HBX.out.size (Nat.le_trans HB8.out.size (Nat.le_trans (by simp) H7.out.2.size)))⟩
        · rw [List.length_append,show encS (R++[rec])=encS R++encS [rec] from List.map_append ..]
          exact h7
        · injection hq with hq
          injection hq with hq
          subst hq
          exact hgk7
      · have hiL' : ¬ (i:Int)<(m:Int):=by omega
        obtain rfl:i=m:=by omega
        have hall:R=(renK (V.drop slot) L).map recB:=by
          rw [recs_all, ← HRE.out,List.take_of_length_le (by rw [HLN.out];exact Nat.le_refl _),show (V.drop slot).pr=⟨pn,prr⟩ from HPE.out]
        have hks:=HKZ.out.below HSV.out.bel
        obtain ⟨z0,c1,z2,z3,z4⟩:=hks.kep.cells
        have hrow:=strS_own HSV.out.row
        rw [hall] at hrow
        have HRN:=Lib.hid (kp_renew hks HAL.out.1 _ HAL.out.2.1 HAL.out.2.2.1 _ hrow HAL.out.2.2.2)
        have HBR:=Lib.hid (HKZ.out.hd HSV.out.bel)
        clear z0 z2 z3 z4 hks hrow hall hi hiL bL
        obtain ⟨RR,hRR⟩:∃ RR,lrenD D1 ((renK (V.drop slot) L).map recB)=RR:=⟨_,rfl⟩
        rw [hRR] at HRN
        have HRR:=Lib.hid hRR
        clear hRR
        obtain ⟨A10,c10,rfl⟩:=own_slice_of HSV.out.row
        go_wp2_with ((with_reducible refine HRN.out.mono ?_);rintro e w9 ⟨rfl,h9,hh9⟩;have H9:=Lib.hid (And.intro h9 hh9);clear h9 hh9)
        go_ret
        exact ⟨L,HV.out.1.all,HV.out.2.1,by rw [HRR.out];rfl,by rw [HRR.out];exact H9.out.1,(HHZ.out.trans HBR.out).trans H9.out.2⟩
end Go.Proofs.YticjodhkmidljaaGreatDoor
namespace Go.Proofs.YticjodhkmidljaaGreatDoor
/-- What reading takes of a ballot's bytes. -/
theorem rd_bal {b:BalV} (hn:b.n<18446744073709551616) (r:Bs):(RdV.mk 0 (balB b++r)).num=(b.n,⟨0,UInt8.ofNat b.r::r⟩)∧(RdV.mk 0 (UInt8.ofNat b.r::r)).byte=(UInt8.ofNat b.r,⟨0,r⟩):=by
  refine ⟨?_,byte_app _ _⟩
  unfold balB
  rw [List.append_assoc]
  exact num_app hn _
theorem rd_pro (b:BalV):(RdV.mk 0 (recB (.pro b))).byte=(1,⟨0,balB b++[]⟩):=by
  show (RdV.mk 0 (1::balB b)).byte=_
  rw [byte_app,List.append_nil]
theorem rd_vot (v:VotV):(RdV.mk 0 (recB (.vot v))).byte=(2,⟨0,numL v.slot++(balB v.b++(numL v.v.length++v.v))⟩):=byte_app _ _
theorem rd_slot {v:VotV} (hs:v.slot≤4611686018427387904) (r:Bs):(RdV.mk 0 (numL v.slot++r)).num=(v.slot,⟨0,r⟩):=num_app (by omega) r
theorem rd_val {v:VotV} (h:v.v.length≤65536):(RdV.mk 0 (numL v.v.length++v.v)).str 65536=(v.v,⟨0,[]⟩):=by
  have h2:=str_app' (t:=v.v) (most:=65536) h (by decide) []
  rw [List.append_nil] at h2
  exact h2
theorem bal_r {b:BalV} (h:b.r<7):(UInt8.ofNat b.r).toNat=b.r:=by
  simp
  omega
end Go.Proofs.YticjodhkmidljaaGreatDoor
