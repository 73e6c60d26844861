/- Keep: add. Condition: the keep lies there; the record's numbers fit. -/
import Derived.Test.YticjodhkmidljaaGreatDoorZKeepNil21
namespace Go.Proofs.YticjodhkmidljaaGreatDoor
open Go.RowKit Go.Shelf
theorem rec_size (x:RecK):(Tryz.prog.info? 67).map (·.size)=some (recC x).length:=(by kernel_rfl:(Tryz.prog.info? 67).map (·.size)=some 5)
theorem tk_any {w:World} {k S l g n p:Nat} {V:KepV} {b:Nat × Bs} (h:KepAt w k S l g n V) (hs:StoAt w S p b) (hz:b.1=0→b.2=[]) (x:RecK) (hx:RecFit x) (hn:n<100000) :
    Calls Tryz.prog 26 #[.pointer (some ⟨k,0,none⟩),.agg (recC x).toArray] w fun e w'=>e=.returned (.tuple #[])∧KepAt w' k S l g (n+1) (V.take b.1 x)∧ButTwo k g w w':=by
  cases x with
  | pro q=>exact take_pro h q
  | vot v=>exact take_vot h hs hz v hx.slot hn
section
variable {N p bb k g S l n B : Nat} {Q K K' ls : List Nat} {D D' : DskV} {b b' : Nat × Bs} {V : KepV} {w w' : World}
theorem Lw.sub (h:Lw N p bb K ls D w) (hk:∀ g ∈ K',g ∈ K) (hl:∀ l ∈ ls,l ∈ K'):Lw N p bb K' ls D w:=by
  obtain ⟨n,C,L,h1,h2,h3,h4⟩:=h
  exact ⟨n,C,L,h1,h2,fun x hx=>h3 x (hk x hx),fun x hx=>⟨hl x hx,(h4 x hx).2⟩⟩
theorem KpI.lt (h:KpI N p bb k S l g n Q D b V w):S<w.heap.size∧k<w.heap.size∧g<w.heap.size∧l<w.heap.size∧∀ x ∈ Q,N≤x∧x<w.heap.size:=by
  obtain ⟨m,C,L,h1,h2,h3,h4⟩:=h.lw.lw
  exact ⟨(h3 S (by simp)).2.1,(h3 k (by simp)).2.1,(h3 g (by simp)).2.1,(h3 l (by simp)).2.1,fun x hx=>⟨(h3 x (by simp [hx])).1,(h3 x (by simp [hx])).2.1⟩⟩
theorem Lw.marks (h:Lw N p bb K ls D w) (hN:N≤w.heap.size) (hb:Below w.heap.size w w') (hB:w.heap.size≤B∧B<w'.heap.size):Lw N p bb (B::K) ls D w':=by
  obtain ⟨n,C,L,h1,h2,h3,h4⟩:=h
  refine ⟨n,C,L,h1.keep (fun g hg=>hb.block g (h2 g hg).2),fun q hq=>⟨(h2 q hq).1,Nat.lt_of_lt_of_le (h2 q hq).2 hb.size⟩,fun q hq=>?_,fun l hl=>⟨List.mem_cons_of_mem _ (h4 l hl).1,(hb.block l (h3 l (h4 l hl).1).2.1).trans (h4 l hl).2⟩⟩
  rcases List.mem_cons.1 hq with rfl | hq
  · exact ⟨by omega,hB.2,fun z=>by have:=(h2 _ z).2;omega⟩
  · exact ⟨(h3 q hq).1,Nat.lt_of_lt_of_le (h3 q hq).2.1 hb.size,(h3 q hq).2.2⟩
/-- A new block is kept, too. -/
theorem KpI.mark (h:KpI N p bb k S l g n Q D b V w) (hb:Below w.heap.size w w') (hB:w.heap.size≤B∧B<w'.heap.size):KpI N p bb k S l g n (B::Q) D b V w':=by
  have h2:=h.below hb
  obtain ⟨q1,q2,q3,q4,_⟩:=h.lt
  have hm:=h.lw.lw.marks h.lw.sz hb hB
  refine ⟨⟨hm.sub (fun x hx=>?_) (fun x hx=>?_),h2.lw.pv,h2.lw.sz⟩,h2.sto,h2.kep,?_,?_,?_,?_⟩
  · simp only [List.mem_cons] at hx ⊢
    rcases hx with hx | hx | hx | hx | hx | hx <;> simp [hx]
  · simp only [List.mem_cons,List.not_mem_nil,or_false] at hx
    simp [hx]
  all_goals
    intro q
    rcases List.mem_cons.1 q with q | q
    · omega
  · exact h.off.1 q
  · exact h.off.2.1 q
  · exact h.off.2.2.1 q
  · exact h.off.2.2.2 q
theorem KpI.less {Q':List Nat} (h:KpI N p bb k S l g n Q D b V w) (hq:∀ x ∈ Q',x ∈ Q):KpI N p bb k S l g n Q' D b V w:=by
  refine ⟨⟨h.lw.lw.sub (fun x hx=>?_) (fun x hx=>?_),h.lw.pv,h.lw.sz⟩,h.sto,h.kep,fun q=>h.off.1 (hq _ q),fun q=>h.off.2.1 (hq _ q),fun q=>h.off.2.2.1 (hq _ q),fun q=>h.off.2.2.2 (hq _ q)⟩
  · simp only [List.mem_cons] at hx ⊢
    rcases hx with hx | hx | hx | hx | hx
    · simp [hx]
    · simp [hx]
    · simp [hx]
    · simp [hx]
    · simp [hq x hx]
  · simp only [List.mem_cons,List.not_mem_nil,or_false] at hx
    simp [hx]
theorem kp_add (h:KpI N p bb k S l g n Q D b V w) (hs:SegOk D) (r:ByteArray) (hr:r.size≤1000000) :
    Calls Tryz.prog 61 #[.pointer (some ⟨l,0,none⟩),.string r] w fun e w'=>e=.returned (.int .i64 ((laddD D r.data.toList).2:Int))∧KpI N p bb k S l g n Q (laddD D r.data.toList).1 b V w'∧Hd N Q w w':=by
  refine (lw_add (l:=l) (by simp) h.lw.sz h.lw.pv hs.1 hs.2 r hr h.lw.lw).mono ?_
  rintro e w' ⟨rfl,h2,hh⟩
  exact ⟨rfl,h.disk (h.lw.of h2 hh.bel) hh,hh.less (fun x hx=>by simp [hx])⟩
end
set_option maxRecDepth 100000 in
set_option maxHeartbeats 8000000 in
theorem add_any {N p bb k g S l n:Nat} {Q:List Nat} {D:DskV} {b:Nat × Bs} {V:KepV} {w:World} (h:KpI N p bb k S l g n Q D b V w) (hs:SegOk D) (hz:b.1=0→b.2=[]) (x:RecK) (hx:RecFit x) (hn:n<100000) :
    Calls Tryz.prog 29 #[.pointer (some ⟨k,0,none⟩),.agg (recC x).toArray] w fun e w'=>e=.returned (.int .i64 ((addW b.1 D V x).2.2:Int))∧KpI N p bb k S l g (n+1) Q (addW b.1 D V x).1 b (addW b.1 D V x).2.1 w'∧Hd N Q w w':=by
  have hb1:=(Below.refl w.heap.size w).alloc (Nat.le_refl _) (.cells (recC x).toArray 67)
  have HK:=Lib.hid (And.intro (h.mark hb1 (B:=w.heap.size) ⟨Nat.le_refl _,by simp⟩) (heap_alloc_new w (.cells (recC x).toArray 67)))
  have HH:=Lib.hid (And.intro hb1 (h.hd hb1))
  have HBy:=Lib.hid (fun y:World=>bytes_any x hx y)
  have hsz:(⟨(recB x).toArray⟩:ByteArray).size≤1000000:=by
    have h1:=recB_len x
    have h2:=hx.v
    show (recB x).toArray.size≤_
    rw [List.size_toArray]
    cases x with
    | pro q=>simp only at h1;omega
    | vot v=>have h3:v.v.length≤100000:=h2;simp only at h1;omega
  obtain ⟨D1,kk,hD⟩:∃ D1 kk,laddD D (recB x)=(D1,kk):=⟨_,_,rfl⟩
  have HAd:=Lib.hid (fun (y:World) (hy:KpI N p bb k S l g n (w.heap.size::Q) D b V y)=>(show Calls Tryz.prog 61 #[.pointer (some ⟨l,0,none⟩),.string ⟨(recB x).toArray⟩] y fun e y'=>e=.returned (.int .i64 (kk:Int))∧KpI N p bb k S l g n (w.heap.size::Q) D1 b V y'∧Hd N (w.heap.size::Q) y y' from by
    have h2:=kp_add hy hs ⟨(recB x).toArray⟩ hsz
    rw [show (⟨(recB x).toArray⟩:ByteArray).data.toList=recB x from rfl,hD] at h2
    exact h2))
  have HT:=Lib.hid (fun (y:World) (hy:KpI N p bb k S l g n (w.heap.size::Q) D1 b V y)=>tk_any hy.kep hy.sto hz x hx hn)
  unfold addW
  rw [hD]
  clear hb1 h hs hz hx hn hsz hD
  by_cases hk:kk=0
  · subst hk
    rw [if_pos rfl]
    go_enter Tryz.func29,Tryz.ntmps29
    go_upto_region 1 with fail
    change Code.wp _ _ _ _ (w.alloc (.cells (recC x).toArray 67))
    generalize w.alloc (.cells (recC x).toArray 67)=w1 at *
    refine (wpIn_wide (n:=1)).1 ?_
    refine RegK.wpIn_region_can (F:=Fence.wide) (KeptW w1) [(0,0),(1,0),(2,0),(3,0),(4,0),(5,1),(6,3),(7,0)] (by kernel_rfl) (by kernel_rfl) (by kernel_rfl) (fun _ _ d _ _ h=>by cases d <;> exact h) ⟨rfl,rfl,rfl,Nat.le_refl _,fun _ _=>rfl⟩ ?_
    dsimp only [RegK.pick,List.getElem?_cons_zero,List.getElem?_cons_succ]
    change RegK.Can _ _ _ _ _ _ _ _ w1.drew
    have hkd:KeptW w1 w1.drew:=⟨rfl,rfl,rfl,Nat.le_refl _,fun _ _=>rfl⟩
    generalize w1.drew=v1 at *
    iterate 3 (refine RegK.can_reads ?_;intro K hK;go_simp;(first | refine ⟨_,fun _ _=>rfl,hK _ ?_⟩ | refine hK _ ?_);clear hK K)
    refine RegK.can_reads ?_
    intro K hK
    go_simp
    refine ⟨.pointer (some ⟨l,0,none⟩),fun y hy=>?_,hK _ ?_⟩
    · have c1:=(HK.out.1.kep.below (KeptW.bel hy)).cells.2.1
      go_simp
    clear hK K
    refine RegK.can_reads ?_
    intro K hK
    rw [if_pos (by first | (simp [Region.wanted];done) | (go_simp;done))]
    refine ⟨.agg (recC x).toArray,fun y hy=>exec_load rfl rfl (row_loadAt (P:=Tryz.prog) (cs:=recC x) (((KeptW.bel hy).block _ (Array.getElem?_eq_some_iff.1 HK.out.2).1).trans HK.out.2) Tryz.underlying67 rfl (rec_size x)),hK _ ?_⟩
    clear hK K
    go_simp
    refine RegK.can_turns (fun _=>trivial) ?_
    intro K K0 hK hK0
    go_simp
    refine ⟨trivial,?_⟩
    refine (callsIn_wide.2 (HBy.out v1)).mono ?_
    rintro e v2 ⟨rfl,hb7⟩
    have v2k:KeptW w1 v2:=KeptW.mono hkd hb7
    refine hK _ _ v2k ?_
    clear hK K hK0 K0
    refine RegK.can_frees (fun _=>trivial) ?_
    intro K K0 hK hK0
    go_simp
    refine ⟨trivial,?_⟩
    refine (callsIn_wide.2 (HAd.out v2 (HK.out.1.below (KeptW.bel v2k)))).mono ?_
    rintro e v3 ⟨rfl,h3,hh3⟩
    refine hK (fun _=>True) _ _ trivial ?_
    clear hK K hK0 K0
    have HA:=Lib.hid (And.intro h3 (And.intro (show v3.heap[w.heap.size]?=_ from (hh3.keep w.heap.size (by simp)).trans (((KeptW.bel v2k).block _ (Array.getElem?_eq_some_iff.1 HK.out.2).1).trans HK.out.2)) (((HK.out.1.less (Q':=Q) (fun x hx=>by simp [hx])).hd (KeptW.bel v2k)).trans (hh3.less (K':=Q) (fun x hx=>by simp [hx])))))
    clear h3 hh3
    refine RegK.can_reads ?_;intro K hK;go_simp;(first | refine ⟨_,fun _ _=>rfl,hK _ ?_⟩ | refine hK _ ?_);clear hK K
    refine RegK.can_nil ?_
    have HR:=Lib.hid (range_row (cs:=recC x) HA.out.2.1)
    go_wp2_with (first
      | (with_reducible refine wpList_load_mid rfl 67 _ rfl w.heap.size 0 rfl (recC x) _ HR.out Tryz.underlying67 rfl (rec_size x) ?_)
      | ((with_reducible refine (HT.out _ HA.out.1).mono ?_);rintro e v4 ⟨rfl,h4,h5⟩;have H4:=Lib.hid (And.intro h4 h5);clear h4 h5))
    go_ret
    have h6:=HA.out.1.turn H4.out.2 H4.out.1
    exact ⟨rfl,h6.1.less (fun x hx=>by simp [hx]),HH.out.2.trans (HA.out.2.2.trans (h6.2.less (fun x hx=>by simp [hx])))⟩
  · rw [if_neg hk]
    have hk':((kk:Int) == 0)=false:=by rw [beq_eq_false_iff_ne];omega
    clear hk HT
    go_enter Tryz.func29,Tryz.ntmps29
    go_upto_region 1 with fail
    change Code.wp _ _ _ _ (w.alloc (.cells (recC x).toArray 67))
    generalize w.alloc (.cells (recC x).toArray 67)=w1 at *
    refine (wpIn_wide (n:=1)).1 ?_
    refine RegK.wpIn_region_can (F:=Fence.wide) (KeptW w1) [(0,0),(1,0),(2,0),(3,0),(4,0),(5,1),(6,3),(7,0)] (by kernel_rfl) (by kernel_rfl) (by kernel_rfl) (fun _ _ d _ _ h=>by cases d <;> exact h) ⟨rfl,rfl,rfl,Nat.le_refl _,fun _ _=>rfl⟩ ?_
    dsimp only [RegK.pick,List.getElem?_cons_zero,List.getElem?_cons_succ]
    change RegK.Can _ _ _ _ _ _ _ _ w1.drew
    have hkd:KeptW w1 w1.drew:=⟨rfl,rfl,rfl,Nat.le_refl _,fun _ _=>rfl⟩
    generalize w1.drew=v1 at *
    iterate 3 (refine RegK.can_reads ?_;intro K hK;go_simp;(first | refine ⟨_,fun _ _=>rfl,hK _ ?_⟩ | refine hK _ ?_);clear hK K)
    refine RegK.can_reads ?_
    intro K hK
    go_simp
    refine ⟨.pointer (some ⟨l,0,none⟩),fun y hy=>?_,hK _ ?_⟩
    · have c1:=(HK.out.1.kep.below (KeptW.bel hy)).cells.2.1
      go_simp
    clear hK K
    refine RegK.can_reads ?_
    intro K hK
    rw [if_pos (by first | (simp [Region.wanted];done) | (go_simp;done))]
    refine ⟨.agg (recC x).toArray,fun y hy=>exec_load rfl rfl (row_loadAt (P:=Tryz.prog) (cs:=recC x) (((KeptW.bel hy).block _ (Array.getElem?_eq_some_iff.1 HK.out.2).1).trans HK.out.2) Tryz.underlying67 rfl (rec_size x)),hK _ ?_⟩
    clear hK K
    go_simp
    refine RegK.can_turns (fun _=>trivial) ?_
    intro K K0 hK hK0
    go_simp
    refine ⟨trivial,?_⟩
    refine (callsIn_wide.2 (HBy.out v1)).mono ?_
    rintro e v2 ⟨rfl,hb7⟩
    have v2k:KeptW w1 v2:=KeptW.mono hkd hb7
    refine hK _ _ v2k ?_
    clear hK K hK0 K0
    refine RegK.can_frees (fun _=>trivial) ?_
    intro K K0 hK hK0
    go_simp
    refine ⟨trivial,?_⟩
    refine (callsIn_wide.2 (HAd.out v2 (HK.out.1.below (KeptW.bel v2k)))).mono ?_
    rintro e v3 ⟨rfl,h3,hh3⟩
    refine hK (fun _=>True) _ _ trivial ?_
    clear hK K hK0 K0
    have HA:=Lib.hid (And.intro h3 (And.intro (show v3.heap[w.heap.size]?=_ from (hh3.keep w.heap.size (by simp)).trans (((KeptW.bel v2k).block _ (Array.getElem?_eq_some_iff.1 HK.out.2).1).trans HK.out.2)) (((HK.out.1.less (Q':=Q) (fun x hx=>by simp [hx])).hd (KeptW.bel v2k)).trans (hh3.less (K':=Q) (fun x hx=>by simp [hx])))))
    clear h3 hh3
    refine RegK.can_reads ?_;intro K hK;go_simp;(first | refine ⟨_,fun _ _=>rfl,hK _ ?_⟩ | refine hK _ ?_);clear hK K
    refine RegK.can_nil ?_
    go_wp2_with fail
    go_ret
    exact ⟨rfl,(HA.out.1.less (fun x hx=>by simp [hx])).wide (by omega),HH.out.2.trans HA.out.2.2⟩
end Go.Proofs.YticjodhkmidljaaGreatDoor
namespace Go.Proofs.YticjodhkmidljaaGreatDoor
open Go.RowKit Go.Shelf
theorem KpI.hdb {N p bb k S l g n:Nat} {Q:List Nat} {D:DskV} {b:Nat × Bs} {V:KepV} {w w':World} (h:KpI N p bb k S l g n Q D b V w) (hb:Below w.heap.size w w'):KpI N p bb k S l g (n+1) Q D b V w'∧Hd N Q w w':=⟨(h.below hb).wide (by omega),h.hd hb⟩
set_option maxRecDepth 100000 in
set_option maxHeartbeats 8000000 in
theorem promise_any {N p bb k S l g n:Nat} {Q:List Nat} {D:DskV} {b:Nat × Bs} {V:KepV} {w:World} (h:KpI N p bb k S l g n Q D b V w) (hs:SegOk D) (hz:b.1=0→b.2=[]) (x:BalV) (hxn:x.n<18446744073709551616) (hxr:x.r<256) (hn:n<100000) :
    Calls Tryz.prog 9 #[.pointer (some ⟨k,0,none⟩),.agg (balC x).toArray] w fun e w'=>e=.returned (.int .i64 ((promW b.1 D V x).2.2:Int))∧KpI N p bb k S l g (n+1) Q (promW b.1 D V x).1 b (promW b.1 D V x).2.1 w'∧Hd N Q w w':=by
  obtain ⟨P,hP⟩:∃ P,V.pr=P:=⟨_,rfl⟩
  obtain ⟨pn,prr⟩:=P
  obtain ⟨bn,br⟩:=x
  show Calls _ _ #[.pointer (some ⟨k,0,none⟩),.agg #[.int .u64 (bn:Int),.int .u8 (br:Int)]] w _
  have hb1:=(Below.refl w.heap.size w).alloc (Nat.le_refl _) (.cells #[.int .u64 (bn:Int),.int .u8 (br:Int)] 24)
  have hr1:=heap_alloc_new w (.cells #[.int .u64 (bn:Int),.int .u8 (br:Int)] 24)
  have HK:=Lib.hid (h.below hb1)
  have HW:=Lib.hid (And.intro h (And.intro hb1 hr1))
  have HP:=Lib.hid hP
  have HA:=Lib.hid (fun (y:World) (hy:Below w.heap.size w y)=>(show Calls Tryz.prog 29 #[.pointer (some ⟨k,0,none⟩),.agg #[.int .u8 1,.int .u64 0,.int .u64 (bn:Int),.int .u8 (br:Int),.string ⟨#[]⟩]] y _ from add_any (h.below hy) hs hz (.pro ⟨bn,br⟩) ⟨(by decide:(0:Nat)<18446744073709551616),hxn,hxr,Nat.zero_le _⟩ hn))
  have HM:=Lib.hid (fun (y:World) (hy:Below w.heap.size w y)=>(show Calls Tryz.prog 28 #[.pointer (some ⟨k,0,none⟩),.agg #[.int .u64 (bn:Int),.int .u8 (br:Int)]] y _ from may_any (h.kep.below hy) ⟨bn,br⟩ hxn))
  have HC:=Lib.hid (fun (y:World) (hy:Below (w.alloc (.cells #[.int .u64 (bn:Int),.int .u8 (br:Int)] 24)).heap.size (w.alloc (.cells #[.int .u64 (bn:Int),.int .u8 (br:Int)] 24)) y)=>(show y.cell? ⟨w.heap.size,0,none⟩=some (.int .u64 (bn:Int))∧y.cell? ⟨w.heap.size,1,none⟩=some (.int .u8 (br:Int))∧y.cell? ⟨k,2,none⟩=some (.int .u64 (pn:Int))∧y.cell? ⟨k,3,none⟩=some (.int .u8 (prr:Int)) from by
    have k1:=(hy.block _ (Array.getElem?_eq_some_iff.1 HW.out.2.2).1).trans HW.out.2.2
    obtain ⟨d0,d1,d2,d3,d4⟩:=(HK.out.kep.below hy).cells
    rw [HP.out] at d2 d3
    exact ⟨cell_of_row _ _ _ _ _ _ k1,cell_of_row _ _ _ _ _ _ k1,d2,d3⟩))
  unfold promW
  rw [hP]
  clear hb1 hr1 h hs hz hxn hxr hn hP
  by_cases hm:kMay V ⟨bn,br⟩
  · rw [decide_eq_true hm] at HM
    rw [if_neg (fun q=>q hm)]
    by_cases hq:(⟨bn,br⟩:BalV)=⟨pn,prr⟩
    · rw [if_pos hq]
      have HQ:=Lib.hid (show (decide ((⟨bn,br⟩:BalV)=⟨pn,prr⟩) == true)=true by rw [decide_eq_true hq];rfl)
      clear hm hq HA
      go_enter Tryz.func9,Tryz.ntmps9
      go_upto_region 1 with fail
      generalize w.alloc (.cells #[.int .u64 (bn:Int),.int .u8 (br:Int)] 24)=w1 at *
      obtain ⟨c0,c1,c2,c3⟩:=HC.out w1 (Below.refl _ _)
      clear c2 c3
      go_upto_region 5 with ((with_reducible refine (HM.out _ HW.out.2.1).mono ?_);rintro e w2 ⟨rfl,hb2⟩;have HB2:=Lib.hid hb2;clear hb2)
      clear c0 c1
      refine (wpIn_wide (n:=1)).1 ?_
      refine RegK.wpIn_region_can (F:=Fence.wide) (KeptW w2) [(0,0),(1,0),(2,0),(3,0),(4,0),(5,0)] (by kernel_rfl) (by kernel_rfl) (by kernel_rfl) (fun _ _ d _ _ h=>by cases d <;> exact h) ⟨rfl,rfl,rfl,Nat.le_refl _,fun _ _=>rfl⟩ ?_
      dsimp only [RegK.pick,List.getElem?_cons_zero,List.getElem?_cons_succ]
      change RegK.Can _ _ _ _ _ _ _ _ w2.drew
      have hkd:KeptW w2 w2.drew:=⟨rfl,rfl,rfl,Nat.le_refl _,fun _ _=>rfl⟩
      generalize w2.drew=v1 at *
      refine RegK.can_reads ?_
      intro K hK
      go_simp
      refine ⟨.agg #[.int .u64 (bn:Int),.int .u8 (br:Int)],fun y hy=>?_,hK _ ?_⟩
      · obtain ⟨c0,c1,c2,c3⟩:=HC.out y (HB2.out.trans ((KeptW.bel hy).mono HB2.out.size))
        go_simp
      clear hK K
      iterate 3 (refine RegK.can_reads ?_;intro K hK;go_simp;(first | refine ⟨_,fun _ _=>rfl,hK _ ?_⟩ | refine hK _ ?_);clear hK K)
      refine RegK.can_reads ?_
      intro K hK
      go_simp
      refine ⟨.agg #[.int .u64 (pn:Int),.int .u8 (prr:Int)],fun y hy=>?_,hK _ ?_⟩
      · obtain ⟨c0,c1,c2,c3⟩:=HC.out y (HB2.out.trans ((KeptW.bel hy).mono HB2.out.size))
        go_simp
      clear hK K
      refine RegK.can_reads ?_
      intro K hK
      rw [if_pos (by first | (simp [Region.wanted];done) | (go_simp;done))]
      refine ⟨.bool true,fun y hy=>(bal_exec ⟨bn,br⟩ ⟨pn,prr⟩ _ _ true _ _ rfl rfl rfl y).trans (by rw [HQ.out]),hK _ ?_⟩
      clear hK K
      go_simp
      refine RegK.can_nil ?_
      go_wp2_with fail
      go_ret
      have hbz:=HW.out.2.1.trans ((HB2.out.trans ((KeptW.bel hkd).mono HB2.out.size)).mono HW.out.2.1.size)
      exact ⟨rfl,HW.out.1.hdb hbz⟩
    · rw [if_neg hq]
      generalize addW b.1 D V (.pro ⟨bn,br⟩)=R at *
      have HQ:=Lib.hid (show (decide ((⟨bn,br⟩:BalV)=⟨pn,prr⟩) == true)=false by rw [decide_eq_false hq];rfl)
      clear hm hq
      go_enter Tryz.func9,Tryz.ntmps9
      go_upto_region 1 with fail
      generalize w.alloc (.cells #[.int .u64 (bn:Int),.int .u8 (br:Int)] 24)=w1 at *
      obtain ⟨c0,c1,c2,c3⟩:=HC.out w1 (Below.refl _ _)
      clear c2 c3
      go_upto_region 5 with ((with_reducible refine (HM.out _ HW.out.2.1).mono ?_);rintro e w2 ⟨rfl,hb2⟩;have HB2:=Lib.hid hb2;clear hb2)
      clear c0 c1
      refine (wpIn_wide (n:=1)).1 ?_
      refine RegK.wpIn_region_can (F:=Fence.wide) (KeptW w2) [(0,0),(1,0),(2,0),(3,0),(4,0),(5,0)] (by kernel_rfl) (by kernel_rfl) (by kernel_rfl) (fun _ _ d _ _ h=>by cases d <;> exact h) ⟨rfl,rfl,rfl,Nat.le_refl _,fun _ _=>rfl⟩ ?_
      dsimp only [RegK.pick,List.getElem?_cons_zero,List.getElem?_cons_succ]
      change RegK.Can _ _ _ _ _ _ _ _ w2.drew
      have hkd:KeptW w2 w2.drew:=⟨rfl,rfl,rfl,Nat.le_refl _,fun _ _=>rfl⟩
      generalize w2.drew=v1 at *
      refine RegK.can_reads ?_
      intro K hK
      go_simp
      refine ⟨.agg #[.int .u64 (bn:Int),.int .u8 (br:Int)],fun y hy=>?_,hK _ ?_⟩
      · obtain ⟨c0,c1,c2,c3⟩:=HC.out y (HB2.out.trans ((KeptW.bel hy).mono HB2.out.size))
        go_simp
      clear hK K
      iterate 3 (refine RegK.can_reads ?_;intro K hK;go_simp;(first | refine ⟨_,fun _ _=>rfl,hK _ ?_⟩ | refine hK _ ?_);clear hK K)
      refine RegK.can_reads ?_
      intro K hK
      go_simp
      refine ⟨.agg #[.int .u64 (pn:Int),.int .u8 (prr:Int)],fun y hy=>?_,hK _ ?_⟩
      · obtain ⟨c0,c1,c2,c3⟩:=HC.out y (HB2.out.trans ((KeptW.bel hy).mono HB2.out.size))
        go_simp
      clear hK K
      refine RegK.can_reads ?_
      intro K hK
      rw [if_pos (by first | (simp [Region.wanted];done) | (go_simp;done))]
      refine ⟨.bool false,fun y hy=>(bal_exec ⟨bn,br⟩ ⟨pn,prr⟩ _ _ true _ _ rfl rfl rfl y).trans (by rw [HQ.out]),hK _ ?_⟩
      clear hK K
      go_simp
      refine RegK.can_nil ?_
      have HBZ:=Lib.hid (HB2.out.trans ((KeptW.bel hkd).mono HB2.out.size))
      obtain ⟨c0,c1,c2,c3⟩:=HC.out v1 HBZ.out
      have HBY:=Lib.hid (HW.out.2.1.trans (HBZ.out.mono HW.out.2.1.size))
      clear c2 c3 hkd
      go_wp2_with ((with_reducible refine (HA.out _ HBY.out).mono ?_);rintro e w3 ⟨rfl,h3,h4⟩;have H3:=Lib.hid (And.intro h3 h4);clear h3 h4)
      go_ret
      exact ⟨rfl,H3.out.1,(HW.out.1.hd HBY.out).trans H3.out.2⟩
  · rw [decide_eq_false hm] at HM
    rw [if_pos hm]
    clear hm HA
    go_enter Tryz.func9,Tryz.ntmps9
    go_upto_region 1 with fail
    generalize w.alloc (.cells #[.int .u64 (bn:Int),.int .u8 (br:Int)] 24)=w1 at *
    obtain ⟨c0,c1,c2,c3⟩:=HC.out w1 (Below.refl _ _)
    clear c2 c3
    go_wp2_with ((with_reducible refine (HM.out _ HW.out.2.1).mono ?_);rintro e w2 ⟨rfl,hb2⟩;have HB2:=Lib.hid hb2;clear hb2)
    go_ret
    have hbz:=HW.out.2.1.trans (HB2.out.mono HW.out.2.1.size)
    exact ⟨rfl,HW.out.1.hdb hbz⟩
end Go.Proofs.YticjodhkmidljaaGreatDoor
namespace Go.Proofs.YticjodhkmidljaaGreatDoor
open Go.RowKit Go.Shelf
/-- A keep, and a vote's box. -/
structure VkAt (w:World) (k S l g n:Nat) (V:KepV) (B:Nat) (s bn br:Nat) (xb:ByteArray):Prop where
  kep:KepAt w k S l g n V
  box:w.heap[B]?=some (.cells #[.int .u64 (s:Int),.int .u64 (bn:Int),.int .u8 (br:Int),.string xb] 26 (0,0))
section
variable {w w' : World} {k S l g n : Nat} {V : KepV} {B : Nat} {s bn br : Nat} {xb : ByteArray}
theorem VkAt.below (h:VkAt w k S l g n V B s bn br xb) (hb:Below w.heap.size w w'):VkAt w' k S l g n V B s bn br xb:=⟨h.kep.below hb,(hb.block B (Array.getElem?_eq_some_iff.1 h.box).1).trans h.box⟩
theorem VkAt.cells (h:VkAt w k S l g n V B s bn br xb):w.cell? ⟨B,0,none⟩=some (.int .u64 (s:Int))∧w.cell? ⟨B,1,none⟩=some (.int .u64 (bn:Int))∧w.cell? ⟨B,2,none⟩=some (.int .u8 (br:Int))∧w.cell? ⟨B,3,none⟩=some (.string xb)∧w.cell? ⟨k,4,none⟩=some (.map (some g)):=by
  obtain ⟨d0,d1,d2,d3,d4⟩:=h.kep.cells
  exact ⟨cell_of_row _ _ _ _ _ _ h.box,cell_of_row _ _ _ _ _ _ h.box,cell_of_row _ _ _ _ _ _ h.box,cell_of_row _ _ _ _ _ _ h.box,d4⟩
end
set_option maxRecDepth 100000 in
set_option maxHeartbeats 16000000 in
theorem vote_any {N p bb k S l g n:Nat} {Q:List Nat} {D:DskV} {b:Nat × Bs} {V:KepV} {w:World} (h:KpI N p bb k S l g n Q D b V w) (hs:SegOk D) (hz:b.1=0→b.2=[]) (v:VotV) (hvs:v.slot<18446744073709551616) (hxn:v.b.n<18446744073709551616) (hxr:v.b.r<256) (hvl:v.v.length≤100000) (hn:n<100000) :
    Calls Tryz.prog 10 #[.pointer (some ⟨k,0,none⟩),.agg (votK v).toArray] w fun e w'=>e=.returned (.int .i64 ((voteW b.1 D V v).2.2:Int))∧KpI N p bb k S l g (n+1) Q (voteW b.1 D V v).1 b (voteW b.1 D V v).2.1 w'∧Hd N Q w w':=by
  obtain ⟨s,⟨bn,br⟩,vv⟩:=v
  obtain ⟨xb,hxb⟩:∃ xb:ByteArray,xb=⟨vv.toArray⟩:=⟨_,rfl⟩
  show Calls _ _ #[.pointer (some ⟨k,0,none⟩),.agg #[.int .u64 (s:Int),.int .u64 (bn:Int),.int .u8 (br:Int),.string ⟨vv.toArray⟩]] w _
  rw [← hxb]
  have hb1:=(Below.refl w.heap.size w).alloc (Nat.le_refl _) (.cells #[.int .u64 (s:Int),.int .u64 (bn:Int),.int .u8 (br:Int),.string xb] 26)
  have HT:=Lib.hid (show VkAt _ k S l g n V w.heap.size s bn br xb from ⟨h.kep.below hb1,heap_alloc_new w (.cells #[.int .u64 (s:Int),.int .u64 (bn:Int),.int .u8 (br:Int),.string xb] 26)⟩)
  have HW:=Lib.hid (And.intro h hb1)
  have HKY:=Lib.hid (key_ku (s:=s) hvs)
  have HA:=Lib.hid (fun (y:World) (hy:Below w.heap.size w y)=>(show Calls Tryz.prog 29 #[.pointer (some ⟨k,0,none⟩),.agg #[.int .u8 2,.int .u64 (s:Int),.int .u64 (bn:Int),.int .u8 (br:Int),.string xb]] y _ from by rw [hxb];exact add_any (h.below hy) hs hz (.vot ⟨s,⟨bn,br⟩,vv⟩) ⟨hvs,hxn,hxr,hvl⟩ hn))
  have HM:=Lib.hid (fun (y:World) (hy:Below w.heap.size w y)=>(show Calls Tryz.prog 28 #[.pointer (some ⟨k,0,none⟩),.agg #[.int .u64 (bn:Int),.int .u8 (br:Int)]] y _ from may_any (h.kep.below hy) ⟨bn,br⟩ hxn))
  have HB:=Lib.hid (fun (y:World) (hy:Below w.heap.size w y)=>kbase_any (h.kep.below hy) (show StoAt y S p b from (hy.block S (sto_lt h.sto)).trans h.sto) hz)
  obtain ⟨s0,r0,bq,e3,e4,e5⟩:∃ s0 r0 bq,(mpV V.vs (ku s)).getD (voV 0 vo0)=voV s0 r0∧(mpV V.vs (ku s)).isSome=bq∧V.vs s=if bq=true then some r0 else none:=by
    rw [mpV_at]
    cases hv:V.vs s with
    | none=>exact ⟨0,vo0,false,rfl,rfl,rfl⟩
    | some r=>exact ⟨s,r,true,rfl,rfl,rfl⟩
  have HE:=Lib.hid (And.intro e3 e4)
  obtain ⟨⟨on,orr⟩,ov⟩:=r0
  obtain ⟨r0,hr0⟩:∃ r0:VoR,r0=(⟨on,orr⟩,ov):=⟨_,rfl⟩
  rw [← hr0] at HE e5
  have HR0:=Lib.hid hr0
  obtain ⟨ob,hob⟩:∃ ob:ByteArray,ob=⟨ov.toArray⟩:=⟨_,rfl⟩
  have hcm:(ob.toList == xb.toList)=decide (ov=vv):=by rw [bs_beq,hob,hxb]
  have HOB:=Lib.hid hob
  have hE5:=e5
  obtain ⟨bs,bt⟩:=b
  unfold voteW
  clear hb1 h hs hz hvs hxn hxr hvl hn hxb e3 e4 e5 hob hr0
  by_cases hm:kMay V ⟨bn,br⟩
  · rw [decide_eq_true hm] at HM
    by_cases h0:s=0
    · rw [if_pos (fun q=>by have:=q.2.1;simp only at this;omega)]
      have h0':((s:Int) == 0)=true:=by rw [h0];rfl
      clear hm h0 HA HB hcm hE5
      go_enter Tryz.func10,Tryz.ntmps10
      go_upto_region 1 with fail
      generalize w.alloc (.cells #[.int .u64 (s:Int),.int .u64 (bn:Int),.int .u8 (br:Int),.string xb] 26)=w1 at *
      obtain ⟨c0,c1,c2,c3,c4⟩:=HT.out.cells
      clear c0 c3 c4
      go_wp2_with ((with_reducible refine (HM.out _ HW.out.2).mono ?_);rintro e w2 ⟨rfl,hb2⟩;have HB2:=Lib.hid hb2;clear c1 c2;obtain ⟨c0,c1,c2,c3,c4⟩:=(HT.out.below hb2).cells;clear hb2 c1 c2 c3 c4)
      go_ret
      have hbz:=HW.out.2.trans (HB2.out.mono HW.out.2.size)
      exact ⟨rfl,HW.out.1.hdb hbz⟩
    · have h0':((s:Int) == 0)=false:=by rw [beq_eq_false_iff_ne];omega
      by_cases h6:4611686018427387904<s
      · rw [if_pos (fun q=>by have:=q.2.2;simp only at this;omega)]
        have h6':(4611686018427387904:Int)<(s:Int):=by omega
        clear hm h0 h6 HA HB hcm hE5
        go_enter Tryz.func10,Tryz.ntmps10
        go_upto_region 1 with fail
        generalize w.alloc (.cells #[.int .u64 (s:Int),.int .u64 (bn:Int),.int .u8 (br:Int),.string xb] 26)=w1 at *
        obtain ⟨c0,c1,c2,c3,c4⟩:=HT.out.cells
        clear c0 c3 c4
        go_wp2_with ((with_reducible refine (HM.out _ HW.out.2).mono ?_);rintro e w2 ⟨rfl,hb2⟩;have HB2:=Lib.hid hb2;clear c1 c2;obtain ⟨c0,c1,c2,c3,c4⟩:=(HT.out.below hb2).cells;clear hb2 c1 c2 c3 c4)
        go_ret
        have hbz:=HW.out.2.trans (HB2.out.mono HW.out.2.size)
        exact ⟨rfl,HW.out.1.hdb hbz⟩
      · have h6' : ¬ (4611686018427387904:Int)<(s:Int):=by omega
        rw [if_neg (fun q=>q ⟨hm,by simp only;omega,by simp only;omega⟩)]
        clear hm h0 h6
        by_cases hsl:s≤bs
        · rw [if_pos hsl]
          have hsl':(s:Int)≤(bs:Int):=by omega
          clear hsl HA hcm hE5
          go_enter Tryz.func10,Tryz.ntmps10
          go_upto_region 1 with fail
          generalize w.alloc (.cells #[.int .u64 (s:Int),.int .u64 (bn:Int),.int .u8 (br:Int),.string xb] 26)=w1 at *
          obtain ⟨c0,c1,c2,c3,c4⟩:=HT.out.cells
          clear c0 c3 c4
          go_wp2_with (first
            | ((with_reducible refine (HM.out _ HW.out.2).mono ?_);rintro e w2 ⟨rfl,hb2⟩;have HB2:=Lib.hid hb2;clear c1 c2;obtain ⟨c0,c1,c2,c3,c4⟩:=(HT.out.below hb2).cells;clear hb2 c1 c2 c3 c4)
            | ((with_reducible refine (HB.out _ (HW.out.2.trans (HB2.out.mono HW.out.2.size))).mono ?_);rintro e wb ⟨rfl,hbb⟩;have HBB:=Lib.hid (HB2.out.trans (hbb.mono HB2.out.size));clear c0 hbb;obtain ⟨c0,c1,c2,c3,c4⟩:=(HT.out.below HBB.out).cells;clear c1 c2 c3 c4))
          go_ret
          have hbz:=HW.out.2.trans (HBB.out.mono HW.out.2.size)
          exact ⟨rfl,HW.out.1.hdb hbz⟩
        · rw [if_neg hsl]
          have hsl' : ¬ (s:Int)≤(bs:Int):=by omega
          clear hsl
          cases bq with
          | false =>
            rw [show V.vs s=none from hE5]
            simp only
            generalize addW bs D V (.vot ⟨s,⟨bn,br⟩,vv⟩)=R at *
            clear hcm hE5
            go_enter Tryz.func10,Tryz.ntmps10
            go_upto_region 1 with fail
            generalize w.alloc (.cells #[.int .u64 (s:Int),.int .u64 (bn:Int),.int .u8 (br:Int),.string xb] 26)=w1 at *
            obtain ⟨c0,c1,c2,c3,c4⟩:=HT.out.cells
            clear c0 c3 c4
            go_upto_region 8 with (first
              | ((with_reducible refine (HM.out _ HW.out.2).mono ?_);rintro e w2 ⟨rfl,hb2⟩;have HB2:=Lib.hid hb2;clear c1 c2;obtain ⟨c0,c1,c2,c3,c4⟩:=(HT.out.below hb2).cells;clear hb2 c1 c2 c3 c4)
              | ((with_reducible refine (HB.out _ (HW.out.2.trans (HB2.out.mono HW.out.2.size))).mono ?_);rintro e wb ⟨rfl,hbb⟩;have HBB:=Lib.hid (HB2.out.trans (hbb.mono HB2.out.size));clear c0 hbb;obtain ⟨c0,c1,c2,c3,c4⟩:=(HT.out.below HBB.out).cells;clear c1 c2 c3 c4))
            clear c0
            have HTa:=HT
            have HT:=Lib.hid (HTa.out.below HBB.out)
            have HB4:=Lib.hid (HW.out.2.trans (HBB.out.mono HW.out.2.size))
            clear HTa HBB HB2 HM HB
            refine (wpIn_wide (n:=1)).1 ?_
            refine RegL.wpIn_region_lays (F:=Fence.wide) (KeptW wb) [⟨10,7,.cells (voCells 0 vo0).toArray 26 (0,0)⟩] [(0,0),(1,0),(2,0),(3,0),(4,0),(5,0),(6,0),(7,0),(8,0),(9,2),(11,3),(12,0)] (by kernel_rfl) (by kernel_rfl) (by kernel_rfl) (fun p hp=>by rw [List.mem_singleton] at hp;subst hp;exact lays_any layVt rfl) (fun _ _ d _ _ h=>by cases d <;> exact h) (fun _ _ d _ _ h=>by cases d <;> exact h) ⟨rfl,rfl,rfl,Nat.le_refl _,fun _ _=>rfl⟩ (keptW_mono wb) ?_
            dsimp only [RegK.pick,List.getElem?_cons_zero,List.getElem?_cons_succ]
            refine RegL.reads ?_
            intro K hK
            go_simp
            (first | refine ⟨_,fun _ _=>rfl,hK _ ?_⟩ | refine hK _ ?_)
            clear hK K
            refine RegL.reads ?_
            intro K hK
            go_simp
            (first | refine ⟨_,fun _ _=>rfl,hK _ ?_⟩ | refine hK _ ?_)
            clear hK K
            refine RegL.reads ?_
            intro K hK
            go_simp
            (first | refine ⟨_,fun _ _=>rfl,hK _ ?_⟩ | refine hK _ ?_)
            clear hK K
            refine RegL.reads ?_
            intro K hK
            go_simp
            refine ⟨.map (some g),fun y hy=>?_,hK _ ?_⟩
            · obtain ⟨c0,c1,c2,c3,c4⟩:=(HT.out.below (KeptW.bel hy)).cells
              go_simp
            clear hK K
            refine RegL.reads ?_
            intro K hK
            go_simp
            (first | refine ⟨_,fun _ _=>rfl,hK _ ?_⟩ | refine hK _ ?_)
            clear hK K
            refine RegL.reads ?_
            intro K hK
            go_simp
            refine ⟨.int .u64 (s:Int),fun y hy=>?_,hK _ ?_⟩
            · obtain ⟨c0,c1,c2,c3,c4⟩:=(HT.out.below (KeptW.bel hy)).cells
              go_simp
            clear hK K
            refine RegL.reads ?_
            intro K hK
            go_simp
            refine ⟨.tuple #[voV s0 r0,.bool false],fun y hy=>?_,hK _ ?_⟩
            · have hl:=(HT.out.below (KeptW.bel hy)).kep.mp.look_ok lawU Tryz.underlying63 (vo_zero y) HKY.out
              rw [HE.out.1,HE.out.2] at hl
              go_simp
            clear hK K
            refine RegL.reads ?_
            intro K hK
            go_simp
            (first | refine ⟨_,fun _ _=>rfl,hK _ ?_⟩ | refine hK _ ?_)
            clear hK K
            refine RegL.reads ?_
            intro K hK
            go_simp
            (first | refine ⟨_,fun _ _=>rfl,hK _ ?_⟩ | refine hK _ ?_)
            clear hK K
            refine RegL.pures ?_
            intro K hK
            go_simp
            (first | (refine ⟨_,fun _=>rfl,hK _ ?_⟩) | (refine hK _ ?_))
            clear hK K
            refine RegL.last ?_
            intro g' y hF hy
            have hyk:KeptW wb y:=hy
            obtain ⟨hlgb,hngb⟩:=hF.1 ⟨10,7,.cells (voCells 0 vo0).toArray 26 (0,0)⟩ (by simp) rfl
            simp only [RegL.putS,RegL.ptr,if_true]
            clear hF
            generalize g' 10=gb at *
            refine RegK.can_frees (fun _=>trivial) ?_
            intro K K0 hK hK0
            rw [if_pos (by simp [Region.wanted])]
            refine RegK.op_wide rfl ?_
            refine wp_store_mid 26 _ _ rfl gb 0 (voCells s0 r0).toArray rfl rfl (there_row (cs:=voCells 0 vo0) hlgb) (vo_size s0 r0) (all_oneCell_toArray (vo_one s0 r0)) ?_
            rw [show (y).setCells gb 0 (voCells s0 r0).toArray.toList=rowSt y gb 0 (voCells s0 r0) from st_eq _ _ _]
            refine hK (fun _=>True) _ _ trivial ?_
            clear hK K hK0 K0 
            have hz2:=Lib.hid (show VtAt (rowSt y gb 0 (voCells s0 r0)) gb s0 r0 from rowSt_row (voCells s0 r0) [] (voCells 0 vo0) y hlgb rfl)
            have hbz:=rowSt_below hngb (voCells s0 r0) 0 _ (KeptW.bel hyk)
            generalize rowSt y gb 0 (voCells s0 r0)=w3 at *
            (refine RegK.can_reads ?_;intro K hK;go_simp;(first | refine ⟨_,fun _ _=>rfl,hK _ ?_⟩ | refine hK _ ?_);clear hK K)
            refine RegK.can_nil ?_
            have HTb:=HT
            have HT:=Lib.hid (HTb.out.below hbz)
            have HBz:=Lib.hid (HB4.out.trans (hbz.mono HB4.out.size))
            obtain ⟨c0,c1,c2,c3,c4⟩:=HT.out.cells
            obtain ⟨d1,d2,d3⟩:w3.cell? ⟨gb,1,none⟩=some (.int .u64 (on:Int))∧w3.cell? ⟨gb,2,none⟩=some (.int .u8 (orr:Int))∧w3.cell? ⟨gb,3,none⟩=some (.string ob):=by
              have h2:=hz2.out
              rw [HR0.out] at h2
              rw [HOB.out]
              exact ⟨cell_of_row _ _ _ _ _ _ h2,cell_of_row _ _ _ _ _ _ h2,cell_of_row _ _ _ _ _ _ h2⟩
            clear HTb HB4 hbz hz2 hlgb hngb hyk hy c4
            go_wp2_with ((with_reducible refine (HA.out _ HBz.out).mono ?_);rintro e w5 ⟨rfl,h3,h4⟩;have H3:=Lib.hid (And.intro h3 h4);clear h3 h4)
            go_ret
            exact ⟨rfl,H3.out.1,(HW.out.1.hd HBz.out).trans H3.out.2⟩
          | true =>
            rw [show V.vs s=some r0 from hE5]
            simp only
            rw [HR0.out]
            simp only
            by_cases hq:(⟨on,orr⟩:BalV)=⟨bn,br⟩
            · rw [if_pos hq]
              have HQ:=Lib.hid (show (decide ((⟨on,orr⟩:BalV)=⟨bn,br⟩) == true)=true by rw [decide_eq_true hq];rfl)
              clear HA hE5 hq
              by_cases hv:ov=vv
              · rw [if_pos hv]
                rw [decide_eq_true hv] at hcm
                clear hv
                go_enter Tryz.func10,Tryz.ntmps10
                go_upto_region 1 with fail
                generalize w.alloc (.cells #[.int .u64 (s:Int),.int .u64 (bn:Int),.int .u8 (br:Int),.string xb] 26)=w1 at *
                obtain ⟨c0,c1,c2,c3,c4⟩:=HT.out.cells
                clear c0 c3 c4
                go_upto_region 8 with (first
                  | ((with_reducible refine (HM.out _ HW.out.2).mono ?_);rintro e w2 ⟨rfl,hb2⟩;have HB2:=Lib.hid hb2;clear c1 c2;obtain ⟨c0,c1,c2,c3,c4⟩:=(HT.out.below hb2).cells;clear hb2 c1 c2 c3 c4)
                  | ((with_reducible refine (HB.out _ (HW.out.2.trans (HB2.out.mono HW.out.2.size))).mono ?_);rintro e wb ⟨rfl,hbb⟩;have HBB:=Lib.hid (HB2.out.trans (hbb.mono HB2.out.size));clear c0 hbb;obtain ⟨c0,c1,c2,c3,c4⟩:=(HT.out.below HBB.out).cells;clear c1 c2 c3 c4))
                clear c0
                have HTa:=HT
                have HT:=Lib.hid (HTa.out.below HBB.out)
                have HB4:=Lib.hid (HW.out.2.trans (HBB.out.mono HW.out.2.size))
                clear HTa HBB HB2 HM HB
                refine (wpIn_wide (n:=1)).1 ?_
                refine RegL.wpIn_region_lays (F:=Fence.wide) (KeptW wb) [⟨10,7,.cells (voCells 0 vo0).toArray 26 (0,0)⟩] [(0,0),(1,0),(2,0),(3,0),(4,0),(5,0),(6,0),(7,0),(8,0),(9,2),(11,3),(12,0)] (by kernel_rfl) (by kernel_rfl) (by kernel_rfl) (fun p hp=>by rw [List.mem_singleton] at hp;subst hp;exact lays_any layVt rfl) (fun _ _ d _ _ h=>by cases d <;> exact h) (fun _ _ d _ _ h=>by cases d <;> exact h) ⟨rfl,rfl,rfl,Nat.le_refl _,fun _ _=>rfl⟩ (keptW_mono wb) ?_
                dsimp only [RegK.pick,List.getElem?_cons_zero,List.getElem?_cons_succ]
                refine RegL.reads ?_
                intro K hK
                go_simp
                (first | refine ⟨_,fun _ _=>rfl,hK _ ?_⟩ | refine hK _ ?_)
                clear hK K
                refine RegL.reads ?_
                intro K hK
                go_simp
                (first | refine ⟨_,fun _ _=>rfl,hK _ ?_⟩ | refine hK _ ?_)
                clear hK K
                refine RegL.reads ?_
                intro K hK
                go_simp
                (first | refine ⟨_,fun _ _=>rfl,hK _ ?_⟩ | refine hK _ ?_)
                clear hK K
                refine RegL.reads ?_
                intro K hK
                go_simp
                refine ⟨.map (some g),fun y hy=>?_,hK _ ?_⟩
                · obtain ⟨c0,c1,c2,c3,c4⟩:=(HT.out.below (KeptW.bel hy)).cells
                  go_simp
                clear hK K
                refine RegL.reads ?_
                intro K hK
                go_simp
                (first | refine ⟨_,fun _ _=>rfl,hK _ ?_⟩ | refine hK _ ?_)
                clear hK K
                refine RegL.reads ?_
                intro K hK
                go_simp
                refine ⟨.int .u64 (s:Int),fun y hy=>?_,hK _ ?_⟩
                · obtain ⟨c0,c1,c2,c3,c4⟩:=(HT.out.below (KeptW.bel hy)).cells
                  go_simp
                clear hK K
                refine RegL.reads ?_
                intro K hK
                go_simp
                refine ⟨.tuple #[voV s0 r0,.bool true],fun y hy=>?_,hK _ ?_⟩
                · have hl:=(HT.out.below (KeptW.bel hy)).kep.mp.look_ok lawU Tryz.underlying63 (vo_zero y) HKY.out
                  rw [HE.out.1,HE.out.2] at hl
                  go_simp
                clear hK K
                refine RegL.reads ?_
                intro K hK
                go_simp
                (first | refine ⟨_,fun _ _=>rfl,hK _ ?_⟩ | refine hK _ ?_)
                clear hK K
                refine RegL.reads ?_
                intro K hK
                go_simp
                (first | refine ⟨_,fun _ _=>rfl,hK _ ?_⟩ | refine hK _ ?_)
                clear hK K
                refine RegL.pures ?_
                intro K hK
                go_simp
                (first | (refine ⟨_,fun _=>rfl,hK _ ?_⟩) | (refine hK _ ?_))
                clear hK K
                refine RegL.last ?_
                intro g' y hF hy
                have hyk:KeptW wb y:=hy
                obtain ⟨hlgb,hngb⟩:=hF.1 ⟨10,7,.cells (voCells 0 vo0).toArray 26 (0,0)⟩ (by simp) rfl
                simp only [RegL.putS,RegL.ptr,if_true]
                clear hF
                generalize g' 10=gb at *
                refine RegK.can_frees (fun _=>trivial) ?_
                intro K K0 hK hK0
                rw [if_pos (by simp [Region.wanted])]
                refine RegK.op_wide rfl ?_
                refine wp_store_mid 26 _ _ rfl gb 0 (voCells s0 r0).toArray rfl rfl (there_row (cs:=voCells 0 vo0) hlgb) (vo_size s0 r0) (all_oneCell_toArray (vo_one s0 r0)) ?_
                rw [show (y).setCells gb 0 (voCells s0 r0).toArray.toList=rowSt y gb 0 (voCells s0 r0) from st_eq _ _ _]
                refine hK (fun _=>True) _ _ trivial ?_
                clear hK K hK0 K0 
                have hz2:=Lib.hid (show VtAt (rowSt y gb 0 (voCells s0 r0)) gb s0 r0 from rowSt_row (voCells s0 r0) [] (voCells 0 vo0) y hlgb rfl)
                have hbz:=rowSt_below hngb (voCells s0 r0) 0 _ (KeptW.bel hyk)
                generalize rowSt y gb 0 (voCells s0 r0)=w3 at *
                (refine RegK.can_reads ?_;intro K hK;go_simp;(first | refine ⟨_,fun _ _=>rfl,hK _ ?_⟩ | refine hK _ ?_);clear hK K)
                refine RegK.can_nil ?_
                have HTb:=HT
                have HT:=Lib.hid (HTb.out.below hbz)
                have HBz:=Lib.hid (HB4.out.trans (hbz.mono HB4.out.size))
                obtain ⟨c0,c1,c2,c3,c4⟩:=HT.out.cells
                obtain ⟨d1,d2,d3⟩:w3.cell? ⟨gb,1,none⟩=some (.int .u64 (on:Int))∧w3.cell? ⟨gb,2,none⟩=some (.int .u8 (orr:Int))∧w3.cell? ⟨gb,3,none⟩=some (.string ob):=by
                  have h2:=hz2.out
                  rw [HR0.out] at h2
                  rw [HOB.out]
                  exact ⟨cell_of_row _ _ _ _ _ _ h2,cell_of_row _ _ _ _ _ _ h2,cell_of_row _ _ _ _ _ _ h2⟩
                clear HTb HB4 hbz hz2 hlgb hngb hyk hy c4
                go_wp2_with ((with_reducible refine wpList_eql_bal true _ _ rfl ⟨on,orr⟩ ⟨bn,br⟩ rfl rfl _ HQ.out ?_ ?_);exact (Eq.refl true))
                go_ret
                exact ⟨rfl,HW.out.1.hdb HBz.out⟩
              · rw [if_neg hv]
                rw [decide_eq_false hv] at hcm
                clear hv
                go_enter Tryz.func10,Tryz.ntmps10
                go_upto_region 1 with fail
                generalize w.alloc (.cells #[.int .u64 (s:Int),.int .u64 (bn:Int),.int .u8 (br:Int),.string xb] 26)=w1 at *
                obtain ⟨c0,c1,c2,c3,c4⟩:=HT.out.cells
                clear c0 c3 c4
                go_upto_region 8 with (first
                  | ((with_reducible refine (HM.out _ HW.out.2).mono ?_);rintro e w2 ⟨rfl,hb2⟩;have HB2:=Lib.hid hb2;clear c1 c2;obtain ⟨c0,c1,c2,c3,c4⟩:=(HT.out.below hb2).cells;clear hb2 c1 c2 c3 c4)
                  | ((with_reducible refine (HB.out _ (HW.out.2.trans (HB2.out.mono HW.out.2.size))).mono ?_);rintro e wb ⟨rfl,hbb⟩;have HBB:=Lib.hid (HB2.out.trans (hbb.mono HB2.out.size));clear c0 hbb;obtain ⟨c0,c1,c2,c3,c4⟩:=(HT.out.below HBB.out).cells;clear c1 c2 c3 c4))
                clear c0
                have HTa:=HT
                have HT:=Lib.hid (HTa.out.below HBB.out)
                have HB4:=Lib.hid (HW.out.2.trans (HBB.out.mono HW.out.2.size))
                clear HTa HBB HB2 HM HB
                refine (wpIn_wide (n:=1)).1 ?_
                refine RegL.wpIn_region_lays (F:=Fence.wide) (KeptW wb) [⟨10,7,.cells (voCells 0 vo0).toArray 26 (0,0)⟩] [(0,0),(1,0),(2,0),(3,0),(4,0),(5,0),(6,0),(7,0),(8,0),(9,2),(11,3),(12,0)] (by kernel_rfl) (by kernel_rfl) (by kernel_rfl) (fun p hp=>by rw [List.mem_singleton] at hp;subst hp;exact lays_any layVt rfl) (fun _ _ d _ _ h=>by cases d <;> exact h) (fun _ _ d _ _ h=>by cases d <;> exact h) ⟨rfl,rfl,rfl,Nat.le_refl _,fun _ _=>rfl⟩ (keptW_mono wb) ?_
                dsimp only [RegK.pick,List.getElem?_cons_zero,List.getElem?_cons_succ]
                refine RegL.reads ?_
                intro K hK
                go_simp
                (first | refine ⟨_,fun _ _=>rfl,hK _ ?_⟩ | refine hK _ ?_)
                clear hK K
                refine RegL.reads ?_
                intro K hK
                go_simp
                (first | refine ⟨_,fun _ _=>rfl,hK _ ?_⟩ | refine hK _ ?_)
                clear hK K
                refine RegL.reads ?_
                intro K hK
                go_simp
                (first | refine ⟨_,fun _ _=>rfl,hK _ ?_⟩ | refine hK _ ?_)
                clear hK K
                refine RegL.reads ?_
                intro K hK
                go_simp
                refine ⟨.map (some g),fun y hy=>?_,hK _ ?_⟩
                · obtain ⟨c0,c1,c2,c3,c4⟩:=(HT.out.below (KeptW.bel hy)).cells
                  go_simp
                clear hK K
                refine RegL.reads ?_
                intro K hK
                go_simp
                (first | refine ⟨_,fun _ _=>rfl,hK _ ?_⟩ | refine hK _ ?_)
                clear hK K
                refine RegL.reads ?_
                intro K hK
                go_simp
                refine ⟨.int .u64 (s:Int),fun y hy=>?_,hK _ ?_⟩
                · obtain ⟨c0,c1,c2,c3,c4⟩:=(HT.out.below (KeptW.bel hy)).cells
                  go_simp
                clear hK K
                refine RegL.reads ?_
                intro K hK
                go_simp
                refine ⟨.tuple #[voV s0 r0,.bool true],fun y hy=>?_,hK _ ?_⟩
                · have hl:=(HT.out.below (KeptW.bel hy)).kep.mp.look_ok lawU Tryz.underlying63 (vo_zero y) HKY.out
                  rw [HE.out.1,HE.out.2] at hl
                  go_simp
                clear hK K
                refine RegL.reads ?_
                intro K hK
                go_simp
                (first | refine ⟨_,fun _ _=>rfl,hK _ ?_⟩ | refine hK _ ?_)
                clear hK K
                refine RegL.reads ?_
                intro K hK
                go_simp
                (first | refine ⟨_,fun _ _=>rfl,hK _ ?_⟩ | refine hK _ ?_)
                clear hK K
                refine RegL.pures ?_
                intro K hK
                go_simp
                (first | (refine ⟨_,fun _=>rfl,hK _ ?_⟩) | (refine hK _ ?_))
                clear hK K
                refine RegL.last ?_
                intro g' y hF hy
                have hyk:KeptW wb y:=hy
                obtain ⟨hlgb,hngb⟩:=hF.1 ⟨10,7,.cells (voCells 0 vo0).toArray 26 (0,0)⟩ (by simp) rfl
                simp only [RegL.putS,RegL.ptr,if_true]
                clear hF
                generalize g' 10=gb at *
                refine RegK.can_frees (fun _=>trivial) ?_
                intro K K0 hK hK0
                rw [if_pos (by simp [Region.wanted])]
                refine RegK.op_wide rfl ?_
                refine wp_store_mid 26 _ _ rfl gb 0 (voCells s0 r0).toArray rfl rfl (there_row (cs:=voCells 0 vo0) hlgb) (vo_size s0 r0) (all_oneCell_toArray (vo_one s0 r0)) ?_
                rw [show (y).setCells gb 0 (voCells s0 r0).toArray.toList=rowSt y gb 0 (voCells s0 r0) from st_eq _ _ _]
                refine hK (fun _=>True) _ _ trivial ?_
                clear hK K hK0 K0 
                have hz2:=Lib.hid (show VtAt (rowSt y gb 0 (voCells s0 r0)) gb s0 r0 from rowSt_row (voCells s0 r0) [] (voCells 0 vo0) y hlgb rfl)
                have hbz:=rowSt_below hngb (voCells s0 r0) 0 _ (KeptW.bel hyk)
                generalize rowSt y gb 0 (voCells s0 r0)=w3 at *
                (refine RegK.can_reads ?_;intro K hK;go_simp;(first | refine ⟨_,fun _ _=>rfl,hK _ ?_⟩ | refine hK _ ?_);clear hK K)
                refine RegK.can_nil ?_
                have HTb:=HT
                have HT:=Lib.hid (HTb.out.below hbz)
                have HBz:=Lib.hid (HB4.out.trans (hbz.mono HB4.out.size))
                obtain ⟨c0,c1,c2,c3,c4⟩:=HT.out.cells
                obtain ⟨d1,d2,d3⟩:w3.cell? ⟨gb,1,none⟩=some (.int .u64 (on:Int))∧w3.cell? ⟨gb,2,none⟩=some (.int .u8 (orr:Int))∧w3.cell? ⟨gb,3,none⟩=some (.string ob):=by
                  have h2:=hz2.out
                  rw [HR0.out] at h2
                  rw [HOB.out]
                  exact ⟨cell_of_row _ _ _ _ _ _ h2,cell_of_row _ _ _ _ _ _ h2,cell_of_row _ _ _ _ _ _ h2⟩
                clear HTb HB4 hbz hz2 hlgb hngb hyk hy c4
                go_wp2_with ((with_reducible refine wpList_eql_bal true _ _ rfl ⟨on,orr⟩ ⟨bn,br⟩ rfl rfl _ HQ.out ?_ ?_);exact (Eq.refl true))
                go_ret
                exact ⟨rfl,HW.out.1.hdb HBz.out⟩
            · rw [if_neg hq]
              have HQ:=Lib.hid (show (decide ((⟨on,orr⟩:BalV)=⟨bn,br⟩) == true)=false by rw [decide_eq_false hq];rfl)
              generalize addW bs D V (.vot ⟨s,⟨bn,br⟩,vv⟩)=R at *
              clear hcm hE5 hq
              go_enter Tryz.func10,Tryz.ntmps10
              go_upto_region 1 with fail
              generalize w.alloc (.cells #[.int .u64 (s:Int),.int .u64 (bn:Int),.int .u8 (br:Int),.string xb] 26)=w1 at *
              obtain ⟨c0,c1,c2,c3,c4⟩:=HT.out.cells
              clear c0 c3 c4
              go_upto_region 8 with (first
                | ((with_reducible refine (HM.out _ HW.out.2).mono ?_);rintro e w2 ⟨rfl,hb2⟩;have HB2:=Lib.hid hb2;clear c1 c2;obtain ⟨c0,c1,c2,c3,c4⟩:=(HT.out.below hb2).cells;clear hb2 c1 c2 c3 c4)
                | ((with_reducible refine (HB.out _ (HW.out.2.trans (HB2.out.mono HW.out.2.size))).mono ?_);rintro e wb ⟨rfl,hbb⟩;have HBB:=Lib.hid (HB2.out.trans (hbb.mono HB2.out.size));clear c0 hbb;obtain ⟨c0,c1,c2,c3,c4⟩:=(HT.out.below HBB.out).cells;clear c1 c2 c3 c4))
              clear c0
              have HTa:=HT
              have HT:=Lib.hid (HTa.out.below HBB.out)
              have HB4:=Lib.hid (HW.out.2.trans (HBB.out.mono HW.out.2.size))
              clear HTa HBB HB2 HM HB
              refine (wpIn_wide (n:=1)).1 ?_
              refine RegL.wpIn_region_lays (F:=Fence.wide) (KeptW wb) [⟨10,7,.cells (voCells 0 vo0).toArray 26 (0,0)⟩] [(0,0),(1,0),(2,0),(3,0),(4,0),(5,0),(6,0),(7,0),(8,0),(9,2),(11,3),(12,0)] (by kernel_rfl) (by kernel_rfl) (by kernel_rfl) (fun p hp=>by rw [List.mem_singleton] at hp;subst hp;exact lays_any layVt rfl) (fun _ _ d _ _ h=>by cases d <;> exact h) (fun _ _ d _ _ h=>by cases d <;> exact h) ⟨rfl,rfl,rfl,Nat.le_refl _,fun _ _=>rfl⟩ (keptW_mono wb) ?_
              dsimp only [RegK.pick,List.getElem?_cons_zero,List.getElem?_cons_succ]
              refine RegL.reads ?_
              intro K hK
              go_simp
              (first | refine ⟨_,fun _ _=>rfl,hK _ ?_⟩ | refine hK _ ?_)
              clear hK K
              refine RegL.reads ?_
              intro K hK
              go_simp
              (first | refine ⟨_,fun _ _=>rfl,hK _ ?_⟩ | refine hK _ ?_)
              clear hK K
              refine RegL.reads ?_
              intro K hK
              go_simp
              (first | refine ⟨_,fun _ _=>rfl,hK _ ?_⟩ | refine hK _ ?_)
              clear hK K
              refine RegL.reads ?_
              intro K hK
              go_simp
              refine ⟨.map (some g),fun y hy=>?_,hK _ ?_⟩
              · obtain ⟨c0,c1,c2,c3,c4⟩:=(HT.out.below (KeptW.bel hy)).cells
                go_simp
              clear hK K
              refine RegL.reads ?_
              intro K hK
              go_simp
              (first | refine ⟨_,fun _ _=>rfl,hK _ ?_⟩ | refine hK _ ?_)
              clear hK K
              refine RegL.reads ?_
              intro K hK
              go_simp
              refine ⟨.int .u64 (s:Int),fun y hy=>?_,hK _ ?_⟩
              · obtain ⟨c0,c1,c2,c3,c4⟩:=(HT.out.below (KeptW.bel hy)).cells
                go_simp
              clear hK K
              refine RegL.reads ?_
              intro K hK
              go_simp
              refine ⟨.tuple #[voV s0 r0,.bool true],fun y hy=>?_,hK _ ?_⟩
              · have hl:=(HT.out.below (KeptW.bel hy)).kep.mp.look_ok lawU Tryz.underlying63 (vo_zero y) HKY.out
                rw [HE.out.1,HE.out.2] at hl
                go_simp
              clear hK K
              refine RegL.reads ?_
              intro K hK
              go_simp
              (first | refine ⟨_,fun _ _=>rfl,hK _ ?_⟩ | refine hK _ ?_)
              clear hK K
              refine RegL.reads ?_
              intro K hK
              go_simp
              (first | refine ⟨_,fun _ _=>rfl,hK _ ?_⟩ | refine hK _ ?_)
              clear hK K
              refine RegL.pures ?_
              intro K hK
              go_simp
              (first | (refine ⟨_,fun _=>rfl,hK _ ?_⟩) | (refine hK _ ?_))
              clear hK K
              refine RegL.last ?_
              intro g' y hF hy
              have hyk:KeptW wb y:=hy
              obtain ⟨hlgb,hngb⟩:=hF.1 ⟨10,7,.cells (voCells 0 vo0).toArray 26 (0,0)⟩ (by simp) rfl
              simp only [RegL.putS,RegL.ptr,if_true]
              clear hF
              generalize g' 10=gb at *
              refine RegK.can_frees (fun _=>trivial) ?_
              intro K K0 hK hK0
              rw [if_pos (by simp [Region.wanted])]
              refine RegK.op_wide rfl ?_
              refine wp_store_mid 26 _ _ rfl gb 0 (voCells s0 r0).toArray rfl rfl (there_row (cs:=voCells 0 vo0) hlgb) (vo_size s0 r0) (all_oneCell_toArray (vo_one s0 r0)) ?_
              rw [show (y).setCells gb 0 (voCells s0 r0).toArray.toList=rowSt y gb 0 (voCells s0 r0) from st_eq _ _ _]
              refine hK (fun _=>True) _ _ trivial ?_
              clear hK K hK0 K0 
              have hz2:=Lib.hid (show VtAt (rowSt y gb 0 (voCells s0 r0)) gb s0 r0 from rowSt_row (voCells s0 r0) [] (voCells 0 vo0) y hlgb rfl)
              have hbz:=rowSt_below hngb (voCells s0 r0) 0 _ (KeptW.bel hyk)
              generalize rowSt y gb 0 (voCells s0 r0)=w3 at *
              (refine RegK.can_reads ?_;intro K hK;go_simp;(first | refine ⟨_,fun _ _=>rfl,hK _ ?_⟩ | refine hK _ ?_);clear hK K)
              refine RegK.can_nil ?_
              have HTb:=HT
              have HT:=Lib.hid (HTb.out.below hbz)
              have HBz:=Lib.hid (HB4.out.trans (hbz.mono HB4.out.size))
              obtain ⟨c0,c1,c2,c3,c4⟩:=HT.out.cells
              obtain ⟨d1,d2,d3⟩:w3.cell? ⟨gb,1,none⟩=some (.int .u64 (on:Int))∧w3.cell? ⟨gb,2,none⟩=some (.int .u8 (orr:Int))∧w3.cell? ⟨gb,3,none⟩=some (.string ob):=by
                have h2:=hz2.out
                rw [HR0.out] at h2
                rw [HOB.out]
                exact ⟨cell_of_row _ _ _ _ _ _ h2,cell_of_row _ _ _ _ _ _ h2,cell_of_row _ _ _ _ _ _ h2⟩
              clear HTb HB4 hbz hz2 hlgb hngb hyk hy c4
              go_wp2_with (first
                | ((with_reducible refine wpList_eql_bal true _ _ rfl ⟨on,orr⟩ ⟨bn,br⟩ rfl rfl _ HQ.out ?_ ?_);exact (Eq.refl true))
                | ((with_reducible refine (HA.out _ HBz.out).mono ?_);rintro e w5 ⟨rfl,h3,h4⟩;have H3:=Lib.hid (And.intro h3 h4);clear h3 h4))
              go_ret
              exact ⟨rfl,H3.out.1,(HW.out.1.hd HBz.out).trans H3.out.2⟩
  · rw [decide_eq_false hm] at HM
    rw [if_pos (fun q=>hm q.1)]
    clear hm HA HB hcm hE5
    go_enter Tryz.func10,Tryz.ntmps10
    go_upto_region 1 with fail
    generalize w.alloc (.cells #[.int .u64 (s:Int),.int .u64 (bn:Int),.int .u8 (br:Int),.string xb] 26)=w1 at *
    obtain ⟨c0,c1,c2,c3,c4⟩:=HT.out.cells
    clear c0 c3 c4
    go_wp2_with ((with_reducible refine (HM.out _ HW.out.2).mono ?_);rintro e w2 ⟨rfl,hb2⟩;have HB2:=Lib.hid hb2;clear c1 c2;obtain ⟨c0,c1,c2,c3,c4⟩:=(HT.out.below hb2).cells;clear hb2 c1 c2 c3 c4)
    go_ret
    have hbz:=HW.out.2.trans (HB2.out.mono HW.out.2.size)
    exact ⟨rfl,HW.out.1.hdb hbz⟩
end Go.Proofs.YticjodhkmidljaaGreatDoor
