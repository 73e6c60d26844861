/- Log: contracts of a disk and logs on it, all of whose blocks lie at N or behind. Condition: as each theorem says. -/
import Derived.Test.YticjodhkmidljaaGreatDoorZKeepNil17
import Derived.Test.YticjodhkmidljaaGreatDoorZKeepNil14
import Derived.Test.YticjodhkmidljaaGreatDoorZKeepNil1
import Derived.Test.YticjodhkmidljaaGreatDoorZKeepNil18
import Derived.Lib.SlMapFilter
import Derived.Maps.Views
import Derived.Test.YticjodhkmidljaaGreatDoorZKeepNil4
namespace Go.Proofs.YticjodhkmidljaaGreatDoor
open Go.RowKit Go.Shelf
/-- A disk, logs on it, blocks that are not the disk's; all of them lie at N or behind. -/
def Lw (N p bb:Nat) (K ls:List Nat) (D:DskV) (w:World):Prop:=∃ n C L,DskAt w p bb n C L D∧(∀ g ∈ L,N≤g∧g<w.heap.size)∧(∀ g ∈ K,N≤g∧g<w.heap.size∧g ∉ L)∧∀ l ∈ ls,l ∈ K∧LogAt w l p
/-- What lies below N, and the kept blocks, have not turned. -/
structure Hd (N:Nat) (K:List Nat) (w w':World):Prop where
  bel:Below N w w'
  keep:∀ g ∈ K,w'.heap[g]?=w.heap[g]?
theorem Hd.refl (N:Nat) (K:List Nat) (w:World):Hd N K w w:=⟨Below.refl _ _,fun _ _=>rfl⟩
theorem Hd.trans {N:Nat} {K:List Nat} {a b c:World} (h:Hd N K a b) (k:Hd N K b c):Hd N K a c:=⟨h.bel.trans k.bel,fun g hg=>(k.keep g hg).trans (h.keep g hg)⟩
theorem Hd.less {N:Nat} {K K':List Nat} {a b:World} (h:Hd N K a b) (hk:∀ g ∈ K',g ∈ K):Hd N K' a b:=⟨h.bel,fun g hg=>h.keep g (hk g hg)⟩
section
variable {N p bb : Nat} {K ls : List Nat} {D : DskV} {w w' : World}
theorem Lw.hd (h:Lw N p bb K ls D w) (hN:N≤w.heap.size) (hb:Below w.heap.size w w'):Hd N K w w':=by
  obtain ⟨n,C,L,h1,h2,h3,h4⟩:=h
  exact ⟨hb.mono hN,fun g hg=>hb.block g (h3 g hg).2.1⟩
theorem Lw.below (h:Lw N p bb K ls D w) (hb:Below w.heap.size w w'):Lw N p bb K ls D w':=by
  obtain ⟨n,C,L,h1,h2,h3,h4⟩:=h
  exact ⟨n,C,L,h1.keep (fun g hg=>hb.block g (h2 g hg).2),fun g hg=>⟨(h2 g hg).1,Nat.lt_of_lt_of_le (h2 g hg).2 hb.size⟩,fun g hg=>⟨(h3 g hg).1,Nat.lt_of_lt_of_le (h3 g hg).2.1 hb.size,(h3 g hg).2.2⟩,fun l hl=>⟨(h4 l hl).1,(hb.block l (h3 l (h4 l hl).1).2.1).trans (h4 l hl).2⟩⟩
theorem Lw.less (h:Lw N p bb K ls D w) {ks:List Nat} (hk:∀ l ∈ ks,l ∈ ls):Lw N p bb K ks D w:=by
  obtain ⟨n,C,L,h1,h2,h3,h4⟩:=h
  exact ⟨n,C,L,h1,h2,h3,fun l hl=>h4 l (hk l hl)⟩
theorem Lw.syn (h:Lw N p bb K ls D w):∀ f ∈ D.fs,f.sy≤f.by_.length:=by
  obtain ⟨n,C,L,h1,h2,h3⟩:=h
  exact h1.syn
theorem Dk.lw (h:Dk N p bb D w):Lw N p bb [] [] D w:=by
  obtain ⟨n,C,L,h1,h2⟩:=h
  exact ⟨n,C,L,h1,h2,fun l hl=>(by cases hl),fun l hl=>(by cases hl)⟩
theorem Lw.lo {l:Nat} (h:Lw N p bb K ls D w) (hl:l ∈ ls) (hN:N≤w.heap.size) (hv:PVB N w):∃ L,LoR l p bb L D w w∧(∀ g ∈ L,N≤g∧g<w.heap.size)∧(∀ g ∈ K,N≤g∧g<w.heap.size∧g ∉ L)∧∀ l ∈ ls,l ∈ K∧LogAt w l p:=by
  obtain ⟨n,C,L,h1,h2,h3,h4⟩:=h
  exact ⟨L,⟨(h4 l hl).2,⟨L,n,C,h1,fun g hg=>⟨(h2 g hg).2,.inl hg⟩,(h3 l (h4 l hl).1).2.2⟩,Turns.refl _ _,⟨N,hv,hN,fun g hg=>(h2 g hg).1⟩⟩,h2,h3,h4⟩
theorem LoR.lw {l:Nat} {L:List Nat} {D':DskV} {y:World} (h:LoR l p bb L D' w y) (hN:N≤w.heap.size) (h2:∀ g ∈ L,N≤g∧g<w.heap.size) (h3:∀ g ∈ K,N≤g∧g<w.heap.size∧g ∉ L) (h4:∀ l ∈ ls,l ∈ K∧LogAt w l p):Lw N p bb K ls D' y∧Hd N K w y∧(N≤l→∀ q ∉ L,N≤q→q<w.heap.size→Lw N p bb (l::q::K) (l::ls) D' y):=by
  obtain ⟨L1,n,C,k1,k2,k3⟩:=h.dsk
  have hg1:∀ g ∈ L1,N≤g∧g<y.heap.size:=fun g hg=>⟨by
    rcases (k2 g hg).2 with q | q
    · exact (h2 g q).1
    · omega,(k2 g hg).1⟩
  have off:∀ g,g<w.heap.size→g ∉ L→g ∉ L1:=fun g hg hn q=>by
    rcases (k2 g q).2 with z | z
    · exact hn z
    · omega
  have hK1:∀ g ∈ K,N≤g∧g<y.heap.size∧g ∉ L1:=fun g hg=>⟨(h3 g hg).1,Nat.lt_of_lt_of_le (h3 g hg).2.1 h.t.size,off g (h3 g hg).2.1 (h3 g hg).2.2⟩
  have hkp:∀ g ∈ K,y.heap[g]?=w.heap[g]?:=fun g hg=>h.t.block g (h3 g hg).2.1 (h3 g hg).2.2
  have hl1:∀ l ∈ ls,l ∈ K∧LogAt y l p:=fun l hl=>⟨(h4 l hl).1,(hkp l (h4 l hl).1).trans (h4 l hl).2⟩
  refine ⟨⟨n,C,L1,k1,hg1,hK1,hl1⟩,⟨h.t.below (Below.refl _ _) hN (fun g hg=>(h2 g hg).1),hkp⟩,fun hNl g hg hNg hgs=>⟨n,C,L1,k1,hg1,fun q hq=>?_,fun q hq=>?_⟩⟩
  · rcases List.mem_cons.1 hq with rfl | hq
    · exact ⟨hNl,(Array.getElem?_eq_some_iff.1 h.log).1,k3⟩
    · rcases List.mem_cons.1 hq with rfl | hq
      · exact ⟨hNg,Nat.lt_of_lt_of_le hgs h.t.size,off _ hgs hg⟩
      · exact hK1 q hq
  · rcases List.mem_cons.1 hq with rfl | hq
    · exact ⟨List.mem_cons_self .., h.log⟩
    · exact ⟨List.mem_cons_of_mem _ (List.mem_cons_of_mem _ (hl1 q hq).1),(hl1 q hq).2⟩
theorem lw_new (N:Nat) (w:World) (hN:N≤w.heap.size):Calls Tryz.prog 17 #[] w fun e w'=>∃ p bb,e=.returned (.pointer (some ⟨p,0,none⟩))∧Lw N p bb [] [] dsk0 w'∧Below N w w':=by
  refine (new_dk N w hN).mono ?_
  rintro e w' ⟨p,bb,rfl,h,hb⟩
  exact ⟨p,bb,rfl,h.lw,hb⟩
theorem lw_act {R:DskV × Nat} {f:FuncId} {args:Array Value} (hN:N≤w.heap.size) (h:Lw N p bb K ls D w)
    (hc:∀ n C L,DskAt w p bb n C L D→(∀ g ∈ L,g<w.heap.size)→Calls Tryz.prog f args w (fun e w'=>∃ k,e=.returned (.int .i64 k)∧DkR p bb L R w k w')) :
    Calls Tryz.prog f args w fun e w'=>e=.returned (.int .i64 (R.2:Int))∧Lw N p bb K ls R.1 w'∧Hd N K w w':=by
  obtain ⟨n,C,L,h1,h2,h3,h4⟩:=h
  refine (hc n C L h1 (fun g hg=>(h2 g hg).2)).mono ?_
  rintro e w' ⟨k,rfl,rfl,n',C',L',hd,ht,hl⟩
  obtain ⟨L2,hd2,hl2⟩:=hd.trim
  have hkp:∀ g ∈ K,w'.heap[g]?=w.heap[g]?:=fun g hg=>ht.block g (h3 g hg).2.1 (h3 g hg).2.2
  refine ⟨rfl,⟨n',C',L2,hd2,fun g hg=>⟨?_,(hl2 g hg).2⟩,fun g hg=>⟨(h3 g hg).1,Nat.lt_of_lt_of_le (h3 g hg).2.1 ht.size,fun q=>?_⟩,fun l hls=>⟨(h4 l hls).1,(hkp l (h4 l hls).1).trans (h4 l hls).2⟩⟩,turns_below ht hN (fun g hg=>(h2 g hg).1),hkp⟩
  · rcases hl g (hl2 g hg).1 with q | q
    · exact (h2 g q).1
    · omega
  · rcases hl g (hl2 g q).1 with z | z
    · exact (h3 g hg).2.2 z
    · have:=(h3 g hg).2.1;omega
theorem lw_start (hN:N≤w.heap.size) (h:Lw N p bb K ls D w) :
    Calls Tryz.prog 22 #[.pointer (some ⟨p,0,none⟩)] w fun e w'=>e=.returned (.int .i64 0)∧Lw N p bb K ls { D with dead:=false } w'∧Hd N K w w':=by
  obtain ⟨n,C,L,h1,h2,h3,h4⟩:=h
  refine (start_any w h1).mono ?_
  rintro e w' ⟨rfl,hd,ht⟩
  have hkp:∀ g ∈ K,w'.heap[g]?=w.heap[g]?:=fun g hg=>ht.block g (h3 g hg).2.1 (h3 g hg).2.2
  exact ⟨rfl,⟨n,C,L,hd,fun g hg=>⟨(h2 g hg).1,Nat.lt_of_lt_of_le (h2 g hg).2 ht.size⟩,fun g hg=>⟨(h3 g hg).1,Nat.lt_of_lt_of_le (h3 g hg).2.1 ht.size,(h3 g hg).2.2⟩,fun l hl=>⟨(h4 l hl).1,(hkp l (h4 l hl).1).trans (h4 l hl).2⟩⟩,turns_below ht hN (fun g hg=>(h2 g hg).1),hkp⟩
theorem lw_add {l:Nat} (hl:l ∈ ls) (hN:N≤w.heap.size) (hv:PVB N w) (hlen:D.fs.length≤100000) (hsm:∀ x ∈ segL D.fs,x.1≤208) (x:ByteArray) (hx:x.size≤1000000) (h:Lw N p bb K ls D w) :
    Calls Tryz.prog 61 #[.pointer (some ⟨l,0,none⟩),.string x] w fun e w'=>e=.returned (.int .i64 ((laddD D x.data.toList).2:Int))∧Lw N p bb K ls (laddD D x.data.toList).1 w'∧Hd N K w w':=by
  obtain ⟨L,h1,h2,h3,h4⟩:=h.lo hl hN hv
  refine (ladd_any h1 hlen hsm x hx).mono ?_
  rintro e w' ⟨rfl,hq⟩
  obtain ⟨k1,k2,_⟩:=hq.lw hN h2 h3 h4
  exact ⟨rfl,k1,k2⟩
theorem lw_renew {l:Nat} (hl:l ∈ ls) (hN:N≤w.heap.size) (hv:PVB N w) (hlen:D.fs.length≤100000) (hsm:∀ x ∈ segL D.fs,x.1≤208) (rs:List Bs) (hrs:Oks rs) (hF:(frsL rs).length≤3000000) (v:Value) (hst:StrS w v rs)
    (hrem:(lnewD D rs).2=0→RemOk (lnewD D rs).1 (nmsL D)) (h:Lw N p bb K ls D w) :
    Calls Tryz.prog 35 #[.pointer (some ⟨l,0,none⟩),v] w fun e w'=>e=.returned (.int .i64 ((lrenD D rs).2:Int))∧Lw N p bb K ls (lrenD D rs).1 w'∧Hd N K w w':=by
  obtain ⟨L,h1,h2,h3,h4⟩:=h.lo hl hN hv
  refine (lrenew_any h1 hlen hsm rs hrs hF v hst hrem).mono ?_
  rintro e w' ⟨rfl,hq⟩
  obtain ⟨k1,k2,_⟩:=hq.lw hN h2 h3 h4
  exact ⟨rfl,k1,k2⟩
end
end Go.Proofs.YticjodhkmidljaaGreatDoor
namespace Go.Proofs.YticjodhkmidljaaGreatDoor
section
variable {D : DskV} {a : Nat} {P : List (List Bs)} {R : List Bs} {t : Bs} {y : Nat}
theorem Lg.nums (h:Lg D a P R t y):∀ x ∈ segL D.fs,x.1≤a+P.length:=fun x hx=>by
  rw [h.seg] at hx
  rcases List.mem_append.1 hx with q | q
  · obtain ⟨i,hi⟩:=List.getElem?_of_mem q
    have hl:=(List.getElem?_eq_some_iff.1 hi).1
    rw [whsN_len] at hl
    rw [whsN_at,List.getElem?_eq_getElem hl] at hi
    simp only [Option.map_some,Option.some.injEq] at hi
    rw [← hi]
    show a+i≤_
    omega
  · rw [List.mem_singleton.1 q]
    exact Nat.le_refl _
theorem LgT.nums {X:List Bs} {s c:Nat} (h:LgT D X s c) (hc:c≤200):∀ x ∈ segL D.fs,x.1≤208:=fun x hx=>by
  rcases h with ⟨h1,_⟩ | ⟨a,P,R,t,y,h1,_,_,h4⟩
  · rw [h1.fs] at hx
    cases hx
  · have:=h1.nums x hx
    omega
end
end Go.Proofs.YticjodhkmidljaaGreatDoor
namespace Go.Proofs.YticjodhkmidljaaGreatDoor
open Go.RowKit Go.Shelf
/-- A disk with logs, and the library's variables. -/
structure LwV (N p bb:Nat) (K ls:List Nat) (D:DskV) (w:World):Prop where
  lw:Lw N p bb K ls D w
  pv:PVB N w
  sz:N≤w.heap.size
theorem LwV.of {N p bb p' bb':Nat} {K ls K' ls':List Nat} {D D':DskV} {w w':World} (h:LwV N p bb K ls D w) (h2:Lw N p' bb' K' ls' D' w') (hb:Below N w w'):LwV N p' bb' K' ls' D' w':=⟨h2,h.pv.on hb,Nat.le_trans h.sz hb.size⟩
end Go.Proofs.YticjodhkmidljaaGreatDoor
namespace Go.Proofs.YticjodhkmidljaaGreatDoor
open Go.ChangeShapes Go.WideShapes Go.Deep Go.RowKit Go.Shelf
section
variable {N p bb : Nat} {K ls : List Nat} {D D' : DskV} {w : World} {X : List Bs} {s c k : Nat}
theorem LwV.below {w':World} (h:LwV N p bb K ls D w) (hb:Below w.heap.size w w'):LwV N p bb K ls D w':=h.of (h.lw.below hb) (hb.mono h.sz)
theorem lo_start (h:LwV N p bb K ls D w) :
    Calls Tryz.prog 22 #[.pointer (some ⟨p,0,none⟩)] w fun e w'=>e=.returned (.int .i64 0)∧LwV N p bb K ls { D with dead:=false } w'∧Hd N K w w':=by
  refine (lw_start h.sz h.lw).mono ?_
  rintro e w' ⟨rfl,h3,hb⟩
  exact ⟨rfl,h.of h3 hb.bel,hb⟩
theorem lo_new (N:Nat) (w:World) (hv:PVB N w) (hN:N≤w.heap.size):Calls Tryz.prog 17 #[] w fun e w'=>∃ p bb,e=.returned (.pointer (some ⟨p,0,none⟩))∧LwV N p bb [] [] dsk0 w'∧Below N w w':=by
  refine (lw_new N w hN).mono ?_
  rintro e w' ⟨p,bb,rfl,h,hb⟩
  exact ⟨p,bb,rfl,⟨h,hv.on hb,Nat.le_trans hN hb.size⟩,hb⟩
end
end Go.Proofs.YticjodhkmidljaaGreatDoor
namespace Go.Proofs.YticjodhkmidljaaGreatDoor
open Go.RowKit Go.Shelf
section
variable {N p bb S : Nat} {K ls : List Nat} {D D' : DskV} {b b' : Nat × Bs} {w w' : World}
theorem sto_lt (h:StoAt w S p b):S<w.heap.size:=(Array.getElem?_eq_some_iff.1 h).1
theorem lw_bopen (hN:N≤w.heap.size) (hv:PVB N w) (hlen:D.fs.length≤1000000) (hnl:∀ f ∈ D.fs,f.nm.length≤maxLen) (h:Lw N p bb K ls D w) (hdd:D.dead=false) (hs : ¬ spoilt (baseL D.fs)) (hD:rems D (rmN (baseL D.fs))=D') (hb:lastG (baseL D.fs)=b) :
    Calls Tryz.prog 23 #[.pointer (some ⟨p,0,none⟩)] w fun e w'=>∃ S,e=.returned (.tuple #[.pointer (some ⟨S,0,none⟩),.int .i64 0])∧Lw N p bb (S::K) ls D' w'∧StoAt w' S p b∧S ∉ K∧w.heap.size≤S∧Hd N K w w':=by
  obtain ⟨n,C,L,h1,h2,h3,h4⟩:=h
  refine (open_any hlen hnl w hv.here h1 (fun g hg=>(h2 g hg).2) hdd).mono ?_
  rintro e w' (⟨q,_⟩ | ⟨_,S,rfl,hst,hS,n',C',L',hd,ht,hl,hoff⟩)
  · exact (hs q).elim
  · rw [hb] at hst
    rw [hD] at hd
    have hkp:∀ g ∈ K,w'.heap[g]?=w.heap[g]?:=fun g hg=>ht.block g (h3 g hg).2.1 (h3 g hg).2.2
    refine ⟨S,rfl,⟨n',C',L',hd,fun g hg=>⟨?_,(hl g hg).2⟩,fun g hg=>?_,fun l hls=>⟨List.mem_cons_of_mem _ (h4 l hls).1,(hkp l (h4 l hls).1).trans (h4 l hls).2⟩⟩,hst,fun q=>?_,hS,⟨turns_below ht hN (fun g hg=>(h2 g hg).1),hkp⟩⟩
    · rcases (hl g hg).1 with z | z
      · exact (h2 g z).1
      · omega
    · rcases List.mem_cons.1 hg with rfl | hg
      · exact ⟨by omega,sto_lt hst,hoff⟩
      · refine ⟨(h3 g hg).1,Nat.lt_of_lt_of_le (h3 g hg).2.1 ht.size,fun q=>?_⟩
        rcases (hl g q).1 with z | z
        · exact (h3 g hg).2.2 z
        · have:=(h3 g hg).2.1
          omega
    · have:=(h3 S q).2.1
      omega
theorem lw_save (hN:N≤w.heap.size) (hv:PVB N w) (h:Lw N p bb (S::K) ls D w) (hst:StoAt w S p b) (hSK:S ∉ K) (hls:∀ l ∈ ls,l ∈ K) (slot:Nat) (x:ByteArray) (hs64:slot<18446744073709551616) (hb64:b.1<18446744073709551616) (hx:x.size≤1000000) {k:Nat} (he:saveB D b slot x.data.toList=(D',b',k)) :
    Calls Tryz.prog 31 #[.pointer (some ⟨S,0,none⟩),.int .u64 (slot:Int),.string x] w fun e w'=>e=.returned (.int .i64 (k:Int))∧Lw N p bb (S::K) ls D' w'∧StoAt w' S p b'∧Hd N K w w':=by
  obtain ⟨n,C,L,h1,h2,h3,h4⟩:=h
  have hS:=h3 S (List.mem_cons_self ..)
  have h5:=save_any N S p bb slot L D b x hs64 hb64 hx w hv hN hS.1 (fun g hg=>(h2 g hg).1) ⟨hst,⟨n,C,h1⟩,fun g hg=>(h2 g hg).2,hS.2.2⟩
  rw [he] at h5
  refine h5.mono ?_
  rintro e w' ⟨rfl,L1,hB,ht,hl⟩
  obtain ⟨n',C',hd⟩:=hB.dsk
  have hkp:∀ g ∈ K,w'.heap[g]?=w.heap[g]?:=fun g hg=>ht.block g (h3 g (List.mem_cons_of_mem _ hg)).2.1 (fun q=>by
    rcases List.mem_cons.1 q with rfl | q
    · exact hSK hg
    · exact (h3 g (List.mem_cons_of_mem _ hg)).2.2 q)
  refine ⟨rfl,⟨n',C',L1,hd,fun g hg=>⟨?_,hB.lt g hg⟩,fun g hg=>⟨(h3 g hg).1,Nat.lt_of_lt_of_le (h3 g hg).2.1 ht.size,fun q=>?_⟩,fun l hl2=>⟨(h4 l hl2).1,(hkp l (hls l hl2)).trans (h4 l hl2).2⟩⟩,hB.sto,⟨turns_below ht hN (fun g hg=>?_),hkp⟩⟩
  · rcases hl g hg with z | z
    · exact (h2 g z).1
    · omega
  · rcases hl g q with z | z
    · exact (h3 g hg).2.2 z
    · have:=(h3 g hg).2.1
      omega
  · rcases List.mem_cons.1 hg with rfl | hg
    · exact hS.1
    · exact (h2 g hg).1
end
end Go.Proofs.YticjodhkmidljaaGreatDoor
namespace Go.Proofs.YticjodhkmidljaaGreatDoor
theorem stF_lo (b:Nat × Bs):LoS (stF b):=fun f hf=>by
  unfold stF at hf
  split at hf
  · cases hf
  · rw [List.mem_singleton.1 hf]
    rfl
theorem stF_sync (b:Nat × Bs):∀ f ∈ stF b,f.sy=f.by_.length:=fun f hf=>by
  unfold stF at hf
  split at hf
  · cases hf
  · rw [List.mem_singleton.1 hf]
    rfl
theorem LgT.sum {V:DskV} {X:List Bs} {s c:Nat} (h:LgT V X s c):V.room+totF V.fs=4194304:=by
  rcases h with ⟨h1,_,_⟩ | ⟨a,P,R,t,y,h1,_⟩
  · rw [h1.fs,h1.room];rfl
  · exact h1.sum
theorem LgT.rise {V:DskV} {X:List Bs} {s c:Nat} (h:LgT V X s c):Rise V.fs:=by
  rcases h with ⟨h1,_,_⟩ | ⟨a,P,R,t,y,h1,_⟩
  · rw [h1.fs];exact List.Pairwise.nil
  · exact h1.rise
/-- A base, and a log of X, of which s records are durable; t: its end may be torn. -/
structure TwoT (D:DskV) (b:Nat × Bs) (X:List Bs) (s c:Nat):Prop where
  log:∃ V,HiOf (stF b) D V∧LgT V X s c
  b64:b.1<18446744073709551616
  len:b.2.length≤20000
  zero:b.1=0→b.2=[]
structure Two (D:DskV) (b:Nat × Bs) (X:List Bs) (s c:Nat):Prop where
  log:∃ V,HiOf (stF b) D V∧LgS V X s c
  b64:b.1<18446744073709551616
  len:b.2.length≤20000
  zero:b.1=0→b.2=[]
section
variable {D : DskV} {b : Nat × Bs} {X : List Bs} {s c : Nat}
theorem Two.t (h:Two D b X s c):TwoT D b X s c:=by
  obtain ⟨V,h1,h2⟩:=h.log
  exact ⟨⟨V,h1,h2.t⟩,h.b64,h.len,h.zero⟩
theorem two0:Two dsk0 (0,[]) [] 0 0:=⟨⟨dsk0,⟨rfl,rfl,rfl,rfl,stF_lo _,fun _ h=>by cases h⟩,.inl ⟨⟨rfl,rfl⟩,rfl,rfl⟩⟩,by decide,by decide,fun _=>rfl⟩
theorem Two.wide (h:Two D b X s c) {c':Nat} (hc:c≤c'):Two D b X s c':=by
  obtain ⟨V,h1,h2⟩:=h.log
  exact ⟨⟨V,h1,h2.wide hc⟩,h.b64,h.len,h.zero⟩
/-- The base's view. -/
theorem TwoT.base (h:TwoT D b X s c) (hd:D.dead=false):∃ S Vb,LoOf S D Vb∧StoW Vb b∧D.fs=stF b++S∧∀ D' b' Vb',LoOf S D' Vb'→Vb'.fs=stF b'→Vb'.room+totF Vb'.fs=4194304→∃ V',HiOf (stF b') D' V'∧LgT V' X s c:=by
  obtain ⟨V,h1,h2⟩:=h.log
  refine ⟨V.fs,{ fs:=stF b,room:=D.room+totF V.fs,fuse:=D.fuse,dead:=D.dead },⟨h1.fs,rfl,rfl,rfl,stF_lo b,h1.hi⟩,⟨hd,rfl,h.b64,h.len,h.zero,?_⟩,h1.fs,fun D' b' Vb' k1 k2 k3=>?_⟩
  · show D.room+totF V.fs+totF (stF b)=4194304
    have:=h1.room
    have:=h2.sum
    omega
  · refine ⟨{ fs:=V.fs,room:=V.room,fuse:=D'.fuse,dead:=D'.dead },⟨by rw [k1.fs,k2],?_,rfl,rfl,stF_lo b',h1.hi⟩,h2.same rfl rfl⟩
    show D'.room+totF (stF b')=V.room
    have e1:=k1.room
    have e2:=h2.sum
    rw [k2] at k3
    omega
theorem Two.base (h:Two D b X s c) (hd:D.dead=false):∃ S Vb,LoOf S D Vb∧StoW Vb b∧D.fs=stF b++S∧((∀ f ∈ S,f.nm.length≤maxLen)∧S.length≤200)∧∀ D' b' Vb',LoOf S D' Vb'→Vb'.fs=stF b'→Vb'.room+totF Vb'.fs=4194304→∃ V',HiOf (stF b') D' V'∧LgS V' X s c:=by
  obtain ⟨V,h1,h2⟩:=h.log
  refine ⟨V.fs,{ fs:=stF b,room:=D.room+totF V.fs,fuse:=D.fuse,dead:=D.dead },⟨h1.fs,rfl,rfl,rfl,stF_lo b,h1.hi⟩,⟨hd,rfl,h.b64,h.len,h.zero,?_⟩,h1.fs,⟨fun f hf=>Nat.le_trans (h2.t.names.1 f hf) (by decide),h2.t.names.2⟩,fun D' b' Vb' k1 k2 k3=>?_⟩
  · show D.room+totF V.fs+totF (stF b)=4194304
    have:=h1.room
    have:=h2.t.sum
    omega
  · refine ⟨{ fs:=V.fs,room:=V.room,fuse:=D'.fuse,dead:=D'.dead },⟨by rw [k1.fs,k2],?_,rfl,rfl,stF_lo b',h1.hi⟩,h2.same rfl rfl⟩
    show D'.room+totF (stF b')=V.room
    have e1:=k1.room
    have e2:=h2.t.sum
    rw [k2] at k3
    omega
theorem TwoT.room (h:TwoT D b X s c) {M:Nat} (hX:∀ V,HiOf (stF b) D V→LgT V X s c→totF V.fs≤M):4174269≤D.room+M∧D.fs.length≤201:=by
  obtain ⟨V,h1,h2⟩:=h.log
  have e1:=h1.room
  have e2:=h2.sum
  have e3:=hX V h1 h2
  have e4:=stF_totW h.len
  have e5:=congrArg List.length h1.fs
  have e6:=stF_len b
  have e7:=h2.names.2
  rw [List.length_append] at e5
  omega
theorem LgS.tot {V:DskV} (h:LgS V X s c):totF V.fs=(frsL X).length:=by
  have h1:=h.room
  have h2:=h.t.sum
  omega
theorem Two.big (h:Two D b X s c):4174269≤D.room+(frsL X).length∧D.fs.length≤201:=h.t.room (fun V k1 k2=>by
  obtain ⟨W,w1,w2⟩:=h.log
  have e1:=k1.fs
  rw [w1.fs] at e1
  rw [← List.append_cancel_left e1,w2.tot]
  exact Nat.le_refl _)
/-- Save: the base is the new one, or the power has gone. -/
theorem two_save (h:Two D b X s c) (hd:D.dead=false) (hF:(frsL X).length≤4000000) {slot:Nat} {t:Bs} (hlt:b.1<slot) (hs:slot<18446744073709551616) (ht:t.length≤20000) :
    (∃ D',saveB D b slot t=(D',(slot,t),0)∧Two D' (slot,t) X s c∧D'.dead=false∧(D.fuse=none→D'.fuse=none)) ∨
    (D.fuse≠none∧∃ D' S Vb,saveB D b slot t=(D',b,9)∧D'.dead=true∧D'.fuse=none∧((∀ f ∈ S,f.nm.length≤maxLen)∧S.length≤200)∧LoOf S D' Vb∧TornW Vb b slot t∧∀ E Eb,LoOf S E Eb→Eb.fs=stF b→Eb.room+totF Eb.fs=4194304→∃ V',HiOf (stF b) E V'∧LgS V' X s c):=by
  obtain ⟨S,Vb,h1,h2,h3,h5,h4⟩:=h.base hd
  have hrm:=h.big
  have hX:=(frI_lenW (slot:=slot) ht).1
  rcases save_stoW h2 hlt hs ht with ⟨V',e1,k1,f1⟩ | ⟨n1,V',e1,k1⟩
  · obtain ⟨D',e2,k2⟩:=lo_save h1 (by omega) (by omega) e1
    obtain ⟨W,w1,w2⟩:=h4 D' (slot,t) V' k2 k1.fs k1.sum
    refine .inl ⟨D',e2,⟨⟨W,w1,w2⟩,hs,ht,fun q=>?_⟩,by rw [k2.dead];exact k1.dead,fun q=>by rw [k2.fuse];exact f1 (by rw [← h1.fuse];exact q)⟩
    have q':slot=0:=q
    omega
  · obtain ⟨D',e2,k2⟩:=lo_save h1 (by omega) (by omega) e1
    exact .inr ⟨by rw [h1.fuse];exact n1,D',S,V',e2,by rw [k2.dead];exact k1.dead,by rw [k2.fuse];exact k1.fuse,h5,k2,k1,fun E Eb g1 g2 g3=>h4 E b Eb g1 g2 g3⟩
theorem two_add (h:Two D b X s c) (hd:D.dead=false) (hc:c≤190) {r:Bs} (hr:frOk r) (hF:(frL r).length+(frsL X).length≤4000000) :
    (∃ D' s',laddD D r=(D',0)∧Two D' b (X++[r]) s' (c+1)∧s≤s'∧D'.dead=false∧(D.fuse=none→D'.fuse=none)) ∨
    (∃ D' X' s',laddD D r=(D',9)∧TwoT D' b X' s' (c+1)∧X <+: X'∧X' <+: X++[r]∧s≤s'∧D'.dead=true∧D'.fuse=none∧D.fuse≠none):=by
  have hrm:=h.big
  obtain ⟨V,h1,h2⟩:=h.log
  rcases lgs_add h2 (by rw [← h1.dead];exact hd) hc hr (by omega) with ⟨V',s',e1,g1,q1,d1,f1⟩ | ⟨V',X',s',e1,g1,p1,p2,q1,d1,f1,n1⟩
  · obtain ⟨D',e2,k2⟩:=hi_ladd h1 (by omega) (by omega) e1
    exact .inl ⟨D',s',e2,⟨⟨V',k2,g1⟩,h.b64,h.len,h.zero⟩,q1,by rw [k2.dead];exact d1,fun q=>by rw [k2.fuse];exact f1 (by rw [← h1.fuse];exact q)⟩
  · obtain ⟨D',e2,k2⟩:=hi_ladd h1 (by omega) (by omega) e1
    exact .inr ⟨D',X',s',e2,⟨⟨V',k2,g1⟩,h.b64,h.len,h.zero⟩,p1,p2,q1,by rw [k2.dead];exact d1,by rw [k2.fuse];exact f1,by rw [h1.fuse];exact n1⟩
/-- base.Open finds the base, and takes nothing away. -/
theorem two_bopen (h:TwoT D b X s c) (hd:D.dead=false) : ¬ spoilt (baseL D.fs)∧lastG (baseL D.fs)=b∧rems D (rmN (baseL D.fs))=D∧D.fs.length≤201∧∀ f ∈ D.fs,f.nm.length≤maxLen:=by
  have hlg:=h.log
  obtain ⟨S,Vb,h1,h2,h3, -⟩:=h.base hd
  obtain ⟨o1,o2,o3⟩:=open_stoW h2
  have hb:=h1.base
  have hfs:D.fs.length≤201∧∀ f ∈ D.fs,f.nm.length≤maxLen:=by
    obtain ⟨V,k1,k2⟩:=hlg
    have e6:=stF_len b
    have e7:=k2.names
    rw [k1.fs]
    refine ⟨by rw [List.length_append];omega,fun f hf=>?_⟩
    rcases List.mem_append.1 hf with q | q
    · exact stF_nm b f q
    · exact Nat.le_trans (e7.1 f q) (by decide)
  rw [hb]
  refine ⟨o1,o2,?_,hfs⟩
  have k:=lo_rems (rmN (baseL Vb.fs)) h1 (fun nm hn=>by
    have hall:∀ x ∈ baseL Vb.fs,x.2.nm.headD 0=98:=fun x hx=>by
      obtain ⟨f,hf,hx2⟩:=List.mem_filterMap.1 hx
      obtain ⟨n, -, rfl⟩:=Option.map_eq_some_iff.1 hx2
      exact h1.lo f hf
    unfold rmN at hn
    rcases List.mem_append.1 hn with q | q
    · obtain ⟨x,hx,rfl⟩:=List.mem_map.1 q
      exact hall x (List.mem_filter.1 hx).1
    · obtain ⟨x,hx,rfl⟩:=List.mem_map.1 ((List.dropLast_prefix _).subset q)
      exact hall x (List.mem_filter.1 hx).1)
  rw [o3] at k
  generalize rems D (rmN (baseL Vb.fs))=E at k
  have f1:E.fs=D.fs:=by rw [k.fs,h1.fs]
  have f2:E.room=D.room:=by
    have:=k.room
    have:=h1.room
    omega
  have f3:E.fuse=D.fuse:=by rw [k.fuse,h1.fuse]
  have f4:E.dead=D.dead:=by rw [k.dead,h1.dead]
  cases E
  cases D
  simp only at f1 f2 f3 f4
  rw [f1,f2,f3,f4]
theorem two_lopen (h:TwoT D b X s c) (hd:D.dead=false):∃ D',lopenD D=(D',0)∧Two D' b X X.length c∧D'.dead=false∧D'.fuse=D.fuse ∧ ¬ Spoilt (segL D.fs)∧recL (segL D.fs)=X:=by
  obtain ⟨V,h1,h2⟩:=h.log
  obtain ⟨V',e1,g1,d1,f1⟩:=lgt_open h2 (by rw [← h1.dead];exact hd)
  obtain ⟨D',e2,k2⟩:=hi_lopen h1 e1
  have hg:=h2.good
  exact ⟨D',e2,⟨⟨V',k2,g1⟩,h.b64,h.len,h.zero⟩,by rw [k2.dead];exact d1,by rw [k2.fuse,f1,h1.fuse],by rw [h1.seg];exact hg.1,by rw [h1.seg];exact hg.2⟩
end
end Go.Proofs.YticjodhkmidljaaGreatDoor
namespace Go.Proofs.YticjodhkmidljaaGreatDoor
section
variable {D : DskV} {b : Nat × Bs} {X : List Bs} {s c : Nat}
theorem two_renew (h:Two D b X s c) (hd:D.dead=false) (hc:c≤190) {rs:List Bs} (hr:Oks rs) (hF:(frsL rs).length+(frsL X).length≤4000000) :
    (∃ D1 D',lnewD D rs=(D1,0)∧RemOk D1 (nmsL D)∧lrenD D rs=(D',0)∧Two D' b rs rs.length (c+1)∧D'.dead=false∧(D.fuse=none→D'.fuse=none)) ∨
    (∃ D' j,lnewD D rs=(D',9)∧lrenD D rs=(D',9)∧TwoT D' b (X++rs.take j) X.length (c+1)∧D'.dead=true∧D'.fuse=none∧D.fuse≠none):=by
  have hrm:=h.big
  obtain ⟨V,h1,h2⟩:=h.log
  rcases lgs_renew h2 (by rw [← h1.dead];exact hd) hc hr (by omega) with ⟨V',n,e1,r1,g1,hn,d1,f1⟩ | ⟨V',j,e1,g1,d1,f1,n1⟩
  · obtain ⟨D1,e2,k2⟩:=hi_lnew h1 (by omega) (by omega) e1
    have e3:lrenD V rs=(rems V' (nmsL V),0):=by unfold lrenD;rw [e1,if_pos rfl]
    obtain ⟨D',e4,k4⟩:=hi_lren h1 (by omega) (by omega) e3
    refine .inl ⟨D1,D',e2,⟨by rw [k2.dead];exact r1.dead,by rw [h1.nms];exact r1.nd,fun nm hm=>?_⟩,e4,⟨⟨_,k4,.inr ⟨n,[],rs,rs.length,g1,by simp,by simp,by simp;omega⟩⟩,h.b64,h.len,h.zero⟩,by rw [k4.dead];exact d1,fun q=>by rw [k4.fuse];exact f1 (by rw [← h1.fuse];exact q)⟩
    rw [h1.nms] at hm
    obtain ⟨f,hf,hn⟩:=r1.mem nm hm
    exact ⟨f,by rw [k2.fs];exact List.mem_append_right _ hf,hn⟩
  · obtain ⟨D1,e2,k2⟩:=hi_lnew h1 (by omega) (by omega) e1
    exact .inr ⟨D1,j,e2,by unfold lrenD;rw [e2,if_neg (by simp)],⟨⟨V',k2,g1⟩,h.b64,h.len,h.zero⟩,by rw [k2.dead];exact d1,by rw [k2.fuse];exact f1,by rw [h1.fuse];exact n1⟩
theorem two_crash (h:Two D b X s c) (hd:D.dead=false) (n:Int) (hsy:∀ f ∈ D.fs,f.sy≤f.by_.length) :
    ∃ D' X',crashD D n=(D',0)∧TwoT D' b X' s c∧X' <+: X∧s≤X'.length∧D'.dead=true∧D'.fuse=none:=by
  obtain ⟨V,h1,h2⟩:=h.log
  have hsv:∀ f ∈ V.fs,f.sy≤f.by_.length:=fun f hf=>hsy f (by rw [h1.fs];exact List.mem_append_right _ hf)
  obtain ⟨V',X',e1,g1,p1,p2,d1,f1⟩:=lgs_crash h2 (by rw [← h1.dead];exact hd) n hsv
  obtain ⟨D',e2,k2⟩:=hi_crash h1 (stF_rise b) h2.t.rise (stF_sync b) hsv (by rw [← h1.dead];exact hd) e1
  exact ⟨D',X',e2,⟨⟨V',k2,g1⟩,h.b64,h.len,h.zero⟩,p1,p2,by rw [k2.dead];exact d1,by rw [k2.fuse];exact f1⟩
theorem TwoT.start (h:TwoT D b X s c):TwoT { D with dead:=false } b X s c:=by
  obtain ⟨V,h1,h2⟩:=h.log
  exact ⟨⟨{ V with dead:=false },⟨h1.fs,h1.room,h1.fuse,rfl,h1.lo,h1.hi⟩,h2.same rfl rfl⟩,h.b64,h.len,h.zero⟩
theorem Two.start (h:Two D b X s c):Two { D with dead:=false } b X s c:=by
  obtain ⟨V,h1,h2⟩:=h.log
  exact ⟨⟨{ V with dead:=false },⟨h1.fs,h1.room,h1.fuse,rfl,h1.lo,h1.hi⟩,h2.same rfl rfl⟩,h.b64,h.len,h.zero⟩
end
end Go.Proofs.YticjodhkmidljaaGreatDoor
namespace Go.Proofs.YticjodhkmidljaaGreatDoor
open Go.RowKit Go.Shelf
open Go.ChangeMaps Go.MapKept
theorem any_struck {H:Type} (q:Lit→Bool) (l:Lit):∀ es:List (Lit × DataW H),(es.filter fun p => !q p.1).any (fun p=>p.1.sameKey l)=(es.any (fun p=>p.1.sameKey l) && !q l)
  | []=>rfl
  | x::r=>by
    have ih:=any_struck q l r
    by_cases hq:q x.1=true
    · rw [List.filter_cons_of_neg (by simp [hq]),ih,List.any_cons]
      by_cases hs:x.1.sameKey l=true
      · have e:=WideAt.sameKey_eq hs
        rw [e] at hq
        simp [hq]
      · simp [hs]
    · rw [List.filter_cons_of_pos (by simp [hq]),List.any_cons,ih,List.any_cons]
      by_cases hs:x.1.sameKey l=true
      · have e:=WideAt.sameKey_eq hs
        rw [e] at hq
        simp [hs,hq]
      · simp [hs]
theorem find_struck {H:Type} (q:Lit→Bool) {l:Lit} (hl:q l=false):∀ es:List (Lit × DataW H),(es.filter fun p => !q p.1).find? (fun p=>p.1.sameKey l)=es.find? (fun p=>p.1.sameKey l)
  | []=>rfl
  | x::r=>by
    have ih:=find_struck q hl r
    by_cases hq:q x.1=true
    · rw [List.filter_cons_of_neg (by simp [hq]),ih]
      by_cases hs:x.1.sameKey l=true
      · have e:=WideAt.sameKey_eq hs
        rw [e,hl] at hq
        cases hq
      · rw [List.find?_cons_of_neg (by simpa using hs)]
    · rw [List.filter_cons_of_pos (by simp [hq])]
      by_cases hs:x.1.sameKey l=true
      · rw [List.find?_cons_of_pos (by simpa using hs),List.find?_cons_of_pos (by simpa using hs)]
      · rw [List.find?_cons_of_neg (by simpa using hs),List.find?_cons_of_neg (by simpa using hs),ih]
theorem has_struck {H:Type} (pd:Lit→DataW H→Bool) (q:Lit→Bool) (hpd:∀ kl d,pd kl d=q kl) (D:DataW H) (l:Lit):Maps.has (Lib.deleteFuncD pd D) l=(Maps.has D l && !q l):=by
  obtain rfl:pd=fun kl _=>q kl:=funext fun kl=>funext fun d=>hpd kl d
  cases D with
  | map es=>exact any_struck q l es
  | _=>rfl
theorem at_struck {H:Type} (pd:Lit→DataW H→Bool) (q:Lit→Bool) (hpd:∀ kl d,pd kl d=q kl) (D:DataW H) {l:Lit} (hl:q l=false) (z:DataW H):(Lib.deleteFuncD pd D).atKey l z=D.atKey l z:=by
  obtain rfl:pd=fun kl _=>q kl:=funext fun kl=>funext fun d=>hpd kl d
  cases D with
  | map es =>
    show (match (es.filter fun p => !q p.1).find? (fun p=>p.1.sameKey l) with | some p=>p.2 | none=>z)=(match es.find? (fun p=>p.1.sameKey l) with | some p=>p.2 | none=>z)
    rw [find_struck q hl]
  | _=>rfl
def mpLow (slot:Nat):Lit→Bool
  | .int _ a=>decide (a≤(slot:Int))
  | _=>false
theorem mpV_drop (D:Nat→Option VoR) (slot:Nat) (l:Lit):mpV (fun s=>if slot<s then D s else none) l=if mpLow slot l=true then none else mpV D l:=by
  cases l with
  | int q a =>
    by_cases hu:q=.u64
    · subst hu
      show (if 0≤a then Option.map (voV a.toNat) (if slot<a.toNat then D a.toNat else none) else none)=if mpLow slot (.int .u64 a)=true then none else (if 0≤a then (D a.toNat).map (voV a.toNat) else none)
      by_cases h:a≤(slot:Int)
      · rw [if_pos (show mpLow slot (.int .u64 a)=true from decide_eq_true h)]
        by_cases h0:0≤a
        · have hn : ¬ slot<a.toNat:=by omega
          rw [if_pos h0,if_neg hn]
          rfl
        · rw [if_neg h0]
      · rw [if_neg (show ¬ mpLow slot (.int .u64 a)=true from fun q=>h (of_decide_eq_true q))]
        by_cases h0:0≤a
        · rw [if_pos h0,if_pos h0,if_pos (by omega)]
        · rw [if_neg h0,if_neg h0]
    · cases q <;> first | exact (hu rfl).elim | simp [mpV]
  | _=>simp [mpV,mpLow]
theorem mp_struck {w':World} {g n:Nat} {D0:DataW Value} {M:Nat→Option VoR} (pd:Lit→DataW Value→Bool) (slot:Nat) (hpd:∀ kl d,pd kl d=mpLow slot kl)
    (hM:∀ l,WideAt.IsKeyLit l→Maps.has D0 l=(mpV M l).isSome∧∀ v,mpV M l=some v→∀ z,D0.atKey l z=.held v) (ho:w'.ownsMap Tryz.prog 22 Rv g n (Lib.deleteFuncD pd D0)) :
    MpAt Tryz.prog 22 w' g n (mpV (fun s=>if slot<s then M s else none)):=by
  refine ⟨_,ho,fun l hl=>?_⟩
  rw [mpV_drop]
  by_cases hq:mpLow slot l=true
  · rw [if_pos hq,has_struck pd _ hpd,hq]
    exact ⟨by simp,fun v hv=>by cases hv⟩
  · have hq':mpLow slot l=false:=by simpa using hq
    rw [if_neg hq,has_struck pd _ hpd,hq']
    exact ⟨by simpa using (hM l hl).1,fun v hv z=>by rw [at_struck pd _ hpd D0 hq'];exact (hM l hl).2 v hv z⟩
section
variable {N p bb k g S l n : Nat} {Q K ls : List Nat} {D D' : DskV} {b b' : Nat × Bs} {V : KepV} {w w' : World}
theorem Lw.but (h:Lw N p bb K ls D w) (hb:ButTwo k g w w') (hk:k ∈ K) (hg:g ∈ K) (hkl:k ∉ ls) (hgl:g ∉ ls):Lw N p bb K ls D w':=by
  obtain ⟨m,C,L,h1,h2,h3,h4⟩:=h
  have hne:∀ x,x ∈ L→x≠k∧x≠g:=fun x hx=>⟨fun e=>(h3 k hk).2.2 (e ▸ hx),fun e=>(h3 g hg).2.2 (e ▸ hx)⟩
  exact ⟨m,C,L,h1.keep (fun x hx=>hb.block x (h2 x hx).2 (hne x hx).1 (hne x hx).2),fun x hx=>⟨(h2 x hx).1,Nat.lt_of_lt_of_le (h2 x hx).2 hb.size⟩,fun x hx=>⟨(h3 x hx).1,Nat.lt_of_lt_of_le (h3 x hx).2.1 hb.size,(h3 x hx).2.2⟩,fun x hx=>⟨(h4 x hx).1,(hb.block x (h3 x (h4 x hx).1).2.1 (fun e=>hkl (e ▸ hx)) (fun e=>hgl (e ▸ hx))).trans (h4 x hx).2⟩⟩
/-- A disk, a store, a log, a keep over them; Q: other blocks that are kept. -/
structure KpI (N p bb k S l g n:Nat) (Q:List Nat) (D:DskV) (b:Nat × Bs) (V:KepV) (w:World):Prop where
  lw:LwV N p bb (S::k::g::l::Q) [l] D w
  sto:StoAt w S p b
  kep:KepAt w k S l g n V
  off:S ∉ Q∧k ∉ Q∧g ∉ Q∧l ∉ Q
theorem KpI.log (h:KpI N p bb k S l g n Q D b V w):LogAt w l p:=by
  obtain ⟨m,C,L,h1,h2,h3,h4⟩:=h.lw.lw
  exact (h4 l (by simp)).2
theorem KpI.ne (h:KpI N p bb k S l g n Q D b V w):S ∉ k::g::l::Q∧k≠l∧g≠l∧k≠g:=by
  have h1:=h.sto
  have h2:=h.kep.row
  have h3:=h.log
  have hg:∀ o:Obj,w.heap[g]?=some o→∃ es cl,o=.map es cl:=fun o ho=>by
    obtain ⟨_,⟨es,cl,hg,_⟩,_⟩:=h.kep.mp
    rw [hg] at ho
    cases ho
    exact ⟨_,_,rfl⟩
  have hSk:S≠k:=by
    rintro rfl
    have e:=h1.symm.trans h2
    injection e with e
    injection e with e1 e2
    exact absurd e2 (by decide)
  have hSl:S≠l:=by
    rintro rfl
    have e:=h1.symm.trans h3
    injection e with e
    injection e with e1 e2
    exact absurd e2 (by decide)
  have hkl:k≠l:=by
    rintro rfl
    have e:=h2.symm.trans h3
    injection e with e
    injection e with e1 e2
    exact absurd e2 (by decide)
  have hSg:S≠g:=by
    rintro rfl
    obtain ⟨_,_,e⟩:=hg _ h1
    cases e
  have hgl:g≠l:=by
    rintro rfl
    obtain ⟨_,_,e⟩:=hg _ h3
    cases e
  exact ⟨by simp [hSk,hSg,hSl,h.off.1],hkl,hgl,h.kep.ne⟩
theorem KpI.below (h:KpI N p bb k S l g n Q D b V w) (hb:Below w.heap.size w w'):KpI N p bb k S l g n Q D b V w' :=
  ⟨h.lw.below hb,(hb.block S (sto_lt h.sto)).trans h.sto,h.kep.below hb,h.off⟩
theorem KpI.wide (h:KpI N p bb k S l g n Q D b V w) {m:Nat} (hm:n≤m):KpI N p bb k S l g m Q D b V w:=⟨h.lw,h.sto,h.kep.wide hm,h.off⟩
/-- The disk has turned; store and keep have not. -/
theorem KpI.disk (h:KpI N p bb k S l g n Q D b V w) (h2:LwV N p bb (S::k::g::l::Q) [l] D' w') (hh:Hd N (S::k::g::l::Q) w w'):KpI N p bb k S l g n Q D' b V w' :=
  ⟨h2,(hh.keep S (by simp)).trans h.sto,h.kep.stay (hh.keep k (by simp)) (hh.keep g (by simp)),h.off⟩
/-- The keep has turned; nothing else has. -/
theorem KpI.turn {V':KepV} {m:Nat} (h:KpI N p bb k S l g n Q D b V w) (hb:ButTwo k g w w') (hk:KepAt w' k S l g m V'):KpI N p bb k S l g m Q D b V' w'∧Hd N Q w w':=by
  have hn:=h.ne
  obtain ⟨m0,C,L,h1,h2,h3,h4⟩:=h.lw.lw
  have hkN:N≤k:=(h3 k (by simp)).1
  have hgN:N≤g:=(h3 g (by simp)).1
  have hbel:Below N w w':=hb.below (Below.refl _ _) h.lw.sz hkN hgN
  refine ⟨⟨⟨h.lw.lw.but hb (by simp) (by simp) (by simp [hn.2.1]) (by simp [hn.2.2.1]),h.lw.pv.on hbel,Nat.le_trans h.lw.sz hb.size⟩,(hb.block S (sto_lt h.sto) (fun e=>hn.1 (by simp [e])) (fun e=>hn.1 (by simp [e]))).trans h.sto,hk,h.off⟩,hbel,fun x hx=>hb.block x (h3 x (by simp [hx])).2.1 (fun e=>h.off.2.1 (e ▸ hx)) (fun e=>h.off.2.2.1 (e ▸ hx))⟩
theorem KpI.hd (h:KpI N p bb k S l g n Q D b V w) (hb:Below w.heap.size w w'):Hd N Q w w':=(h.lw.lw.hd h.lw.sz hb).less (fun x hx=>by simp [hx])
end
end Go.Proofs.YticjodhkmidljaaGreatDoor
namespace Go.Proofs.YticjodhkmidljaaGreatDoor
section
variable {P P' : List BalV} {G G' : List VotV} {X Y : List RecK} {base b1 : Nat} {K Ks : KepV} {L : List VotV}
theorem drop_ok (h:KepOk base K):KepOk b1 (K.drop b1):=by
  refine ⟨fun s p hs=>?_,fun s p hs=>?_⟩
  · have hs':(if b1<s then K.vs s else Option.none)=some p:=hs
    split at hs'
    · assumption
    · cases hs'
  · have hs':(if b1<s then K.vs s else Option.none)=some p:=hs
    split at hs'
    · exact h.top s p hs'
    · cases hs'
end
end Go.Proofs.YticjodhkmidljaaGreatDoor
namespace Go.Proofs.YticjodhkmidljaaGreatDoor
section
variable {base b1 : Nat} {K : KepV}
/-- A vote that may be given, and is no elder one's, is taken in. -/
theorem vote_in (h:KepOk base K) {v:VotV} (hp : ¬ balLt v.b K.pr) (hs:base<v.slot) (hn:∀ p,K.vs v.slot=some p→p.1≠v.b):(K.take base (.vot v)).vs v.slot=some (v.b,v.v):=by
  have hm:K.may base v:=⟨hs,fun p hq=>by
    by_cases c:balLt p.1 v.b
    · exact c
    · exact absurd (bal_eq c (le_le (h.top _ _ hq) hp)) (hn p hq)⟩
  rw [take_vs,if_pos ⟨rfl,hm⟩]
end
/-- The bytes of records' frames, each of at most 20,000 bytes of value. -/
theorem frs_len:∀ (X:List RecK),(∀ x ∈ X,(recB x).length≤20030)→(frsL (X.map recB)).length≤20047*X.length
  | [],_=>Nat.le_refl _
  | x::r,h=>by
    have h1:=frs_len r (fun y hy=>h y (List.mem_cons_of_mem _ hy))
    have h2:=h x (List.mem_cons_self ..)
    have h3:=numL_len (recB x).length
    rw [List.map_cons,frsL_cons,List.length_append,frL_len,List.length_cons]
    omega
theorem rec_short {x:RecK} (h:∀ v,x=.vot v→v.v.length≤20000):(recB x).length≤20030∧frOk (recB x):=by
  have h1:=recB_len x
  cases x with
  | pro b =>
    dsimp only at h1
    exact ⟨by omega,by omega,by omega⟩
  | vot v =>
    have h2:=h v rfl
    dsimp only at h1
    exact ⟨by omega,by omega,by omega⟩
end Go.Proofs.YticjodhkmidljaaGreatDoor
namespace Go.Proofs.YticjodhkmidljaaGreatDoor
/-- A log that an act may be added to. -/
def SegOk (D:DskV):Prop:=D.fs.length≤100000∧∀ x ∈ segL D.fs,x.1≤208
def kMay (V:KepV) (x:BalV):Prop:=balOk x ∧ ¬ balLt x V.pr
instance (x:BalV):Decidable (balOk x):=inferInstanceAs (Decidable (_∧_∧_))
instance (V:KepV) (x:BalV):Decidable (kMay V x):=inferInstanceAs (Decidable (_∧_))
def addW (base:Nat) (D:DskV) (V:KepV) (x:RecK):DskV × KepV × Nat :=
  if (laddD D (recB x)).2=0 then ((laddD D (recB x)).1,V.take base x,0) else ((laddD D (recB x)).1,V,(laddD D (recB x)).2)
def promW (base:Nat) (D:DskV) (V:KepV) (x:BalV):DskV × KepV × Nat :=
  if ¬ kMay V x then (D,V,2) else if x=V.pr then (D,V,0) else addW base D V (.pro x)
def voteW (base:Nat) (D:DskV) (V:KepV) (v:VotV):DskV × KepV × Nat :=
  if ¬ (kMay V v.b∧1≤v.slot∧v.slot≤4611686018427387904) then (D,V,2)
  else if v.slot≤base then (D,V,12)
  else match V.vs v.slot with
    | some p=>if p.1=v.b then (if p.2=v.v then (D,V,0) else (D,V,14)) else addW base D V (.vot v)
    | none=>addW base D V (.vot v)
/-- Votes from a slot on, rising. -/
structure VotsFrom (V:KepV) (from_:Nat) (L:List VotV):Prop where
  up:L.Pairwise (fun a b=>a.slot<b.slot)
  mem:∀ v,v ∈ L ↔ V.vs v.slot=some (v.b,v.v)∧from_≤v.slot
theorem VotsFrom.all {V:KepV} {L:List VotV} (h:VotsFrom V 0 L):VotsOf V L:=⟨h.up,fun v=>by rw [h.mem v];simp⟩
theorem LgT.segs {V:DskV} {X:List Bs} {s c:Nat} (h:LgT V X s c) (hc:c≤200):∀ x ∈ segL V.fs,x.1≤208:=h.nums hc
theorem TwoT.seg {D:DskV} {b:Nat × Bs} {X:List Bs} {s c:Nat} (h:TwoT D b X s c) (hc:c≤190):SegOk D:=by
  obtain ⟨V,h1,h2⟩:=h.log
  refine ⟨?_,fun x hx=>?_⟩
  · rw [h1.fs,List.length_append]
    have:=h2.names.2
    have:=stF_len b
    omega
  · rw [h1.seg] at hx
    exact h2.nums (by omega) x hx
end Go.Proofs.YticjodhkmidljaaGreatDoor
namespace Go.Proofs.YticjodhkmidljaaGreatDoor
open Go.RowKit Go.Shelf
theorem th_new (y:World) (cs0:List Value) (t:TypeId):(y.alloc (.cells cs0.toArray t)).there y.heap.size 0 cs0.length:=there_row (heap_alloc_new _ _)
theorem bal_size (b:BalV):(Tryz.prog.info? 24).map (·.size)=some (balC b).length:=(by kernel_rfl:(Tryz.prog.info? 24).map (·.size)=some 2)
theorem bal_one (b:BalV):∀ u ∈ balC b,u.oneCell'=true:=by simp [balC,Value.oneCell']
def BlAt (w:World) (g:Nat) (b:BalV):Prop:=w.heap[g]?=some (.cells (balC b).toArray 24 (0,0))
def VtAt (w:World) (g s:Nat) (r:VoR):Prop:=w.heap[g]?=some (.cells (voCells s r).toArray 26 (0,0))
theorem BlAt.below {w w':World} {g:Nat} {b:BalV} (h:BlAt w g b) (hb:Below w.heap.size w w'):BlAt w' g b:=(hb.block g (Array.getElem?_eq_some_iff.1 h).1).trans h
theorem VtAt.below {w w':World} {g s:Nat} {r:VoR} (h:VtAt w g s r) (hb:Below w.heap.size w w'):VtAt w' g s r:=(hb.block g (Array.getElem?_eq_some_iff.1 h).1).trans h
theorem bl_loadVar {y:World} {g:Nat} {b:BalV} (h:BlAt y g b):(loadVar 24 ⟨g,0,none⟩).run Tryz.prog y=.ok (.agg (balC b).toArray) y :=
  run_loadVar_mid y g 0 24 (balC b) _ (range_row h) Tryz.underlying24 rfl (bal_size b)
theorem vt_loadVar {y:World} {g s:Nat} {r:VoR} (h:VtAt y g s r):(loadVar 26 ⟨g,0,none⟩).run Tryz.prog y=.ok (voV s r) y :=
  run_loadVar_mid y g 0 26 (voCells s r) _ (range_row h) Tryz.underlying26 rfl (vo_size s r)
theorem KepAt.pr {w:World} {k S l g n:Nat} {K:KepV} (h:KepAt w k S l g n K):w.rangeAt k 2 (balC K.pr):=fun j v hv=>by
  match j,hv with
  | 0,hv=>cases hv;exact h.cells.2.2.1
  | 1,hv=>cases hv;exact h.cells.2.2.2.1
set_option maxRecDepth 100000 in
theorem promised_any {w:World} {k S l g n:Nat} {K:KepV} (h:KepAt w k S l g n K):Calls Tryz.prog 13 #[.pointer (some ⟨k,0,none⟩)] w fun e w'=>e=.returned (.agg (balC K.pr).toArray)∧Below w.heap.size w w':=by
  have hb:=(Below.refl w.heap.size w).alloc (Nat.le_refl _) (.cells (balC bal0).toArray 24)
  have HI:=Lib.hid (show BlAt (w.alloc (.cells (balC bal0).toArray 24)) w.heap.size bal0 from heap_alloc_new _ _)
  have Hb:=Lib.hid hb
  have HK:=Lib.hid (h.below hb)
  clear hb h
  go_enter Tryz.func13,Tryz.ntmps13
  go_upto_region 1 with fail
  change Code.wp _ _ _ _ (w.alloc (.cells (balC bal0).toArray 24))
  generalize w.alloc (.cells (balC bal0).toArray 24)=w1 at *
  obtain ⟨g0,hg0⟩:∃ g0,w.heap.size=g0:=⟨_,rfl⟩
  rw [hg0] at HI ⊢
  have HR:=Lib.hid HK.out.pr
  go_wp2_with (first
    | (with_reducible refine wpList_load_mid rfl 24 _ rfl k 2 rfl (balC K.pr) _ HR.out Tryz.underlying24 rfl (bal_size K.pr) ?_)
    | ((with_reducible refine wpList_store_mid rfl 24 _ _ rfl g0 0 _ rfl rfl ?_ ?_ ?_ ?_);exact there_row (cs:=balC bal0) HI.out;exact bal_size bal0;exact all_oneCell_toArray (bal_one K.pr)))
  change bodyPost _ _ _ _ _ (World.setCells _ g0 0 (balC K.pr))
  have HZ:=Lib.hid (show BlAt (rowSt w1 g0 0 (balC K.pr)) g0 K.pr from rowSt_row (balC K.pr) [] (balC bal0) w1 (HI.out) rfl)
  have HB2:=Lib.hid (rowSt_below (g:=g0) (Nat.le_of_eq hg0) (balC K.pr) 0 _ (Hb.out))
  rw [st_eq]
  generalize rowSt w1 g0 0 (balC K.pr)=w9 at *
  refine bodyPost_ret (v:=.agg (balC K.pr).toArray) (by simp [results,Act.put,Tryz.results13,show (asAddr (Value.pointer (some ⟨g0,0,none⟩))).run Tryz.prog w9=.ok ⟨g0,0,none⟩ w9 from rfl,bl_loadVar HZ.out]) rfl ?_
  exact ⟨rfl,HB2.out⟩
theorem promised_nil (w:World):Calls Tryz.prog 13 #[.pointer none] w fun e w'=>e=.returned (.agg (balC bal0).toArray)∧Below w.heap.size w w':=by
  have hb:=(Below.refl w.heap.size w).alloc (Nat.le_refl _) (.cells (balC bal0).toArray 24)
  have HI:=Lib.hid (show BlAt (w.alloc (.cells (balC bal0).toArray 24)) w.heap.size bal0 from heap_alloc_new _ _)
  have Hb:=Lib.hid hb
  clear hb
  go_enter Tryz.func13,Tryz.ntmps13
  go_upto_region 1 with fail
  change Code.wp _ _ _ _ (w.alloc (.cells (balC bal0).toArray 24))
  generalize w.alloc (.cells (balC bal0).toArray 24)=w1 at *
  obtain ⟨g0,hg0⟩:∃ g0,w.heap.size=g0:=⟨_,rfl⟩
  rw [hg0] at HI ⊢
  go_wp2_with ((with_reducible refine wpList_store_mid rfl 24 _ _ rfl g0 0 _ rfl rfl ?_ ?_ ?_ ?_);exact there_row (cs:=balC bal0) HI.out;exact bal_size bal0;exact all_oneCell_toArray (bal_one bal0))
  change bodyPost _ _ _ _ _ (World.setCells _ g0 0 (balC bal0))
  have HZ:=Lib.hid (show BlAt (rowSt w1 g0 0 (balC bal0)) g0 bal0 from rowSt_row (balC bal0) [] (balC bal0) w1 (HI.out) rfl)
  have HB2:=Lib.hid (rowSt_below (g:=g0) (Nat.le_of_eq hg0) (balC bal0) 0 _ (Hb.out))
  rw [st_eq]
  generalize rowSt w1 g0 0 (balC bal0)=w9 at *
  refine bodyPost_ret (v:=.agg (balC bal0).toArray) (by simp [results,Act.put,Tryz.results13,show (asAddr (Value.pointer (some ⟨g0,0,none⟩))).run Tryz.prog w9=.ok ⟨g0,0,none⟩ w9 from rfl,bl_loadVar HZ.out]) rfl ?_
  exact ⟨rfl,HB2.out⟩
theorem kbase_any {w:World} {k S l g n p:Nat} {K:KepV} {b:Nat × Bs} (h:KepAt w k S l g n K) (hs:StoAt w S p b) (hz:b.1=0→b.2=[]) :
    Calls Tryz.prog 8 #[.pointer (some ⟨k,0,none⟩)] w fun e w'=>e=.returned (.tuple #[.int .u64 (b.1:Int),.string ⟨b.2.toArray⟩])∧Below w.heap.size w w':=by
  have hB:=base_any S p b w hs
  rw [show (if b.1=0 then [] else b.2)=b.2 from by by_cases q:b.1=0;rw [if_pos q,hz q];rw [if_neg q]] at hB
  have HB:=Lib.hid hB
  obtain ⟨c0,c1,c2,c3,c4⟩:=h.cells
  clear h hs hz hB c1 c2 c3 c4
  obtain ⟨bn,bt⟩:=b
  generalize decide (bn≠0)=q at *
  go_enter Tryz.func8,Tryz.ntmps8
  go_wp2_with ((with_reducible refine HB.out.mono ?_);rintro e w2 ⟨rfl,h2⟩;have H2:=Lib.hid h2;clear h2)
  go_ret2
  exact ⟨rfl,H2.out⟩
theorem kbase_nil (w:World):Calls Tryz.prog 8 #[.pointer none] w fun e w'=>e=.returned (.tuple #[.int .u64 0,.string ⟨#[]⟩])∧Below w.heap.size w w':=by
  go_enter Tryz.func8,Tryz.ntmps8
  go_wp2_with fail
  go_ret2
  exact ⟨rfl,Below.refl _ _⟩
def votedV (K:KepV) (s:Nat):Value:=match K.vs s with
  | some r=>voV s r
  | none=>voV 0 vo0
set_option maxRecDepth 100000 in
set_option maxHeartbeats 4000000 in
theorem voted_any {w:World} {k S l g n:Nat} {K:KepV} (h:KepAt w k S l g n K) (s:Nat) (hs:s<18446744073709551616) :
    Calls Tryz.prog 7 #[.pointer (some ⟨k,0,none⟩),.int .u64 (s:Int)] w fun e w'=>e=.returned (.tuple #[votedV K s,.bool (K.vs s).isSome])∧Below w.heap.size w w':=by
  obtain ⟨s0,r0,bq,e1,e2,e3,e4⟩:∃ s0 r0 bq,votedV K s=voV s0 r0∧(K.vs s).isSome=bq∧(mpV K.vs (ku s)).getD (voV 0 vo0)=voV s0 r0∧(mpV K.vs (ku s)).isSome=bq:=by
    rw [mpV_at]
    unfold votedV
    cases hv:K.vs s with
    | none=>exact ⟨0,vo0,false,rfl,rfl,rfl,rfl⟩
    | some r=>exact ⟨s,r,true,rfl,rfl,rfl,rfl⟩
  rw [e1,e2]
  have hk:=key_ku hs
  have HE:=Lib.hid (And.intro e3 e4)
  have hb:=(Below.refl w.heap.size w).alloc (Nat.le_refl _) (.cells (voCells 0 vo0).toArray 26)
  have Hi:=Lib.hid (show VtAt (w.alloc (.cells (voCells 0 vo0).toArray 26)) w.heap.size 0 vo0 from heap_alloc_new _ _)
  have Hb:=Lib.hid hb
  have Hd:=Lib.hid (h.below hb)
  clear hb h e1 e2 e3 e4 hs
  go_enter Tryz.func7,Tryz.ntmps7
  go_upto_region 1 with fail
  change Code.wp _ _ _ _ (w.alloc (.cells (voCells 0 vo0).toArray 26))
  generalize w.alloc (.cells (voCells 0 vo0).toArray 26)=w1 at *
  obtain ⟨g0,hg0⟩:∃ g0,w.heap.size=g0:=⟨_,rfl⟩
  rw [hg0] at Hi ⊢
  obtain ⟨c0,c1,c2,c3,c4⟩:=Hd.out.cells
  clear c0 c1 c2 c3
  go_upto_region 4 with (first
    | (at_lookup;refine wpList_lookok_mp rfl _ _ 63 26 rfl lawU Tryz.underlying63 vo_zero rfl Hd.out.mp _ (ku s) rfl hk ?_;rw [HE.out.1,HE.out.2])
    | ((with_reducible refine wpList_store_mid rfl 26 _ _ rfl w1.heap.size 0 _ rfl rfl ?_ ?_ ?_ ?_);exact th_new w1 (voCells 0 vo0) 26;exact vo_size 0 vo0;exact all_oneCell_toArray (vo_one s0 r0)))
  change Code.wp _ _ _ _ ((w1.alloc (.cells (voCells 0 vo0).toArray 26)).setCells w1.heap.size 0 (voCells s0 r0))
  have hbx:=box_below w1 (voCells 0 vo0) (voCells s0 r0) 26
  have HX:=Lib.hid (show VtAt _ _ s0 r0 from box_row w1 (voCells 0 vo0) (voCells s0 r0) 26 rfl)
  have HIt:=Lib.hid (Hi.out.below hbx)
  have Hb2:=Lib.hid (Hb.out.trans (hbx.mono Hb.out.size))
  clear hbx Hi Hd Hb c4 hk HE
  generalize (w1.alloc (.cells (voCells 0 vo0).toArray 26)).setCells w1.heap.size 0 (voCells s0 r0)=w2 at *
  generalize w1.heap.size=gx at *
  have HR:=Lib.hid (range_row (cs:=voCells s0 r0) HX.out)
  go_wp2_with (first
    | (with_reducible refine wpList_load_mid rfl 26 _ rfl gx 0 rfl (voCells s0 r0) _ HR.out Tryz.underlying26 rfl (vo_size s0 r0) ?_)
    | ((with_reducible refine wpList_store_mid rfl 26 _ _ rfl g0 0 _ rfl rfl ?_ ?_ ?_ ?_);exact there_row (cs:=voCells 0 vo0) HIt.out;exact vo_size 0 vo0;exact all_oneCell_toArray (vo_one s0 r0)))
  change bodyPost _ _ _ _ _ (World.setCells _ g0 0 (voCells s0 r0))
  have HZ:=Lib.hid (show VtAt (rowSt w2 g0 0 (voCells s0 r0)) g0 s0 r0 from rowSt_row (voCells s0 r0) [] (voCells 0 vo0) w2 (HIt.out) rfl)
  have HB3:=Lib.hid (rowSt_below (g:=g0) (Nat.le_of_eq hg0) (voCells s0 r0) 0 _ (Hb2.out))
  rw [st_eq]
  generalize rowSt w2 g0 0 (voCells s0 r0)=w9 at *
  refine bodyPost_ret (v:=.tuple #[voV s0 r0,.bool bq]) (by simp [results,Tryz.results7,show (asAddr (Value.pointer (some ⟨g0,0,none⟩))).run Tryz.prog w9=.ok ⟨g0,0,none⟩ w9 from rfl,vt_loadVar HZ.out]) rfl ?_
  exact ⟨rfl,HB3.out⟩
theorem voted_nil (s:Nat) (w:World):Calls Tryz.prog 7 #[.pointer none,.int .u64 (s:Int)] w fun e w'=>e=.returned (.tuple #[voV 0 vo0,.bool false])∧Below w.heap.size w w':=by
  have hb:=(Below.refl w.heap.size w).alloc (Nat.le_refl _) (.cells (voCells 0 vo0).toArray 26)
  have Hi:=Lib.hid (show VtAt (w.alloc (.cells (voCells 0 vo0).toArray 26)) w.heap.size 0 vo0 from heap_alloc_new _ _)
  have Hb:=Lib.hid hb
  clear hb
  go_enter Tryz.func7,Tryz.ntmps7
  go_upto_region 1 with fail
  change Code.wp _ _ _ _ (w.alloc (.cells (voCells 0 vo0).toArray 26))
  generalize w.alloc (.cells (voCells 0 vo0).toArray 26)=w1 at *
  obtain ⟨g0,hg0⟩:∃ g0,w.heap.size=g0:=⟨_,rfl⟩
  rw [hg0] at Hi ⊢
  go_wp2_with ((with_reducible refine wpList_store_mid rfl 26 _ _ rfl g0 0 _ rfl rfl ?_ ?_ ?_ ?_);exact there_row (cs:=voCells 0 vo0) Hi.out;exact vo_size 0 vo0;exact all_oneCell_toArray (vo_one 0 vo0))
  change bodyPost _ _ _ _ _ (World.setCells _ g0 0 (voCells 0 vo0))
  have HZ:=Lib.hid (show VtAt (rowSt w1 g0 0 (voCells 0 vo0)) g0 0 vo0 from rowSt_row (voCells 0 vo0) [] (voCells 0 vo0) w1 (Hi.out) rfl)
  have HB3:=Lib.hid (rowSt_below (g:=g0) (Nat.le_of_eq hg0) (voCells 0 vo0) 0 _ (Hb.out))
  rw [st_eq]
  generalize rowSt w1 g0 0 (voCells 0 vo0)=w9 at *
  refine bodyPost_ret (v:=.tuple #[voV 0 vo0,.bool false]) (by simp [results,Tryz.results7,show (asAddr (Value.pointer (some ⟨g0,0,none⟩))).run Tryz.prog w9=.ok ⟨g0,0,none⟩ w9 from rfl,vt_loadVar HZ.out]) rfl ?_
  exact ⟨rfl,HB3.out⟩
end Go.Proofs.YticjodhkmidljaaGreatDoor
