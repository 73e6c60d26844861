/- Disk: Append. Condition: as each theorem says. -/
import Derived.Test.YticjodhkmidljaaGreatDoorZKeepNil7
import Derived.BigQuiet
import Derived.Shelf.SlIter.Nil
import Derived.Shelf.SortM.Plain
import Derived.Shelf.SortM.SortNone
import Derived.RangeFuncWrites
import Derived.RangeFuncNested
import Derived.RangeFuncBound
import Derived.RangeFuncCalls
import Derived.RangeFuncLeaves
import Derived.OwnWalkIn
import Derived.TacticsInMore
import Derived.LoopNIn
import Derived.LoopIn
import Derived.Laws.AppendOwn
import Derived.Laws.AppendOwnNone
import Derived.OwnWalk
import Derived.Test.YticjodhkmidljaaGreatDoorZKeepNil1
namespace Go.Proofs.YticjodhkmidljaaGreatDoor
open Go.RowKit
open Go.Maps (Keyed)
open Go.ChangeMaps Go.MapKept
theorem DkR.back {p b:Nat} {L:List Nat} {R:DskV × Nat} {w0 w w':World} {k:Int} (hb:Below w0.heap.size w0 w) (h:DkR p b L R w k w'):DkR p b L R w0 k w':=by
  obtain ⟨h1,n,C,L',h2,h3,h4⟩:=h
  exact ⟨h1,n,C,L',h2,(Turns.of hb).trans h3,fun g hg=>(h4 g hg).imp id (Nat.le_trans hb.size)⟩
set_option maxRecDepth 100000 in
set_option maxHeartbeats 4000000 in
theorem append_any {p b n:Nat} {C:Bs→Nat} {L:List Nat} {D:DskV} (nm s:ByteArray) (hn:nm.size≤maxLen) (hs:s.size≤maxLen) (w:World) (h:DskAt w p b n C L D) (hL:∀ g ∈ L,g<w.heap.size) :
    Calls Tryz.prog 66 #[.pointer (some ⟨p,0,none⟩),.string nm,.string s] w fun e w'=>∃ k,e=.returned (.int .i64 k)∧DkR p b L (appD D nm.data.toList s.data.toList) w k w':=by
  have H:=Lib.hid h
  have HLL:=Lib.hid hL
  clear h hL
  go_enter Tryz.func66,Tryz.ntmps66
  go_upto_region 1 with fail
  have hb3:=(((Below.refl _ w).alloc (Nat.le_refl _) (.cells #[.pointer (some ⟨p,0,none⟩)] 46)).alloc (by simp) (.cells #[.string nm] 9)).alloc (by simp;omega) (.cells #[.string s] 9)
  have q2:(((w.alloc (.cells #[.pointer (some ⟨p,0,none⟩)] 46)).alloc (.cells #[.string nm] 9)).alloc (.cells #[.string s] 9)).heap[w.heap.size+1]?=some (.cells #[.string nm] 9 (0,0)):=by
    rw [heap_alloc_old _ _ (by simp)]
    have h:=heap_alloc_new (w.alloc (.cells #[.pointer (some ⟨p,0,none⟩)] 46)) (.cells #[.string nm] 9)
    simpa using h
  have q3:(((w.alloc (.cells #[.pointer (some ⟨p,0,none⟩)] 46)).alloc (.cells #[.string nm] 9)).alloc (.cells #[.string s] 9)).heap[w.heap.size+1+1]?=some (.cells #[.string s] 9 (0,0)):=by
    have h:=heap_alloc_new ((w.alloc (.cells #[.pointer (some ⟨p,0,none⟩)] 46)).alloc (.cells #[.string nm] 9)) (.cells #[.string s] 9)
    simpa using h
  have q1:(((w.alloc (.cells #[.pointer (some ⟨p,0,none⟩)] 46)).alloc (.cells #[.string nm] 9)).alloc (.cells #[.string s] 9)).heap[w.heap.size]?=some (.cells #[.pointer (some ⟨p,0,none⟩)] 46 (0,0)):=by
    rw [heap_alloc_old _ _ (by simp;omega),heap_alloc_old _ _ (by simp)]
    exact heap_alloc_new _ _
  have hz:(((w.alloc (.cells #[.pointer (some ⟨p,0,none⟩)] 46)).alloc (.cells #[.string nm] 9)).alloc (.cells #[.string s] 9)).heap.size=w.heap.size+1+1+1:=by simp
  generalize ((w.alloc (.cells #[.pointer (some ⟨p,0,none⟩)] 46)).alloc (.cells #[.string nm] 9)).alloc (.cells #[.string s] 9)=w3 at *
  have c1:=cell_of_row w3 w.heap.size 0 _ _ _ q1
  have HB:=Lib.hid hb3
  have H3:=Lib.hid (H.out.below hb3)
  have HC:=Lib.hid (And.intro q1 (And.intro q2 (And.intro q3 hz)))
  have HA:=Lib.hid (show Calls Tryz.prog 38 #[.pointer (some ⟨p,0,none⟩),.func (.func 95) #[] #[.pointer (some ⟨w.heap.size+1,0,none⟩),.pointer (some ⟨w.heap.size,0,none⟩),.pointer (some ⟨w.heap.size+1+1,0,none⟩)]] w3 fun e w'=>∃ k,e=.returned (.int .i64 k)∧DkR p b L (appD D nm.data.toList s.data.toList) w k w' from by
    cases hd:D.dead with
    | true =>
      refine (powered_dead w3 H3.out hd _ _).mono ?_
      rintro e w' ⟨rfl,rfl⟩
      refine ⟨_,rfl,?_⟩
      have e2:appD D nm.data.toList s.data.toList=(D,8):=by unfold appD;rw [if_pos hd]
      rw [e2]
      exact DkR.same H.out HB.out 8
    | false =>
      refine powered_any w3 H3.out hd _ (enters_of Tryz.func95 (by kernel_rfl) rfl) _ ((append1_any nm s hn hs hd (w.heap.size+1) w.heap.size (w.heap.size+1+1) w3 H3.out (fun g hg=>Nat.lt_of_lt_of_le (HLL.out g hg) HB.out.size) HC.out.2.1 HC.out.1 HC.out.2.2.1 ⟨fun q=>by have:=HLL.out _ q;omega,fun q=>by have:=HLL.out _ q;omega,fun q=>by have:=HLL.out _ q;omega⟩).mono ?_)
      rintro e w' ⟨k,rfl,hk⟩
      exact ⟨k,rfl,hk.back HB.out⟩)
  clear hb3 q1 q2 q3
  go_wp2_with (go_at_call 38;refine HA.out.mono ?_;rintro e w' ⟨k,rfl,hr⟩;have HR:=Lib.hid hr;clear hr)
  go_ret
  exact ⟨k,rfl,HR.out⟩
end Go.Proofs.YticjodhkmidljaaGreatDoor
namespace Go.Proofs.YticjodhkmidljaaGreatDoor
open Go.RowKit
open Go.Maps (Keyed)
open Go.ChangeMaps Go.MapKept
theorem DskAt.own {w w':World} {p b n:Nat} {C:Bs→Nat} {L:List Nat} {D D':DskV} (h:DskAt w p b n C L D) (hfs:D'.fs=D.fs) (hp:w'.heap[p]?=some (.cells (dskC b D') 86 (0,0)))
    (ho:∀ g,g≠p→w'.heap[g]?=w.heap[g]?) (hs:D'.room+totF D'.fs≤4194304) (hfz:∀ k,D'.fuse=some k→k≤9223372036854775807):DskAt w' p b n C L D':=by
  refine ⟨hp,?_,fun f hf=>?_,fun f hf g hg=>h.inj f (hfs ▸ hf) g (hfs ▸ hg),h.pb,fun f hf=>h.cl f (hfs ▸ hf),hfs ▸ h.ris,fun f hf=>h.syn f (hfs ▸ hf),hs,hfz⟩
  · rw [hfs]
    exact h.m.stay (ho b h.pb.2.2.symm)
  · rw [ho _ (h.cl f (hfs ▸ hf)).2.1]
    exact h.c f (hfs ▸ hf)
set_option maxRecDepth 100000 in
set_option maxHeartbeats 4000000 in
theorem start_any {p b n:Nat} {C:Bs→Nat} {L:List Nat} {D:DskV} (w:World) (h:DskAt w p b n C L D) :
    Calls Tryz.prog 22 #[.pointer (some ⟨p,0,none⟩)] w fun e w'=>e=.returned (.int .i64 0)∧DskAt w' p b n C L { D with dead:=false }∧Turns L w w':=by
  obtain ⟨c0,c1,c2,c3⟩:=h.cells
  have t1:=thaw0 3 h.d
  have H:=Lib.hid h
  clear h
  go_enter Tryz.func22,Tryz.ntmps22
  go_wp2
  go_ret
  exact ⟨rfl,H.out.own rfl (heap_setCell_same w p 3 (dskC b D) _ _ H.out.d) (fun g hg=>setC_other hg) H.out.sum H.out.fz,setC_turns H.out.pb.1⟩
end Go.Proofs.YticjodhkmidljaaGreatDoor
namespace Go.Proofs.YticjodhkmidljaaGreatDoor
open Go.RowKit
open Go.Maps (Keyed)
open Go.ChangeMaps Go.MapKept
set_option maxRecDepth 100000 in
set_option maxHeartbeats 4000000 in
theorem cut1_any {p b n:Nat} {C:Bs→Nat} {L:List Nat} {D:DskV} (m:Int) (hm : -9223372036854775808≤m∧m≤9223372036854775807) (f:FilV) (hf:findF f.nm D.fs=some f) (g1 g2:Nat) (w:World) (h:DskAt w p b n C L D)
    (h1:w.cell? ⟨g1,0,none⟩=some (.int .i64 m)) (h2:w.cell? ⟨g2,0,none⟩=some (.pointer (some ⟨p,0,none⟩))) (hg:g1<w.heap.size∧g2<w.heap.size) :
    Calls Tryz.prog 85 #[.pointer (some ⟨C f.nm,0,none⟩),.pointer (some ⟨g1,0,none⟩),.pointer (some ⟨g2,0,none⟩)] w fun e w'=>∃ k,e=.returned (.int .i64 k) ∧
      DkR p b L (if m<(f.sy:Int)∨(f.by_.length:Int)<m then (D,2) else ({ D with fs:=putF { f with by_:=f.by_.take m.toNat } D.fs,room:=D.room+(f.by_.length - m.toNat) },0)) w k w':=by
  have hfm:=(find_nm hf).2
  have hc:=h.c f hfm
  have hcl:=h.cl f hfm
  have HSH:=Lib.hid (fun (q:Nat) (hq:q≤f.by_.length) (y:World) (hy:Below w.heap.size w y)=>shorten_any f hf q hq (.inr trivial) y (h.below hy))
  have H:=Lib.hid h
  have HCL:=Lib.hid (And.intro hcl (And.intro hf hfm))
  obtain ⟨c,hcc⟩:∃ c,c=C f.nm:=⟨_,rfl⟩
  rw [← hcc] at hc HSH ⊢
  have HCC:=Lib.hid hcc
  clear hcc hcl hfm hf h
  have hz:(⟨f.by_.toArray⟩:ByteArray).size=f.by_.length:=by simp [ByteArray.size]
  have k0:=cell_of_row w c 0 _ _ _ hc
  have k1:=cell_of_row w c 1 _ _ _ hc
  rw [show (filC f)[0]?=some (.string (⟨f.by_.toArray⟩:ByteArray)) from rfl] at k0
  rw [show (filC f)[1]?=some (.int .i64 (f.sy:Int)) from rfl] at k1
  obtain ⟨x,hx⟩:∃ x:ByteArray,x=⟨f.by_.toArray⟩:=⟨_,rfl⟩
  rw [← hx] at hz k0
  clear hx
  have HZ:=Lib.hid hz
  have HG:=Lib.hid hg
  have HM:=Lib.hid hm
  clear hz hg hm
  go_enter Tryz.func85,Tryz.ntmps85
  by_cases hs:m<(f.sy:Int)
  · have hd:decide (m<(f.sy:Int))=true:=decide_eq_true hs
    rw [if_pos (.inl hs)]
    go_upto_region 1 with fail
    go_quiet (fail)
    have hb:=below_drewN (Below.refl w.heap.size w) nq
    have HB:=Lib.hid hb
    generalize w.drewN nq=v1 at *
    clear hb
    go_wp2_with fail
    go_ret
    exact ⟨_,rfl,DkR.same H.out HB.out 2⟩
  · have hd:decide (m<(f.sy:Int))=false:=decide_eq_false hs
    have HQ0:=Lib.hid (show ∃ q:Nat,m=(q:Int) from ⟨m.toNat,by omega⟩)
    have HS:=Lib.hid hs
    clear hs
    by_cases hl:(x.size:Int)<m
    · have hl2:decide ((x.size:Int)<m)=true:=decide_eq_true hl
      rw [if_pos (.inr (by have:=HZ.out;omega))]
      go_upto_region 1 with fail
      go_quiet (fail)
      have hb:=below_drewN (Below.refl w.heap.size w) nq
      have HB:=Lib.hid hb
      generalize w.drewN nq=v1 at *
      clear hb
      go_wp2_with fail
      go_ret
      exact ⟨_,rfl,DkR.same H.out HB.out 2⟩
    · have hl2:decide ((x.size:Int)<m)=false:=decide_eq_false hl
      rw [if_neg (by have:=HZ.out;have:=HS.out;omega)]
      obtain ⟨q,hq⟩:∃ q:Nat,q=m.toNat:=⟨_,rfl⟩
      have HQQ:=Lib.hid (show m=(q:Int) by obtain ⟨r,hr⟩:=HQ0.out;omega)
      rw [← hq]
      clear hq
      have HL:=Lib.hid hl
      clear hl
      go_upto_region 1 with fail
      go_quiet (fail)
      have hb:=below_drewN (Below.refl w.heap.size w) nq
      have HB:=Lib.hid hb
      have e1:(w.drewN nq).cell? ⟨g1,0,none⟩=some (.int .i64 m):=h1
      have e2:(w.drewN nq).cell? ⟨g2,0,none⟩=some (.pointer (some ⟨p,0,none⟩)):=h2
      generalize w.drewN nq=v1 at *
      clear hb
      have hq2:=HQQ.out
      have hql:q≤f.by_.length:=by have:=HZ.out;have:=HL.out;omega
      have hq3:=HSH.out q hql v1 HB.out
      rw [← hq2] at hq3
      have HQ:=Lib.hid hq3
      have HQL:=Lib.hid hql
      clear hq3 hq2 hql
      go_wp2_with (go_at_call 42;refine HQ.out.mono ?_;rintro e w2 ⟨⟨v,rfl⟩,hr⟩;have HR:=Lib.hid hr;clear hr)
      go_ret
      obtain ⟨r1,r2,r3,r4⟩:=HR.out
      refine ⟨0,rfl,rfl,n,C,L,((H.out.below HB.out).upd (f':={ f with by_:=f.by_.take q }) HCL.out.2.1 rfl rfl r1 (by rw [← HCC.out];exact r2) (fun g _ a1 a2=>r3 g a1 (by rw [HCC.out];exact a2)) ?_ ?_ H.out.fz),(Turns.of HB.out).trans r4,fun g hg=>.inl hg⟩
      · show f.sy≤(f.by_.take q).length
        rw [List.length_take]
        have h1:=HS.out
        have h2:=HQQ.out
        have h3:=HQL.out
        omega
      · have h1:=put_old (f:={ f with by_:=f.by_.take q }) H.out.ris HCL.out.2.1
        have h2:=H.out.sum
        have h3:=HQL.out
        show D.room+(f.by_.length - q)+totF (putF { f with by_:=f.by_.take q } D.fs)≤4194304
        have h4:=h1.1
        simp only [List.length_take] at h4
        omega
set_option maxRecDepth 100000 in
set_option maxHeartbeats 4000000 in
theorem cut_any {p b n:Nat} {C:Bs→Nat} {L:List Nat} {D:DskV} (nm:ByteArray) (hn:nm.size≤maxLen) (m:Int) (hm : -9223372036854775808≤m∧m≤9223372036854775807) (w:World) (h:DskAt w p b n C L D) (hL:∀ g ∈ L,g<w.heap.size) :
    Calls Tryz.prog 51 #[.pointer (some ⟨p,0,none⟩),.string nm,.int .i64 m] w fun e w'=>∃ k,e=.returned (.int .i64 k)∧DkR p b L (cutD D nm.data.toList m) w k w':=by
  have H:=Lib.hid h
  have HLL:=Lib.hid hL
  clear h hL
  go_enter Tryz.func51,Tryz.ntmps51
  go_upto_region 1 with fail
  have hb3:=((Below.refl _ w).alloc (Nat.le_refl _) (.cells #[.pointer (some ⟨p,0,none⟩)] 46)).alloc (by simp) (.cells #[.int .i64 m] 3)
  have q2:((w.alloc (.cells #[.pointer (some ⟨p,0,none⟩)] 46)).alloc (.cells #[.int .i64 m] 3)).heap[w.heap.size+1]?=some (.cells #[.int .i64 m] 3 (0,0)):=by
    have h:=heap_alloc_new (w.alloc (.cells #[.pointer (some ⟨p,0,none⟩)] 46)) (.cells #[.int .i64 m] 3)
    simpa using h
  have q1:((w.alloc (.cells #[.pointer (some ⟨p,0,none⟩)] 46)).alloc (.cells #[.int .i64 m] 3)).heap[w.heap.size]?=some (.cells #[.pointer (some ⟨p,0,none⟩)] 46 (0,0)):=by
    rw [heap_alloc_old _ _ (by simp)]
    exact heap_alloc_new _ _
  generalize (w.alloc (.cells #[.pointer (some ⟨p,0,none⟩)] 46)).alloc (.cells #[.int .i64 m] 3)=w3 at *
  have c1:=cell_of_row w3 w.heap.size 0 _ _ _ q1
  have c2:=cell_of_row w3 (w.heap.size+1) 0 _ _ _ q2
  have HB:=Lib.hid hb3
  have H3:=Lib.hid (H.out.below hb3)
  have HC:=Lib.hid (And.intro q1 q2)
  have HA:=Lib.hid (with_any nm hn 85 (enters_of Tryz.func85 (by kernel_rfl) rfl) #[.pointer (some ⟨w.heap.size+1,0,none⟩),.pointer (some ⟨w.heap.size,0,none⟩)] w3 H3.out (R:=DkR p b L (cutD D nm.data.toList m) w)
    (fun hd y hy=>(with_act nm _ H.out).1 hd y (HB.out.trans (hy.mono HB.out.size))) (fun hd hn y hy=>(with_act nm _ H.out).2 hd hn y (HB.out.trans (hy.mono HB.out.size))) (fun hd fl hfl y hy=>by
    obtain ⟨e1,_⟩:=find_nm hfl
    have hfl2:=hfl
    rw [← e1] at hfl2
    have hy1:=(hy.block w.heap.size (Array.getElem?_eq_some_iff.1 HC.out.1).1).trans HC.out.1
    have hy2:=(hy.block (w.heap.size+1) (Array.getElem?_eq_some_iff.1 HC.out.2).1).trans HC.out.2
    refine (cut1_any m hm fl hfl2 (w.heap.size+1) w.heap.size y (H3.out.below hy) (cell_of_row _ _ _ _ _ _ hy2) (cell_of_row _ _ _ _ _ _ hy1) ⟨(Array.getElem?_eq_some_iff.1 hy2).1,(Array.getElem?_eq_some_iff.1 hy1).1⟩).mono ?_
    rintro e w' ⟨k,rfl,hk⟩
    refine ⟨k,rfl,?_⟩
    unfold cutD
    rw [with_some hd hfl]
    exact hk.back (HB.out.trans (hy.mono HB.out.size))))
  clear hb3 q1 q2
  go_wp2_with (go_at_call 81;refine HA.out.mono ?_;rintro e w' ⟨k,rfl,hr⟩;have HR:=Lib.hid hr;clear hr)
  go_ret
  exact ⟨k,rfl,HR.out⟩
end Go.Proofs.YticjodhkmidljaaGreatDoor
namespace Go.Proofs.YticjodhkmidljaaGreatDoor
open Go.RowKit
open Go.Maps (Keyed)
open Go.ChangeMaps Go.MapKept
/-- 'y' is as 'w', but for one block. -/
structure ButOne (g:Nat) (w y:World):Prop where
  os:y.os=w.os
  tape:y.tape=w.tape
  output:y.output=w.output
  size:w.heap.size≤y.heap.size
  block:∀ k,k<w.heap.size→k≠g→y.heap[k]?=w.heap[k]?
theorem ButOne.cell {g k i:Nat} {w y:World} {v:Value} (h:ButOne g w y) (hc:w.cell? ⟨k,i,none⟩=some v) (hk:k<w.heap.size) (hn:k≠g):y.cell? ⟨k,i,none⟩=some v:=(World.cell?_of_block (h.block k hk hn)).trans hc
theorem ButOne.st {g i:Nat} {w y:World} {v:Value} (h:ButOne g w y):ButOne g w (y.setCell ⟨g,i,none⟩ v):=⟨h.os,h.tape,h.output,by simpa using h.size,fun k hk hn=>(setC_other hn).trans (h.block k hk hn)⟩
end Go.Proofs.YticjodhkmidljaaGreatDoor
namespace Go.Proofs.YticjodhkmidljaaGreatDoor
open Go.RowKit
open Go.Maps (Keyed)
open Go.ChangeMaps Go.MapKept
def filR (nm x:ByteArray) (k:Int):List Value:=[.string nm,.string x,.int .i64 k]
end Go.Proofs.YticjodhkmidljaaGreatDoor
namespace Go.Proofs.YticjodhkmidljaaGreatDoor
open Go.RowKit
open Go.Maps (Keyed)
open Go.ChangeMaps Go.MapKept
set_option maxRecDepth 100000 in
theorem sorted_any (p:Nat) (w:World) :
    Calls Tryz.prog 41 #[.pointer (some ⟨p,0,none⟩)] w fun e w'=>e=.returned (.func (.func 74) #[] #[.pointer (some ⟨w.heap.size,0,none⟩)])∧w'.heap[w.heap.size]?=some (.cells #[.pointer (some ⟨p,0,none⟩)] 46 (0,0))∧Below w.heap.size w w':=by
  go_enter Tryz.func41,Tryz.ntmps41
  go_wp2
  go_ret
  exact ⟨rfl,heap_alloc_new _ _,(Below.refl _ w).alloc (Nat.le_refl _) _⟩
end Go.Proofs.YticjodhkmidljaaGreatDoor
namespace Go.Proofs.YticjodhkmidljaaGreatDoor
open Go.RowKit Go.Maps Go.Sort Go.Shelf
def kyRen:Go.Shelf.Ren:=⟨(fun | 7=>76 | 10=>104 | n=>n),(fun | 0=>0 | 3=>91 | 4=>4 | 23=>84 | 26=>9 | 27=>133 | 28=>134 | 33=>169 | n=>n),(fun n=>n)⟩
theorem lay_keys:SlLaysZ.n7 Tryz.prog kyRen :=
  { mixed:=by kernel_rfl,
    f7 := ⟨((Tryz.prog.funcs[76]?).map (fun x => x.name)).getD "", by kernel_rfl, Tryz.func76.trans (congrArg some (by kernel_rfl))⟩,
    f10 := ⟨((Tryz.prog.funcs[104]?).map (fun x => x.name)).getD "", by kernel_rfl, Tryz.func104.trans (congrArg some (by kernel_rfl))⟩,
    t0:=Tryz.underlying0,
    a0:=Tryz.isAgg0,
    z0:=Tryz.sizeOf0,
    v0:=Tryz.zeroValue0,
    t4:=Tryz.underlying4,
    a4:=Tryz.isAgg4,
    z4:=Tryz.sizeOf4,
    v4:=Tryz.zeroValue4,
    t23:=Tryz.underlying84,
    a23:=Tryz.isAgg84,
    z23:=Tryz.sizeOf84,
    v23:=Tryz.zeroValue84,
    t26:=Tryz.underlying9,
    a26:=Tryz.isAgg9,
    z26:=Tryz.sizeOf9,
    v26:=Tryz.zeroValue9,
    t27:=Tryz.underlying133,
    a27:=Tryz.isAgg133,
    z27:=Tryz.sizeOf133,
    v27:=Tryz.zeroValue133,
    t28:=Tryz.underlying134,
    a28:=Tryz.isAgg134,
    z28:=Tryz.sizeOf134,
    v28:=Tryz.zeroValue134,
    t33:=Tryz.underlying169,
    a33:=Tryz.isAgg169,
    z33:=Tryz.sizeOf169,
    v33:=Tryz.zeroValue169 }
def ggRen:Go.Shelf.Ren:=⟨(fun | 6=>75 | 8=>102 | 9=>103 | 11=>135 | n=>n),(fun | 0=>0 | 3=>3 | 4=>4 | 24=>60 | 26=>9 | 28=>134 | 33=>169 | n=>n),(fun n=>n)⟩
theorem lay_sorted:SlLaysZ.n6 Tryz.prog ggRen :=
  { mixed:=by kernel_rfl,
    f6 := ⟨((Tryz.prog.funcs[75]?).map (fun x => x.name)).getD "", by kernel_rfl, Tryz.func75.trans (congrArg some (by kernel_rfl))⟩,
    f8 := ⟨((Tryz.prog.funcs[102]?).map (fun x => x.name)).getD "", by kernel_rfl, Tryz.func102.trans (congrArg some (by kernel_rfl))⟩,
    f11 := ⟨((Tryz.prog.funcs[135]?).map (fun x => x.name)).getD "", by kernel_rfl, Tryz.func135.trans (congrArg some (by kernel_rfl))⟩,
    t0:=Tryz.underlying0,
    a0:=Tryz.isAgg0,
    z0:=Tryz.sizeOf0,
    v0:=Tryz.zeroValue0,
    t24:=Tryz.underlying60,
    a24:=Tryz.isAgg60,
    z24:=Tryz.sizeOf60,
    v24:=Tryz.zeroValue60,
    t26:=Tryz.underlying9,
    a26:=Tryz.isAgg9,
    z26:=Tryz.sizeOf9,
    v26:=Tryz.zeroValue9,
    t28:=Tryz.underlying134,
    a28:=Tryz.isAgg134,
    z28:=Tryz.sizeOf134,
    v28:=Tryz.zeroValue134,
    i26:=by kernel_rfl }
def sgRen:Go.Shelf.Ren:=⟨(fun | 6=>103 | 8=>101 | 9=>136 | 19=>134 | 20=>112 | 21=>158 | 22=>159 | 23=>160 | 24=>161 | 25=>162 | 26=>163 | 27=>164 | 28=>165 | 29=>166 | 31=>154 | 32=>155 | 36=>180 | 37=>181 | 38=>182 | 39=>183 | 41=>188 | n=>n),(fun | 0=>0 | 3=>3 | 4=>4 | 5=>5 | 9=>9 | 26=>60 | 27=>60 | 29=>9 | 32=>156 | 35=>195 | 36=>196 | 41=>145 | 44=>203 | 46=>22 | 53=>220 | 57=>223 | 63=>243 | 64=>244 | n=>n),(fun n=>n)⟩
theorem lay_sort:SlLaysM.n6 Tryz.prog sgRen :=
  { mixed:=by kernel_rfl,
    f6 := ⟨((Tryz.prog.funcs[103]?).map (fun x => x.name)).getD "", by kernel_rfl, Tryz.func103.trans (congrArg some (by kernel_rfl))⟩,
    f8:=Tryz.func101.trans (congrArg some (by kernel_rfl)),
    f9 := ⟨((Tryz.prog.funcs[136]?).map (fun x => x.name)).getD "", by kernel_rfl, Tryz.func136.trans (congrArg some (by kernel_rfl))⟩,
    f19:=Tryz.func134.trans (congrArg some (by kernel_rfl)),
    f20:=Tryz.func112.trans (congrArg some (by kernel_rfl)),
    f21 := ⟨((Tryz.prog.funcs[158]?).map (fun x => x.name)).getD "", by kernel_rfl, Tryz.func158.trans (congrArg some (by kernel_rfl))⟩,
    f22 := ⟨((Tryz.prog.funcs[159]?).map (fun x => x.name)).getD "", by kernel_rfl, Tryz.func159.trans (congrArg some (by kernel_rfl))⟩,
    f23 := ⟨((Tryz.prog.funcs[160]?).map (fun x => x.name)).getD "", by kernel_rfl, Tryz.func160.trans (congrArg some (by kernel_rfl))⟩,
    f24 := ⟨((Tryz.prog.funcs[161]?).map (fun x => x.name)).getD "", by kernel_rfl, Tryz.func161.trans (congrArg some (by kernel_rfl))⟩,
    f25 := ⟨((Tryz.prog.funcs[162]?).map (fun x => x.name)).getD "", by kernel_rfl, Tryz.func162.trans (congrArg some (by kernel_rfl))⟩,
    f26 := ⟨((Tryz.prog.funcs[163]?).map (fun x => x.name)).getD "", by kernel_rfl, Tryz.func163.trans (congrArg some (by kernel_rfl))⟩,
    f27 := ⟨((Tryz.prog.funcs[164]?).map (fun x => x.name)).getD "", by kernel_rfl, Tryz.func164.trans (congrArg some (by kernel_rfl))⟩,
    f28 := ⟨((Tryz.prog.funcs[165]?).map (fun x => x.name)).getD "", by kernel_rfl, Tryz.func165.trans (congrArg some (by kernel_rfl))⟩,
    f29 := ⟨((Tryz.prog.funcs[166]?).map (fun x => x.name)).getD "", by kernel_rfl, Tryz.func166.trans (congrArg some (by kernel_rfl))⟩,
    f31:=Tryz.func154.trans (congrArg some (by kernel_rfl)),
    f32:=Tryz.func155.trans (congrArg some (by kernel_rfl)),
    f36 := ⟨((Tryz.prog.funcs[180]?).map (fun x => x.name)).getD "", by kernel_rfl, Tryz.func180.trans (congrArg some (by kernel_rfl))⟩,
    f37 := ⟨((Tryz.prog.funcs[181]?).map (fun x => x.name)).getD "", by kernel_rfl, Tryz.func181.trans (congrArg some (by kernel_rfl))⟩,
    f38 := ⟨((Tryz.prog.funcs[182]?).map (fun x => x.name)).getD "", by kernel_rfl, Tryz.func182.trans (congrArg some (by kernel_rfl))⟩,
    f39 := ⟨((Tryz.prog.funcs[183]?).map (fun x => x.name)).getD "", by kernel_rfl, Tryz.func183.trans (congrArg some (by kernel_rfl))⟩,
    f41 := ⟨((Tryz.prog.funcs[188]?).map (fun x => x.name)).getD "", by kernel_rfl, Tryz.func188.trans (congrArg some (by kernel_rfl))⟩,
    t0:=Tryz.underlying0,
    a0:=Tryz.isAgg0,
    z0:=Tryz.sizeOf0,
    v0:=Tryz.zeroValue0,
    t3:=Tryz.underlying3,
    a3:=Tryz.isAgg3,
    z3:=Tryz.sizeOf3,
    v3:=Tryz.zeroValue3,
    t4:=Tryz.underlying4,
    a4:=Tryz.isAgg4,
    z4:=Tryz.sizeOf4,
    v4:=Tryz.zeroValue4,
    t5:=Tryz.underlying5,
    a5:=Tryz.isAgg5,
    z5:=Tryz.sizeOf5,
    v5:=Tryz.zeroValue5,
    t9:=Tryz.underlying9,
    a9:=Tryz.isAgg9,
    z9:=Tryz.sizeOf9,
    v9:=Tryz.zeroValue9,
    t26:=Tryz.underlying60,
    a26:=Tryz.isAgg60,
    z26:=Tryz.sizeOf60,
    v26:=Tryz.zeroValue60,
    t27:=Tryz.underlying60,
    a27:=Tryz.isAgg60,
    z27:=Tryz.sizeOf60,
    v27:=Tryz.zeroValue60,
    t29:=Tryz.underlying9,
    a29:=Tryz.isAgg9,
    z29:=Tryz.sizeOf9,
    v29:=Tryz.zeroValue9,
    t32:=Tryz.underlying156,
    a32:=Tryz.isAgg156,
    z32:=Tryz.sizeOf156,
    v32:=Tryz.zeroValue156,
    t35:=Tryz.underlying195,
    a35:=Tryz.isAgg195,
    z35:=Tryz.sizeOf195,
    v35:=Tryz.zeroValue195,
    t36:=Tryz.underlying196,
    a36:=Tryz.isAgg196,
    z36:=Tryz.sizeOf196,
    v36:=Tryz.zeroValue196,
    t41:=Tryz.underlying145,
    a41:=Tryz.isAgg145,
    z41:=Tryz.sizeOf145,
    v41:=Tryz.zeroValue145,
    t44:=Tryz.underlying203,
    a44:=Tryz.isAgg203,
    z44:=Tryz.sizeOf203,
    v44:=Tryz.zeroValue203,
    t46:=Tryz.underlying22,
    a46:=Tryz.isAgg22,
    z46:=Tryz.sizeOf22,
    v46:=Tryz.zeroValue22,
    t53:=Tryz.underlying220,
    a53:=Tryz.isAgg220,
    z53:=Tryz.sizeOf220,
    v53:=Tryz.zeroValue220,
    t57:=Tryz.underlying223,
    a57:=Tryz.isAgg223,
    z57:=Tryz.sizeOf223,
    v57:=Tryz.zeroValue223,
    t63:=Tryz.underlying243,
    a63:=Tryz.isAgg243,
    z63:=Tryz.sizeOf243,
    v63:=Tryz.zeroValue243,
    t64:=Tryz.underlying244,
    a64:=Tryz.isAgg244,
    z64:=Tryz.sizeOf244,
    v64:=Tryz.zeroValue244 }
end Go.Proofs.YticjodhkmidljaaGreatDoor
namespace Go.Proofs.YticjodhkmidljaaGreatDoor
open Go.RowKit Go.Maps Go.Sort Go.Shelf
theorem sorts_in (m:Nat):AnyZ.SortsIn Tryz.prog ggRen Fence.wide m :=
  ⟨fun blk off cap ss W hH hblk hsz=>callsIn_wide.2 (AnyM.slices_Sort_string lay_sort blk off cap ss W hH hblk hsz),
   fun p cap W=>callsIn_wide.2 (AnyM.slices_Sort_string_none lay_sort p cap W)⟩
theorem keys_in (mb:Option Nat) (W:World):CallsIn Fence.wide 5 Tryz.prog 76 #[.map mb] W fun e w'=>e=.returned (.func (.func 104) #[] #[.pointer (some ⟨W.heap.size,0,none⟩)])∧w'=W.alloc (.cells #[.map mb] 84) :=
  AnyZ.keys_in lay_keys Fence.wide 5 trivial rfl mb W
set_option maxHeartbeats 1000000 in
theorem sorted_keys {H:Type} (b nn:Nat) (D0:DataW H) (R:Value→Option (DataW H × List MemPlace)) (w:World) (hown:w.ownsMap Tryz.prog 9 R b nn D0) (hmax:Maps.size D0≤maxLen) (hbytes:Maps.size D0*16≤140737488355328) :
    CallsIn Fence.wide 5 Tryz.prog 75 #[.func (.func 104) #[] #[.pointer (some ⟨w.heap.size,0,none⟩)]] (w.alloc (.cells #[.map (some b)] 84)) fun e w'=>∃ (v:Value) (ss:List (List UInt8)),e=.returned v∧ss.Perm (strKeys D0) ∧
      w'.ownsRow (w.alloc (.cells #[.map (some b)] 84)).heap.size 9 1 v ss.length ((ss.mergeSort (fun x y=>decide (x≤y))).map encStr)∧(v=.slice none 0 0 ↔ ss=[])∧Below (w.alloc (.cells #[.map (some b)] 84)).heap.size (w.alloc (.cells #[.map (some b)] 84)) w':=by
  have hbl:=hown.lt
  have hseq:SeqGives Fence.wide 2 Tryz.prog 104 #[.pointer (some ⟨w.heap.size,0,none⟩)] encStr (fun ss=>ss.Perm (strKeys D0)) (Maps.size D0) (w.alloc (.cells #[.map (some b)] 84)) :=
    AnyZ.keys_gives (ρ:=kyRen) { lay_keys with } Fence.wide _ trivial rfl (by omega) w.heap.size b nn D0 _ (by simp) (by simp) (by
      obtain ⟨es,clock,hb,Ft,hs,hD⟩:=hown
      exact ⟨es,clock,(Below.heap_alloc _ _ b hbl).trans hb,Ft,hs,hD⟩)
  exact AnyZ.sorted_in lay_sorted Fence.wide 5 trivial trivial trivial trivial rfl (by omega) (sorts_in _) (enters_of Tryz.func103 (by kernel_rfl) rfl) 104 #[.pointer (some ⟨w.heap.size,0,none⟩)] trivial (enters_of Tryz.func104 (by kernel_rfl) rfl) _ _ hmax hbytes _ hseq
end Go.Proofs.YticjodhkmidljaaGreatDoor
namespace Go.Proofs.YticjodhkmidljaaGreatDoor
open Go.RowKit Go.Maps Go.Sort Go.Shelf
theorem find_some {x:Bs} {l:List FilV}:(findF x l).isSome=true ↔ x ∈ l.map (fun f=>f.nm):=by
  unfold findF
  rw [List.find?_isSome,List.mem_map]
  constructor
  · rintro ⟨f,h1,h2⟩
    exact ⟨f,h1,by simpa using h2⟩
  · rintro ⟨f,h1,rfl⟩
    exact ⟨f,h1,by simp⟩
theorem DskAt.names {w:World} {p b n:Nat} {C:Bs→Nat} {L:List Nat} {D:DskV} (h:DskAt w p b n C L D):∃ D0:DataW Value,w.ownsMap Tryz.prog 9 Rv b n D0∧Maps.size D0=D.fs.length∧(∀ f ∈ D.fs,f.nm.length≤maxLen) ∧
    ∀ ss:List (List UInt8),ss.Perm (strKeys D0)→ss.mergeSort (fun x y=>decide (x≤y))=D.fs.map (fun f=>f.nm):=by
  obtain ⟨D0,ho,hM,hs⟩:=h.m
  have hperm:(D.fs.map (fun f=>f.nm)).Perm (strKeys D0):=by
    obtain ⟨es,hD,hpw,_⟩:=ho.entries lawSt
    obtain ⟨es',hD',hko⟩:=ho.keysOf
    obtain rfl:es=es':=by rw [hD] at hD';simpa using hD'
    subst hD
    refine perm_strKeys hpw (fun p hp=>by obtain ⟨v,hv⟩:=hko p hp;obtain ⟨x,_,hx,_⟩:=Maps.keyOf_str Tryz.underlying9 hv;exact ⟨x,hx⟩) ?_ (fun x=>?_)
    · exact List.pairwise_map.2 ((show List.Pairwise (fun (f g:FilV)=>f.nm<g.nm) D.fs from h.ris).imp fun {a b} (hlt:a.nm<b.nm) (e:a.nm=b.nm)=>by rw [e] at hlt;exact List.lt_irrefl _ hlt)
    · rw [(hM (.string x) trivial).1]
      show _ ↔ ((findF x D.fs).map _).isSome=true
      rw [Option.isSome_map]
      exact find_some.symm
  refine ⟨D0,ho,hs,fun f hf=>strKeys_le ho Tryz.underlying9 _ (hperm.mem_iff.1 (List.mem_map.2 ⟨f,hf,rfl⟩)),fun ss hss=>?_⟩
  rw [show ss.mergeSort (fun x y=>decide (x≤y))=(D.fs.map (fun f=>f.nm)).mergeSort (fun x y=>decide (x≤y)) from mergeSort_of_perm (hss.trans hperm.symm)]
  exact List.mergeSort_of_pairwise (List.pairwise_map.2 ((show List.Pairwise (fun (f g:FilV)=>f.nm<g.nm) D.fs from h.ris).imp fun {a b} (hlt:a.nm<b.nm)=>by simpa using List.le_of_lt hlt))
end Go.Proofs.YticjodhkmidljaaGreatDoor
namespace Go.Proofs.YticjodhkmidljaaGreatDoor
open Go Go.RowKit
/-- Whatever turns blocks of Z alone, J stands. -/
def AbidesZ {β:Type} (Z:Nat→Prop) (J:β→World→Prop):Prop:=∀ s A B row,J s A→A.grownBy B row→(∀ r,row=some r→Z r)→J s B
/-- The blocks of Z lie as they lay. -/
def KeptZ (Z:Nat→Prop) (A B:World):Prop:=∀ r o,Z r→A.heap[r]?=some o→B.heap[r]?=some o
theorem KeptZ.trans {Z:Nat→Prop} {A B C:World} (h:KeptZ Z A B) (k:KeptZ Z B C):KeptZ Z A C:=fun r o hr e=>k r o hr (h r o hr e)
theorem KeptZ.sub {Z Y:Nat→Prop} {A B:World} (h:KeptZ Z A B) (hs:∀ r,Y r→Z r):KeptZ Y A B:=fun r o hr e=>h r o (hs r hr) e
theorem KeptZ.put {Z:Nat→Prop} {A:World} {l:Nat} (h : ¬ Z l) (o:Obj):KeptZ Z A (A.putObj l o):=fun r o' hr e=>(World.putObj_heap_other (fun q=>h (by first | (rw [q];exact hr) | (rw [← q];exact hr)))).trans e
/-- How a round may be left. -/
def ownPostZ {α:Type} (Z:Nat→Prop) (I:List α→World→Prop) (Ix:Code→List α→World→Prop) (xs:List α) (W:World):Exit→Act→World→Prop
  | .normal,_,W'=>KeptZ Z W W'∧I xs W'
  | .ret,_,W'=>KeptZ Z W W'∧Ix .ret xs W'
  | .exit id,_,W'=>KeptZ Z W W'∧Ix (.exit id) xs W'
  | .goto t,_,W'=>KeptZ Z W W'∧Ix (.goto t) xs W'
  | .panic _,_,_=>False
  | .outgrown,_,_=>False
variable {F : Fence} {n : Nat} {P : Program}
end Go.Proofs.YticjodhkmidljaaGreatDoor
namespace Go.Proofs.YticjodhkmidljaaGreatDoor
open Go Go.RowKit
/-- All blocks of Y are new behind w. -/
def NewY (Y:Nat→Prop) (w:World):Prop:=∀ r,Y r→w.heap.size≤r
/-- An iterator's law: it names the blocks that are its own when it has laid them; all of them are new; whatever the rounds do, they leave what the iterator reads (Rd). -/
def SeqY {α:Type} (F:Fence) (n:Nat) (P:Program) (g:Nat) (lb:Array Value) (encs:α→Array Value) (S Sp:List α→Prop) (Rd:World→Prop) (w:World):Prop :=
  ∀ (l:Nat) (J Jx:(Nat→Prop)→List α→World→Prop) (W:World),Below w.heap.size w W→(∀ Y,NewY Y W→AbidesZ Y (J Y))→(∀ Y,NewY Y W→AbidesZ Y (Jx Y))→(∀ Y pre W1,J Y pre W1→Rd W1) →
    (∀ Y pre x W1,NewY Y W→J Y pre W1→(∀ r,Y r→r<W1.heap.size)→Sp (pre++[x])→YieldAt F (n - 1) P l (encs x) W1 fun e W' =>
      (e=.returned (.bool true)∧J Y (pre++[x]) W'∧KeptZ Y W1 W')∨(e=.returned (.bool false)∧Jx Y (pre++[x]) W'∧KeptZ Y W1 W')) →
    (∀ Y,NewY Y W→J Y [] W) →
    CallsIn F n P g (#[.func (.yield l) #[] #[]]++lb) W fun e W'=>(∃ v,e=.returned v)∧∃ Y:Nat→Prop,NewY Y W∧((∃ xs,S xs∧J Y xs W')∨(∃ pre,Sp pre∧Jx Y pre W'))
variable {F : Fence} {n : Nat} {P : Program}
theorem wpIn_rangeY {α:Type} {g:Operand} {ps:Array Tmp} {assign body:Code} {Q:Exit→Act→World→Prop} {a:Act} {w:World}
    (hro:F.round=none) (h1:1≤n) {gf:Nat} {lb:Array Value} (hg:a.eval g=.func (.func gf) #[] lb) (hFg:F.fn gf) (eg:∀ args w,(callFunc gf args).run P w=.ok (.enter gf args) w)
    {encs:α→Array Value} {S Sp:List α→Prop} {Rd:World→Prop} {w0:World} (hseq:SeqY F (n - 1) P gf lb encs S Sp Rd w0) (hb0:Below w0.heap.size w0 w) (hps:∀ x,(encs x).size=ps.size)
    (I:(Nat→Prop)→List α→World→Prop) (Ix:(Nat→Prop)→Code→List α→World→Prop) (hI:∀ Y,NewY Y w→AbidesZ Y (I Y)) (hIx:∀ Y,NewY Y w→∀ c,AbidesZ Y (Ix Y c)) (hRd:∀ Y pre W,I Y pre W→Rd W)
    (h0:∀ Y,NewY Y w→I Y [] w) (a₁:α→Act)
    (hassign:∀ (l:Nat) (x:α) (W:World) (K:Act→World→Prop),K (a₁ x) W →
      assign.wpIn (F.inRound l) (n - 1 - 1) P (Exit.then K (fun _ _ _=>False)) { tmps:=(ps.zip (encs x)).foldl (fun t (p,v)=>t.setIfInBounds p v) a.tmps,defers:=[] } W)
    (hbody:∀ (l:Nat) (Y:Nat→Prop) (pre:List α) (x:α) (W:World),NewY Y w→(∀ r,Y r→r<W.heap.size)→I Y pre W→Sp (pre++[x])→body.wpIn (F.inRound l) (n - 1 - 1) P (ownPostZ Y (I Y) (Ix Y) (pre++[x]) W) (a₁ x) W)
    (hdone:∀ (Y:Nat→Prop) (xs:List α) (W:World),NewY Y w→Y w.heap.size→S xs→I Y xs W→W.heap[w.heap.size]?=some (.deferred (some []))→Q .normal { a with defers:={ target:=.collected w.heap.size,args:=#[] }::a.defers } W)
    (hstop:∀ (Y:Nat→Prop) (c:Code) (pre:List α) (W:World),NewY Y w→Y w.heap.size→Sp pre→Ix Y c pre W→W.heap[w.heap.size]?=some (.deferred (some []))→c.wpIn F n P Q { a with defers:={ target:=.collected w.heap.size,args:=#[] }::a.defers } W) :
    (Code.rangeFunc g ps assign body).wpIn F n P Q a w:=by
  refine wpIn_rangeFunc (fun fn hfn=>?_)
  rw [hro]
  have hDd:∀ {X:Nat→Prop},NewY X w→∀ r,X r→w.heap.size≤r:=fun h r hr=>h r hr
  generalize hD:w.heap.size=D at *
  let rec0:LoopState→Option Code→Obj:=fun st pe=>.loop { state:=st,pending:=pe,fn,tmps:=a.tmps,params:=ps,assign,body,defers:=D }
  let V:=(w.alloc (.deferred (some []))).alloc (rec0 .ready none)
  have sV:V.heap.size=D+2:=by simp [V,hD]
  have rV:V.heap[D+1]?=some (rec0 .ready none):=by
    have h:=World.alloc_heap_new (w.alloc (.deferred (some []))) (rec0 .ready none)
    rwa [World.size_alloc,hD] at h
  have dV:V.heap[D]?=some (.deferred (some [])):=by
    have h:=World.alloc_heap_new w (.deferred (some []))
    rw [hD] at h
    exact (Below.heap_alloc _ _ _ (by rw [World.size_alloc];omega)).trans h
  have bw:Below w.heap.size w V:=((Below.refl _ w).alloc (Nat.le_refl _) _).alloc (by simp) _
  have bV:Below w0.heap.size w0 V:=hb0.trans (bw.mono hb0.size)
  let Zo:(Nat→Prop)→Nat→Prop:=fun Y r=>Y r∨r=D∨r=D+1
  have zN:∀ Y,NewY Y V→NewY (Zo Y) w:=fun Y hY r hr=>by
    rcases hr with h | h | h
    · have:=hY r h;omega
    · omega
    · omega
  have iV:∀ Y,NewY Y V→I (Zo Y) [] V:=fun Y hY=>hI _ (zN Y hY) _ _ _ none (h0 _ (zN Y hY)) ⟨bw.os,bw.tape,bw.output,bw.size,fun q hq _=>bw.block q hq⟩ (fun r e=>by cases e)
  have turn:∀ {β:Type} {Y:Nat→Prop} {J:β→World→Prop} (_:AbidesZ (Zo Y) J) {s:β} {A:World} (o:Obj),J s A→J s (A.putObj (D+1) o):=@fun β Y J hJ s A o h=>hJ s A _ (some (D+1)) h (grownBy_putObj' A (D+1) o) (fun r e=>by cases e;exact .inr (.inr rfl))
  refine ⟨D+1,[{ target:=.collected D,args:=#[] }],V,{ target:=.fn (.func gf) lb,args:=#[.func (.yield (D+1)) #[] #[]] },V,gf,#[.func (.yield (D+1)) #[] #[]]++lb,V,?_,?_,?_,?_,fun _=>h1,?_⟩
  · subst hD;exact run_enterLoop_outer _ _ _ _ _
  · simp only [resolve,hg];simp [go_sem]
  · intro f' hf';simp [Target.leads] at hf';subst hf';exact hFg
  · simp [invoke,go_sem,eg]
  have yD:∀ {Y:Nat→Prop},NewY Y V → ¬ Y D:=fun hY h=>by have:=hY _ h;omega
  have yL:∀ {Y:Nat→Prop},NewY Y V → ¬ Y (D+1):=fun hY h=>by have:=hY _ h;omega
  have abide:∀ {Y:Nat→Prop} {A B:World} {row:Option Nat} {q:Nat} {o:Obj},A.grownBy B row→(∀ r,row=some r→Y r) → ¬ Y q→A.heap[q]?=some o→B.heap[q]?=some o:=fun hg hr hq h =>
    (hg.block _ (Array.getElem?_eq_some_iff.1 h).1 (fun e=>hq (hr _ e.symm))).trans h
  refine (hseq (D+1) (fun Y pre W=>I (Zo Y) pre W∧W.heap[D+1]?=some (rec0 .ready none)∧W.heap[D]?=some (.deferred (some [])))
    (fun Y pre W=>∃ c,Ix (Zo Y) c pre W∧W.heap[D+1]?=some (rec0 .done (some c))∧W.heap[D]?=some (.deferred (some []))) V bV
    (fun Y hY s A B row hs hg' hr=>⟨hI _ (zN Y hY) s A B row hs.1 hg' (fun r e=>.inl (hr r e)),abide hg' hr (yL hY) hs.2.1,abide hg' hr (yD hY) hs.2.2⟩)
    (fun Y hY s A B row hs hg' hr=>hs.elim fun c hc=>⟨c,hIx _ (zN Y hY) c s A B row hc.1 hg' (fun r e=>.inl (hr r e)),abide hg' hr (yL hY) hc.2.1,abide hg' hr (yD hY) hc.2.2⟩)
    (fun Y pre W1 h=>hRd _ _ _ h.1) ?_ (fun Y hY=>⟨iV Y hY,rV,dV⟩)).mono ?_
  · rintro Y pre x W hY ⟨hi,hl,hk⟩ hsz hSp
    have hlt:D+1<W.heap.size:=(Array.getElem?_eq_some_iff.1 hl).1
    have hItu:=hI _ (zN Y hY)
    have hIxu:=hIx _ (zN Y hY)
    have zD:Zo Y D:=.inr (.inl rfl)
    have zL:Zo Y (D+1):=.inr (.inr rfl)
    have hzz:∀ r,Zo Y r→r<W.heap.size:=fun r hr=>by
      rcases hr with h | h | h
      · exact hsz r h
      · omega
      · omega
    refine ⟨fn,_,assign,body,run_yield (P:=P) (args:=encs x) hl (hps x),roundIn_of_wpIn hfn (wpIn_mono (hassign (D+1) x W (fun a' W'=>a'=a₁ x∧W'=W) ⟨rfl,rfl⟩) (fun e a1 W1 he=>?_))⟩
    cases e with
    | normal =>
      obtain ⟨rfl,rfl⟩:=he
      refine ⟨_,run_beginRound hl rfl,wpIn_mono (hbody (D+1) (Zo Y) pre x _ (zN Y hY) (fun r hr=>by simpa using hzz r hr) (turn hItu _ hi) hSp) ?_⟩
      generalize hW2:W1.putObj (D+1) _=W2
      have hl2:W2.heap[D+1]?=some (rec0 .busy none):=by rw [← hW2];exact World.putObj_heap_same hlt
      have hk2:W2.heap[D]?=some (.deferred (some [])):=by rw [← hW2];exact (World.putObj_heap_other (by omega)).trans hk
      have ky:KeptZ Y W1 W2:=by rw [← hW2];exact KeptZ.put (yL hY) _
      have yZ:∀ r,Y r→Zo Y r:=fun r hr=>.inl hr
      have fin:∀ (jump:Option Code) (W3:World),KeptZ (Zo Y) W2 W3→W3.heap[D+1]?=some (rec0 .busy none)∧W3.heap[D]?=some (.deferred (some [])) ∧
          (Instr.endRound (D+1) jump).run P W3=.ok (.bool jump.isNone) (W3.putObj (D+1) (rec0 (if jump.isNone then .ready else .done) jump)):=fun jump W3 k3 =>
        ⟨k3 _ _ zL hl2,k3 _ _ zD hk2,run_endRound (P:=P) jump (k3 _ _ zL hl2)⟩
      have rest:∀ (st:LoopState) (pe:Option Code) (W3:World),W3.heap[D+1]?=some (rec0 .busy none)→W3.heap[D]?=some (.deferred (some [])) →
          (W3.putObj (D+1) (rec0 st pe)).heap[D+1]?=some (rec0 st pe)∧(W3.putObj (D+1) (rec0 st pe)).heap[D]?=some (.deferred (some [])):=fun st pe W3 h2 h3 =>
        ⟨World.putObj_heap_same (Array.getElem?_eq_some_iff.1 h2).1,(World.putObj_heap_other (by omega)).trans h3⟩
      intro e2 a3 W3 hp
      cases e2 with
      | normal =>
        obtain ⟨k3,i3⟩:=hp
        obtain ⟨h2,h3,hrun⟩:=fin none W3 k3
        exact ⟨_,_,hrun,.inl ⟨rfl,⟨turn hItu _ i3,rest _ _ _ h2 h3⟩,(ky.trans (k3.sub yZ)).trans (KeptZ.put (yL hY) _)⟩⟩
      | ret =>
        obtain ⟨h2,h3,hrun⟩:=fin (some .ret) W3 hp.1
        exact ⟨_,_,hrun,.inr ⟨rfl,⟨.ret,turn (hIxu _) _ hp.2,rest _ _ _ h2 h3⟩,(ky.trans (hp.1.sub yZ)).trans (KeptZ.put (yL hY) _)⟩⟩
      | exit id =>
        obtain ⟨h2,h3,hrun⟩:=fin (some (.exit id)) W3 hp.1
        exact ⟨_,_,hrun,.inr ⟨rfl,⟨.exit id,turn (hIxu _) _ hp.2,rest _ _ _ h2 h3⟩,(ky.trans (hp.1.sub yZ)).trans (KeptZ.put (yL hY) _)⟩⟩
      | goto t =>
        obtain ⟨h2,h3,hrun⟩:=fin (some (.goto t)) W3 hp.1
        exact ⟨_,_,hrun,.inr ⟨rfl,⟨.goto t,turn (hIxu _) _ hp.2,rest _ _ _ h2 h3⟩,(ky.trans (hp.1.sub yZ)).trans (KeptZ.put (yL hY) _)⟩⟩
      | panic ch=>exact hp.elim
      | outgrown=>exact hp.elim
    | exit id=>exact he.elim
    | goto t=>exact he.elim
    | ret=>exact he.elim
    | panic ch=>exact he.elim
    | outgrown=>exact he.elim
  · rintro e W2 ⟨⟨v,rfl⟩,Y,hY,(⟨xs,hS,hi,hl,hk⟩ | ⟨pre,hSp,c,hi,hl,hk⟩)⟩
    · exact ⟨none,_,run_endLoop (P:=P) hl (by simp),hdone (Zo Y) xs _ (zN Y hY) (.inr (.inl rfl)) hS (turn (hI _ (zN Y hY)) _ hi) ((World.putObj_heap_other (by omega)).trans hk)⟩
    · exact ⟨some c,_,run_endLoop (P:=P) hl (by simp),hstop (Zo Y) c pre _ (zN Y hY) (.inr (.inl rfl)) hSp (turn (hIx _ (zN Y hY) c) _ hi) ((World.putObj_heap_other (by omega)).trans hk)⟩
end Go.Proofs.YticjodhkmidljaaGreatDoor
namespace Go.Proofs.YticjodhkmidljaaGreatDoor
open Go.RowKit Go.Shelf
attribute [local go_sem] Oper.semAt_some
def encF (C:Bs→Nat) (f:FilV):Array Value:=#[.string ⟨f.nm.toArray⟩,.pointer (some ⟨C f.nm,0,none⟩)]
/-- What the iterator reads as it goes. -/
structure SrtRd (g0 p b n:Nat) (C:Bs→Nat) (fs:List FilV) (w:World):Prop where
  box:w.heap[g0]?=some (.cells #[.pointer (some ⟨p,0,none⟩)] 46 (0,0))
  dir:w.cell? ⟨p,0,none⟩=some (.map (some b))
  m:MpS Tryz.prog 9 w b n fs.length (dirM C fs)
theorem KeptZ.refl (Z:Nat→Prop) (A:World):KeptZ Z A A:=fun _ _ _ h=>h
theorem KeptZ.lt {Z:Nat→Prop} {A B:World} (h:KeptZ Z A B) {r:Nat} (hr:Z r) (hl:r<A.heap.size):r<B.heap.size :=
  (Array.getElem?_eq_some_iff.1 (h r _ hr (Array.getElem?_eq_getElem hl))).1
/-- A row of names, as the iterator reads it. -/
theorem names_row {w:World} {base N:Nat} {t:TypeId} {v:Value} {l:List Bs} (hN:l.length=N) (h:w.ownsRow base t 1 v N (l.map encStr)):∃ A c,v=.slice A N c∧∃ Y:Nat→Prop,(∀ r,Y r→base≤r∧r<w.heap.size) ∧
    ∀ i x,l[i]?=some x→∃ g,A=some ⟨g,0,none⟩∧∀ y,KeptZ Y w y→y.cell? ⟨g,i,none⟩=some (.string ⟨x.toArray⟩):=by
  rcases h.2 with ⟨rfl,h0⟩ | ⟨g,cap,cur,rfl,hb,hg,hc1,_,hcs,ht⟩
  · have hl:l=[]:=List.length_eq_zero_iff.1 (by omega)
    subst hl
    exact ⟨none,0,by rw [h0],fun _=>False,fun _ h=>h.elim,fun i x hx=>by simp at hx⟩
  · refine ⟨_,_,rfl,fun r=>r=g,fun r hr=>by subst hr;exact ⟨hb,(Array.getElem?_eq_some_iff.1 hg).1⟩,fun i x hx=>⟨g,rfl,fun y hy=>?_⟩⟩
    have hi:i<l.length:=(List.getElem?_eq_some_iff.1 hx).1
    have e1:(cur.toList.take (N*1))[i]?=some (.string ⟨x.toArray⟩):=by
      rw [ht,List.getElem?_map,hx]
      rfl
    rw [List.getElem?_take,if_pos (by omega)] at e1
    unfold World.cell?
    rw [hy g _ rfl hg]
    show cur[i]?=_
    rw [← Array.getElem?_toList]
    exact e1
theorem dir_look {g0 p b n:Nat} {C:Bs→Nat} {fs:List FilV} {w:World} (h:SrtRd g0 p b n C fs w) (hr:Rise fs) {f:FilV} (hf:f ∈ fs) (hl:f.nm.length≤maxLen) :
    (Instr.lookup 84 (.map (some b)) (.string ⟨f.nm.toArray⟩) false).run Tryz.prog w=.ok (.pointer (some ⟨C f.nm,0,none⟩)) w:=by
  have h1:=h.m.at_.look (t:=84) lawSt Tryz.underlying84 (zero_ptr w) (key_st (s:=⟨f.nm.toArray⟩) (by simpa [ByteArray.size] using hl))
  rw [h1,show dirM C fs (.string (⟨f.nm.toArray⟩:ByteArray).data.toList)=some (.pointer (some ⟨C f.nm,0,none⟩)) from by
    show (findF f.nm fs).map _=_
    rw [find_of hr hf]
    rfl]
  rfl
set_option maxRecDepth 100000 in
set_option maxHeartbeats 4000000 in
theorem sorted_stops (m g0 p b n:Nat) (C:Bs→Nat) (L:List Nat) (D:DskV) (hlen:D.fs.length≤1000000) (w:World) (h:DskAt w p b n C L D) (hbx:w.heap[g0]?=some (.cells #[.pointer (some ⟨p,0,none⟩)] 46 (0,0))) :
    SeqY Fence.wide m Tryz.prog 74 #[.pointer (some ⟨g0,0,none⟩)] (encF C) (fun ys=>ys=D.fs) (fun pre=>pre <+: D.fs) (SrtRd g0 p b n C D.fs) w:=by
  intro l J Jx W hW hJ hJx hRd hY h0
  have hd:=h.below hW
  have hc0:=(hd.cells).1
  have cbx:W.cell? ⟨g0,0,none⟩=some (.pointer (some ⟨p,0,none⟩)):=cell_of_row _ _ _ _ _ _ ((hW.block g0 (Array.getElem?_eq_some_iff.1 hbx).1).trans hbx)
  obtain ⟨D0,hown,hsz,hnm,hsort⟩:=hd.names
  have Hk:=Lib.hid (callsIn_wide.1 (keys_in (some b) W))
  have Hs:=Lib.hid (callsIn_wide.1 (sorted_keys b n D0 Rv W hown (by rw [hsz];simp [maxLen];omega) (by rw [hsz];omega)))
  have HA:=Lib.hid (And.intro hJ (And.intro hJx (And.intro hRd (And.intro hY h0))))
  have HS:=Lib.hid (And.intro hsort (And.intro hnm (And.intro hsz (And.intro hlen hd.ris))))
  clear h hbx hJ hJx hRd hY h0 hown hsz hnm hsort hlen hd hW
  refine callsIn_of_wp Tryz.func74 rfl trivial ?_ rfl
  simp only [Tryz.ntmps74,List.size_toArray,List.length_cons,List.length_nil,Nat.reduceAdd,Nat.reduceSub,Array.replicate_succ,Array.replicate_zero,List.push_toArray,List.append_toArray,List.nil_append,List.cons_append]
  gi_wp2_with (first
    | (refine ⟨trivial,(fun h=>(by cases h)),?_⟩;(with_reducible refine (callsIn_wide.2 Hk.out).mono ?_);rintro e w1 ⟨rfl,rfl⟩;dsimp only)
    | (refine ⟨trivial,(fun h=>(by cases h)),?_⟩;(with_reducible refine (callsIn_wide.2 Hs.out).mono ?_);rintro e w1 ⟨v,ss,rfl,k1,k2,k3,k4⟩
       have e1:=HS.out.1 ss k1
       have e2:ss.length=D.fs.length:=by rw [← List.length_mergeSort (le:=fun x y=>decide (x≤y)) ss,e1,List.length_map]
       rw [e1,e2] at k2
       obtain ⟨A,c,rfl,Y,hY1,hY2⟩:=names_row (by rw [List.length_map]) k2
       have HR:=Lib.hid (And.intro hY1 (And.intro hY2 k4));clear k1 k2 k3 k4 e1 e2 hY1 hY2;dsimp only)
    | gi_in)
  have HY:=Lib.hid (show NewY Y W from fun r hr=>by have:=HR.out.1 r hr;simp at this;omega)
  have HYl:=Lib.hid (show ∀ r,Y r→r<w1.heap.size from fun r hr=>(HR.out.1 r hr).2)
  have hbW:Below W.heap.size W w1:=(((Below.refl W.heap.size W).alloc (Nat.le_refl _) (.cells #[.map (some b)] 84))).trans (HR.out.2.2.mono (by simp))
  have HJ1:=Lib.hid (show J Y [] w1 from HA.out.1 Y HY.out [] W w1 none (HA.out.2.2.2.2 Y HY.out) ⟨hbW.os,hbW.tape,hbW.output,hbW.size,fun q hq _=>hbW.block q hq⟩ (fun r e=>by cases e))
  obtain ⟨N,hN⟩:∃ N,N=D.fs.length:=⟨_,rfl⟩
  rw [← hN]
  have HN:=Lib.hid hN
  have hN6:N≤1000000:=by rw [hN];exact HS.out.2.2.2.1
  clear hbW hN
  gi_loopw [12] (fun s12 wr=>∃ i:Nat,s12=.int .i64 (i:Int)∧i≤N∧J Y (D.fs.take i) wr∧KeptZ Y w1 wr) (fun s12 _=>N - (intOf s12).toNat)
  case atStart=>exact ⟨0,rfl,Nat.zero_le _,HJ1.out,KeptZ.refl _ _⟩
  case round =>
    obtain ⟨i,rfl,hi,hj,hk⟩:=hrel
    have hrd:=HA.out.2.2.1 Y _ _ hj
    have cb:wr.cell? ⟨g0,0,none⟩=some (.pointer (some ⟨p,0,none⟩)):=cell_of_row _ _ _ _ _ _ hrd.box
    have cd:=hrd.dir
    by_cases hiN:i<N
    · have hiI:(i:Int)<(N:Int):=by omega
      have hif:i<D.fs.length:=by rw [← HN.out];exact hiN
      obtain ⟨f,hf⟩:∃ f,f=D.fs[i]:=⟨_,rfl⟩
      have hfm:f ∈ D.fs:=by rw [hf];exact List.getElem_mem hif
      obtain ⟨gk,rfl,hck⟩:=HR.out.2.1 i f.nm (by rw [List.getElem?_map,List.getElem?_eq_getElem hif,hf];rfl)
      have hcw:=hck wr hk
      have hlk:=dir_look hrd HS.out.2.2.2.2 hfm (HS.out.2.1 f hfm)
      have htake:D.fs.take (i+1)=D.fs.take i++[f]:=by rw [List.take_add_one,List.getElem?_eq_getElem hif,hf];rfl
      obtain ⟨fn,tmps,assign,body,hy,hR⟩:=HA.out.2.2.2.1 Y (D.fs.take i) f wr HY.out hj (fun r hr=>hk.lt hr (HYl.out r hr)) (by rw [← htake];exact List.take_prefix _ _)
      have HRn:=Lib.hid hR
      have HK:=Lib.hid hk
      have HT:=Lib.hid htake
      have hw1:wrap64 ((i:Int)+1)=((i+1:Nat):Int):=by unfold wrap64;omega
      simp only [encF] at hy
      clear hR hk hj hrd hck hf hif hfm htake
      gi_wp2
      refine ⟨fun h=>(by cases h),HRn.out.mono ?_⟩
      rintro e W3 (⟨rfl,hJ3,hk3⟩ | ⟨rfl,hJ3,_⟩)
      · have H3:=Lib.hid (And.intro hJ3 (HK.out.trans hk3))
        clear hJ3 hk3
        dsimp only
        gi_wp2
        exact ⟨⟨i+1,by rw [Int.natCast_add];rfl,by omega,by rw [HT.out];exact H3.out.1,H3.out.2⟩,by simp only [intOf];omega⟩
      · have H3:=Lib.hid hJ3
        clear hJ3
        dsimp only
        gi_wp2
        refine bodyPost_ret (results_none rfl _ _ _) rfl ?_
        exact ⟨⟨_,rfl⟩,Y,HY.out,.inr ⟨_,by rw [← HT.out];exact List.take_prefix _ _,H3.out⟩⟩
    · have hiI : ¬ (i:Int)<(N:Int):=by omega
      have hie:i=N:=by omega
      have hjN:J Y D.fs wr:=by rw [hie,HN.out,List.take_length] at hj;exact hj
      have H3:=Lib.hid hjN
      clear hj hrd hk hjN hie
      gi_wp2
      go_end0
      exact ⟨⟨_,rfl⟩,Y,HY.out,.inl H3.out⟩
end Go.Proofs.YticjodhkmidljaaGreatDoor
namespace Go.Proofs.YticjodhkmidljaaGreatDoor
open Go Go.RowKit
theorem opIn_append {F:Fence} {n:Nat} {P:Program} (w:World) {o:Oper} {a:Act} {K:Act→World→Prop} {Q:Exit→Act→World→Prop}
    (s x:Operand) (t:TypeId) (hop:o.op=Op.call { callee:=Callee.builtin Builtin.append,args:=#[s,x],argTypes:=#[t,t] })
    (base:Nat) (e:TypeId) (i:TypeInfo) (z:Value) (size bytes:Nat) (h1:P.underlying t=some (.slice e)) (h2:P.info? e=some i) (h3:i.zero=some z) (h4:i.size=size) (h5:i.bytes=bytes) (h6:z.cells.size=size) (h7:0<size)
    (v:Value) (k:Nat) (xs:List Value) (hs:a.eval s=v) (hown:w.ownsRow base e size v k xs) (ad:Addr) (m c:Nat) (news:List Value) (hx:a.eval x=.slice (some ad) m c) (hn:news.length=m*size)
    (hc:∀ j u,news[j]?=some u→w.cell? (ad.add j)=some u) (h1c:∀ u ∈ news,u.oneCell'=true) (b1:k+m≤maxLen) (b2:(k+m)*bytes≤140737488355328) (b3:base≤w.heap.size)
    (hK:∀ v' w',w'.ownsRow base e size v' (k+m) (xs++news)→w.grownBy w' v.ownBlock→(v'=.slice none 0 0 ↔ v=.slice none 0 0∧m=0)→K (a.put o.dst v') w') :
    o.wpIn F n P a w K Q:=by
  obtain ⟨v',w',hrun,r1,r2,r3⟩:=run_append_own (P:=P) w base t o.type e i z size bytes h1 h2 h3 h4 h5 h6 h7 v k xs hown ad m c news hn hc h1c b1 b2 b3
  unfold Oper.wpIn
  refine ⟨?_,?_⟩
  · simp [Oper.about,hop,resolve,Target.leads,Sem.run_pure]
  · rw [Oper.semAt_plain F _ _ (by rw [hop];intro c hc';cases hc')]
    simp [execOp,hop,resolve,invoke,builtin,hs,hx,hrun,Result.andThen]
    exact hK v' w' r1 r2 r3
/-- A contract without a fence serves in a round. -/
theorem calls_rnd {l n:Nat} {P:Program} {f:FuncId} {args:Array Value} {w:World} {R:Ending→World→Prop} (h:Calls P f args w R):CallsIn (Fence.wide.inRound l) n P f args w R :=
  show CallsIn Fence.wide n P f args w R from callsIn_wide.2 h
end Go.Proofs.YticjodhkmidljaaGreatDoor
namespace Go.Proofs.YticjodhkmidljaaGreatDoor
open Go.RowKit
section
variable {α : Type} {enc : α → List Value} {k : Nat}
/-- The cells of a row. -/
def flat (enc:α→List Value) (z:List α):List Value:=z.flatMap enc
theorem flat_len (hk:∀ x,(enc x).length=k):∀ z:List α,(flat enc z).length=z.length*k
  | []=>by simp [flat]
  | x::r=>by
    have h:=flat_len hk r
    unfold flat at *
    rw [List.flatMap_cons,List.length_append,hk,h,List.length_cons,Nat.succ_mul]
    omega
theorem flat_app (z y:List α):flat enc (z++y)=flat enc z++flat enc y:=by simp [flat]
theorem flat_at (hk:∀ x,(enc x).length=k):∀ (z:List α) (i r:Nat) (x:α) (u:Value),z[i]?=some x→(enc x)[r]?=some u→(flat enc z)[i*k+r]?=some u
  | [],_,_,_,_,h,_=>by simp at h
  | y::l,0,r,x,u,h,hu=>by
    simp at h
    subst h
    have hr:r<(enc y).length:=(List.getElem?_eq_some_iff.1 hu).1
    unfold flat
    rw [List.flatMap_cons,Nat.zero_mul,Nat.zero_add,List.getElem?_append_left hr,hu]
  | y::l,i+1,r,x,u,h,hu=>by
    simp at h
    have ih:=flat_at hk l i r x u h hu
    unfold flat at *
    rw [List.flatMap_cons,List.getElem?_append_right (by rw [hk,Nat.succ_mul];omega),hk,Nat.succ_mul,show i*k+k+r - k=i*k+r by omega]
    exact ih
theorem flat_get (hk:∀ x,(enc x).length=k) (hk0:0<k) {z:List α} {j:Nat} {u:Value} (h:(flat enc z)[j]?=some u):∃ x,z[j / k]?=some x∧(enc x)[j % k]?=some u:=by
  have hj:j<z.length*k:=by
    have:=(List.getElem?_eq_some_iff.1 h).1
    rwa [flat_len hk] at this
  have hi:j / k<z.length:=Nat.div_lt_of_lt_mul (by rw [Nat.mul_comm];exact hj)
  have hr:j % k<(enc z[j / k]).length:=by rw [hk];exact Nat.mod_lt _ hk0
  have e:=flat_at hk z (j / k) (j % k) z[j / k] _ (List.getElem?_eq_getElem hi) (List.getElem?_eq_getElem hr)
  rw [show j / k*k+j % k=j by rw [Nat.mul_comm];exact Nat.div_add_mod j k,h] at e
  cases e
  exact ⟨_,List.getElem?_eq_getElem hi,List.getElem?_eq_getElem hr⟩
theorem flat_one (h1:∀ x,∀ u ∈ enc x,u.oneCell'=true) (z:List α):∀ u ∈ flat enc z,u.oneCell'=true:=by
  intro u hu
  obtain ⟨x,_,hx⟩:=List.mem_flatMap.1 hu
  exact h1 x u hx
/-- An owned row reads as its elements. -/
theorem own_slice {w:World} {base:Nat} {e:TypeId} {A:Option Addr} {n c:Nat} {z:List α} (hk:∀ x,(enc x).length=k) (h:w.ownsRow base e k (.slice A n c) n (flat enc z)) (hz:z.length=n) (hm:n≤maxLen):SliceAt k enc w A n z:=by
  obtain ⟨h1,h2⟩:=h
  refine ⟨hz,hm,fun i x hx=>?_⟩
  have hi:i<z.length:=(List.getElem?_eq_some_iff.1 hx).1
  rcases h2 with ⟨_,h3⟩ | ⟨g,cap,cur,e1,_,hg,_,_,_,ht⟩
  · omega
  · cases e1
    refine ⟨g,0,rfl,(Array.getElem?_eq_some_iff.1 hg).1,fun j v hj=>?_⟩
    have e:=flat_at hk z i j x v hx hj
    have hlt:i*k+j<n*k:=by
      have:=(List.getElem?_eq_some_iff.1 e).1
      rwa [flat_len hk,hz] at this
    rw [← ht,List.getElem?_take,if_pos hlt,Array.getElem?_toList] at e
    simp only [World.cell?,hg,Nat.zero_add]
    simpa using e
theorem own_slice_of {w:World} {base:Nat} {e:TypeId} {v:Value} {n:Nat} {xs:List Value} (h:w.ownsRow base e k v n xs):∃ A c,v=.slice A n c:=by
  rcases h.2 with ⟨rfl,rfl⟩ | ⟨g,cap,cur,rfl,_⟩
  · exact ⟨none,0,rfl⟩
  · exact ⟨_,_,rfl⟩
/-- 'append(s, x...)', s owned, x a row of structs, nil or not. -/
theorem wp_append_slice {P:Program} {w:World} {o:Oper} {a:Act} {K:Act→World→Prop} {Q:Exit→Act→World→Prop} (s x:Operand) (t:TypeId)
    (ho:o.op=.call { callee:=.builtin .append,args:=#[s,x],argTypes:=#[t,t] })
    (base:Nat) (e:TypeId) (i:TypeInfo) (z0:Value) (bytes:Nat) (ht:P.underlying t=some (.slice e)) (hi:P.info? e=some i) (hz:i.zero=some z0)
    (hsize:i.size=k) (hby:i.bytes=bytes) (hzs:z0.cells.size=k) (hk0:0<k) (hk:∀ x,(enc x).length=k) (h1:∀ x,∀ u ∈ enc x,u.oneCell'=true)
    (v:Value) (n:Nat) (xs:List Value) (hs:a.eval s=v) (hown:w.ownsRow base e k v n xs) (A:Option Addr) (m c:Nat) (z:List α) (hx:a.eval x=.slice A m c) (hsrc:SliceAt k enc w A m z) (hnil:A=none→m=0∧c=0)
    (h63:n+m≤maxLen) (hbytes:(n+m)*bytes≤140737488355328) (hbase:base≤w.heap.size)
    (h:∀ v' w',w'.ownsRow base e k v' (n+m) (xs++flat enc z)→w.grownBy w' v.ownBlock→K (a.put o.dst v') w'):o.wp P a w K Q:=by
  cases A with
  | none =>
    obtain ⟨rfl,rfl⟩:=hnil rfl
    have hz0:z=[]:=List.eq_nil_of_length_eq_zero hsrc.hlen
    subst hz0
    have hrun:=run_append_owned_none (P:=P) (w:=w) base t o.type e i k ht hi v n xs hown
    have hh:=h v w (by simpa [flat] using hown) (World.grownBy.refl w _)
    unfold Oper.wp
    simp [execOp,ho,resolve,invoke,builtin,hs,hx,hrun,Result.andThen]
    exact hh
  | some ad =>
    refine wp_append_own w s x t ho base e i z0 k bytes ht hi hz hsize hby hzs hk0 v n xs hs hown ad m c (flat enc z) hx (by rw [flat_len hk,hsrc.hlen]) (fun j u hj=>?_) (flat_one h1 z) h63 hbytes hbase (fun v' w' h3 h4 _=>h v' w' h3 h4)
    obtain ⟨y,hy,hu⟩:=flat_get hk hk0 hj
    obtain ⟨b,o',e1,_,e3⟩:=hsrc.cells _ y hy
    cases e1
    rw [Addr.add_lit, ← e3 _ u hu,show j / k*k+j % k=j by rw [Nat.mul_comm];exact Nat.div_add_mod j k]
end
end Go.Proofs.YticjodhkmidljaaGreatDoor
