/- The sort of keys: sift down. Condition: the row lies there. -/
import Derived.Sort.WalkB2
import Derived.Test.YticjodhkmidljaaGreatDoorZKeepNil18
import Derived.Sort.WalkB3
import Derived.Sort.LotB
import Derived.Sort.LotD4
import Derived.Sort.Walk7
import Derived.Test.YticjodhkmidljaaGreatDoorZKeepNil2
namespace Go.Proofs.YticjodhkmidljaaGreatDoor
open Go.RowKit Go.Sort
set_option maxRecDepth 100000 in
set_option maxHeartbeats 16000000 in
theorem sift64 (b cap lo hi F:Nat) (d:Array Int) (w:World) (hR:R64 w b d) (hF:F+hi≤d.size) (hlo:lo<hi∨lo=0) (hsz:d.size<1152921504606846976) :
    Calls Tryz.prog 153 #[.slice (some ⟨b,0,none⟩) d.size cap,.int .i64 (lo:Int),.int .i64 (hi:Int),.int .i64 (F:Int)] w fun e w'=>e=.returned (.tuple #[])∧∃ n,w'=rw64 w n b (siftDown ltInt hi F lo d):=by
  have HR:=Lib.hid hR
  clear hR
  generalize hL:d.size=L at *
  go_enter Tryz.func153,Tryz.ntmps153
  go_upto_region 1 with fail
  go_loopw [8] (fun s8 wr=>∃ (r n:Nat) (c:Array Int),s8=.int .i64 (r:Int)∧(r<hi∨r=0)∧c.size=L∧wr=rw64 w n b c∧siftDown ltInt hi F r c=siftDown ltInt hi F lo d) (fun s8 _=>hi - (intOf s8).toNat)
  case atStart=>exact ⟨lo,0,d,rfl,hlo,hL,rw_new HR.out,rfl⟩
  case round =>
    obtain ⟨r,n,c,rfl,hr,hc,hw,ho⟩:=hrel
    have HO:=Lib.hid ho
    have HW:=Lib.hid hw
    clear ho hlo hw
    have b0:r<1152921504606846976:=by omega
    have b1:F<1152921504606846976:=by omega
    have b2:hi<1152921504606846976:=by omega
    by_cases hend:hi≤2*r+1
    · have hend':(hi:Int)≤2*(r:Int)+1:=by omega
      go_wp2_with fail
      refine bodyPost_end (results_none rfl _ _ _) rfl ?_
      exact ⟨rfl,n,by rw [← HO.out,sd_end _ _ hend];exact HW.out⟩
    · have hend' : ¬ (hi:Int)≤2*(r:Int)+1:=by omega
      go_upto_region 3 with fail
      have cellN:=fun m i (h:i<L)=>rw_cell HR.out m (d:=c) (by rw [hc,hL]) i (by omega)
      have thawN:=fun m i (h:i<L)=>rw_thaw HR.out m c i (by omega)
      obtain ⟨ch,hche⟩:∃ y:Nat,y=2*r+1:=⟨_,rfl⟩
      have hce:2*(r:Int)+1=(ch:Int):=by omega
      obtain ⟨x0,hx0e⟩:∃ y:Nat,y=F+r:=⟨_,rfl⟩
      obtain ⟨x1,hx1e⟩:∃ y:Nat,y=F+ch:=⟨_,rfl⟩
      have w1:IntKind.i64.wrap ((ch:Int)+1)=(ch:Int)+1:=by rw [IntKind.wrap_i64];omega
      have w2:IntKind.i64.wrap ((F:Int)+(ch:Int))=(x1:Int):=by rw [IntKind.wrap_i64];omega
      have w3:IntKind.i64.wrap ((x1:Int)+1)=((x1+1:Nat):Int):=by rw [IntKind.wrap_i64];omega
      have w4:IntKind.i64.wrap ((F:Int)+(r:Int))=(x0:Int):=by rw [IntKind.wrap_i64];omega
      have hx0:x0<L:=by omega
      have hx1:x1<L:=by omega
      obtain ⟨v0,hv0⟩:∃ v,v=c[x0]! := ⟨_,rfl⟩
      have HV0:=Lib.hid hv0
      clear hv0
      obtain ⟨v1,hv1⟩:∃ v,v=c[x1]! := ⟨_,rfl⟩
      have HV1:=Lib.hid hv1
      clear hv1
      have HE:=Lib.hid (And.intro hx1e (And.intro hx0e hche))
      have c0:=cellN (n) x0 hx0
      have t0:=thawN (n) x0 hx0
      rw [← HW.out, ← HV0.out] at c0
      rw [← HW.out] at t0
      have c1:=cellN (n) x1 hx1
      have t1:=thawN (n) x1 hx1
      rw [← HW.out, ← HV1.out] at c1
      rw [← HW.out] at t1
      rw [hce]
      clear hce
      by_cases h2:ch+1<hi
      · have h2':(ch:Int)+1<(hi:Int):=by omega
        have hx2:x1+1<L:=by omega
        clear hx1e hx0e hche
        obtain ⟨v2,hv2⟩:∃ v,v=c[x1+1]! := ⟨_,rfl⟩
        have HV2:=Lib.hid hv2
        clear hv2
        have c2:=cellN (n) (x1+1) hx2
        have t2:=thawN (n) (x1+1) hx2
        rw [← HW.out, ← HV2.out] at c2
        rw [← HW.out] at t2
        cases hl:ltInt v1 v2
        · go_quiet (first | (go_at_call 131;exact Calls.quiet_of_same (less_any _ _ _)))
          revert nq;intro q1
          go_upto_region 5 with fail
          clear c0 c1 t0 t1
          clear c2 t2
          have hwd:wr.drewN q1=rw64 w (n+q1) b c:=by rw [HW.out];exact rw_draw _ _ _ _ _
          generalize wr.drewN q1=wr2 at hwd ⊢
          have HW2:=Lib.hid hwd
          clear hwd
          have c0:=cellN (n+q1) x0 hx0
          have t0:=thawN (n+q1) x0 hx0
          rw [← HW2.out, ← HV0.out] at c0
          rw [← HW2.out] at t0
          have c1:=cellN (n+q1) x1 hx1
          have t1:=thawN (n+q1) x1 hx1
          rw [← HW2.out, ← HV1.out] at c1
          rw [← HW2.out] at t1
          have hne : ¬ x0=x1:=by have:=HE.out;omega
          cases hl2:ltInt v0 v1
          · go_quiet (first | (go_at_call 131;exact Calls.quiet_of_same (less_any _ _ _)))
            go_wp2_with fail
            refine bodyPost_ret (results_none rfl _ _ _) rfl ?_
            refine ⟨rfl,n+q1+nq,?_⟩
            rw [← HO.out,sd_left_stop ltInt c (by have:=HE.out;omega) (fun _=>by have q:=HE.out;rw [show F+(2*r+1)=x1 by omega,show F+(2*r+2)=x1+1 by omega, ← HV1.out, ← HV2.out];exact hl) (by have q:=HE.out;rw [show F+r=x0 by omega,show F+(2*r+1)=x1 by omega, ← HV0.out, ← HV1.out];exact hl2)]
            first | exact rw_draw _ _ _ _ _ | (rw [HW2.out];exact rw_draw _ _ _ _ _)
          · go_quiet (first | (go_at_call 131;exact Calls.quiet_of_same (less_any _ _ _)))
            go_wp2_with fail
            go_region
            all_goals go_wp2_with fail
            refine ⟨⟨ch,n+q1+(nq+1),swp c x0 x1,rfl,by have:=HE.out;omega,by rw [size_swp];exact hc,?_,?_⟩,by have:=HE.out;simp only [intOf,Int.toNat_natCast];omega⟩
            · first | (rw [HW2.out,HV0.out,HV1.out];exact rw_swap w _ _ b c x0 x1 (by omega) (by omega)) | (rw [HV0.out,HV1.out];exact rw_swap w _ _ b c x0 x1 (by omega) (by omega))
            · rw [← HO.out,sd_left_go ltInt c (by have:=HE.out;omega) (fun _=>by have q:=HE.out;rw [show F+(2*r+1)=x1 by omega,show F+(2*r+2)=x1+1 by omega, ← HV1.out, ← HV2.out];exact hl) (by have q:=HE.out;rw [show F+r=x0 by omega,show F+(2*r+1)=x1 by omega, ← HV0.out, ← HV1.out];exact hl2),show F+(2*r+1)=x1 by have:=HE.out;omega,show F+r=x0 by have:=HE.out;omega,show 2*r+1=ch by have:=HE.out;omega]
        · go_quiet (first | (go_at_call 131;exact Calls.quiet_of_same (less_any _ _ _)))
          revert nq;intro q1
          obtain ⟨x2,hx2e⟩:∃ y:Nat,y=x1+1:=⟨_,rfl⟩
          obtain ⟨k,hke⟩:∃ y:Nat,y=ch+1:=⟨_,rfl⟩
          have w5:IntKind.i64.wrap ((F:Int)+(k:Int))=(x2:Int):=by have:=HE.out;rw [IntKind.wrap_i64];omega
          have w6:(ch:Int)+1=(k:Int):=by omega
          have w7:IntKind.i64.wrap ((ch:Int)+1)=(k:Int):=by rw [w1];exact w6
          have HK:=Lib.hid (And.intro hx2e hke)
          clear w1 w3 c2 t2
          have HV2':=HV2.out
          rw [← hx2e] at HV2' hx2
          clear HV2
          have HV2:=Lib.hid HV2'
          clear HV2' hx2e hke
          go_upto_region 5 with fail
          clear c0 c1 t0 t1
          try rw [w6]
          have hwd:wr.drewN q1=rw64 w (n+q1) b c:=by rw [HW.out];exact rw_draw _ _ _ _ _
          generalize wr.drewN q1=wr2 at hwd ⊢
          have HW2:=Lib.hid hwd
          clear hwd
          have c0:=cellN (n+q1) x0 hx0
          have t0:=thawN (n+q1) x0 hx0
          rw [← HW2.out, ← HV0.out] at c0
          rw [← HW2.out] at t0
          have c2:=cellN (n+q1) x2 hx2
          have t2:=thawN (n+q1) x2 hx2
          rw [← HW2.out, ← HV2.out] at c2
          rw [← HW2.out] at t2
          have hne : ¬ x0=x2:=by have:=HE.out;have:=HK.out;omega
          cases hl2:ltInt v0 v2
          · go_quiet (first | (go_at_call 131;exact Calls.quiet_of_same (less_any _ _ _)))
            go_wp2_with fail
            refine bodyPost_ret (results_none rfl _ _ _) rfl ?_
            refine ⟨rfl,n+q1+nq,?_⟩
            rw [← HO.out,sd_right_stop ltInt c (by have:=HE.out;have:=HK.out;omega) (by rw [show F+(2*r+1)=x1 by have:=HE.out;have:=HK.out;omega,show F+(2*r+2)=x2 by have:=HE.out;have:=HK.out;omega, ← HV1.out, ← HV2.out];exact hl) (by rw [show F+r=x0 by have:=HE.out;have:=HK.out;omega,show F+(2*r+2)=x2 by have:=HE.out;have:=HK.out;omega, ← HV0.out, ← HV2.out];exact hl2)]
            first | exact rw_draw _ _ _ _ _ | (rw [HW2.out];exact rw_draw _ _ _ _ _)
          · go_quiet (first | (go_at_call 131;exact Calls.quiet_of_same (less_any _ _ _)))
            go_wp2_with fail
            go_region
            all_goals go_wp2_with fail
            refine ⟨⟨k,n+q1+(nq+1),swp c x0 x2,rfl,by have:=HE.out;have:=HK.out;omega,by rw [size_swp];exact hc,?_,?_⟩,by have:=HE.out;have:=HK.out;simp only [intOf,Int.toNat_natCast];omega⟩
            · first | (rw [HW2.out,HV0.out,HV2.out];exact rw_swap w _ _ b c x0 x2 (by omega) (by omega)) | (rw [HV0.out,HV2.out];exact rw_swap w _ _ b c x0 x2 (by omega) (by omega))
            · rw [← HO.out,sd_right_go ltInt c (by have:=HE.out;have:=HK.out;omega) (by rw [show F+(2*r+1)=x1 by have:=HE.out;have:=HK.out;omega,show F+(2*r+2)=x2 by have:=HE.out;have:=HK.out;omega, ← HV1.out, ← HV2.out];exact hl) (by rw [show F+r=x0 by have:=HE.out;have:=HK.out;omega,show F+(2*r+2)=x2 by have:=HE.out;have:=HK.out;omega, ← HV0.out, ← HV2.out];exact hl2),show F+(2*r+2)=x2 by have:=HE.out;have:=HK.out;omega,show F+r=x0 by have:=HE.out;have:=HK.out;omega,show 2*r+2=k by have:=HE.out;have:=HK.out;omega]
      · have h2':decide ((ch:Int)+1<(hi:Int))=false:=by simp;omega
        clear hx1e hx0e hche
        go_quiet (first | (go_at_call 131;exact Calls.quiet_of_same (less_any _ _ _)))
        revert nq;intro q1
        go_upto_region 5 with fail
        clear c0 c1 t0 t1
        have hwd:wr.drewN q1=rw64 w (n+q1) b c:=by rw [HW.out];exact rw_draw _ _ _ _ _
        generalize wr.drewN q1=wr2 at hwd ⊢
        have HW2:=Lib.hid hwd
        clear hwd
        have c0:=cellN (n+q1) x0 hx0
        have t0:=thawN (n+q1) x0 hx0
        rw [← HW2.out, ← HV0.out] at c0
        rw [← HW2.out] at t0
        have c1:=cellN (n+q1) x1 hx1
        have t1:=thawN (n+q1) x1 hx1
        rw [← HW2.out, ← HV1.out] at c1
        rw [← HW2.out] at t1
        have hne : ¬ x0=x1:=by have:=HE.out;omega
        cases hl2:ltInt v0 v1
        · go_quiet (first | (go_at_call 131;exact Calls.quiet_of_same (less_any _ _ _)))
          go_wp2_with fail
          refine bodyPost_ret (results_none rfl _ _ _) rfl ?_
          refine ⟨rfl,n+q1+nq,?_⟩
          rw [← HO.out,sd_left_stop ltInt c (by have:=HE.out;omega) (fun h=>by have:=HE.out;omega) (by have q:=HE.out;rw [show F+r=x0 by omega,show F+(2*r+1)=x1 by omega, ← HV0.out, ← HV1.out];exact hl2)]
          first | exact rw_draw _ _ _ _ _ | (rw [HW2.out];exact rw_draw _ _ _ _ _)
        · go_quiet (first | (go_at_call 131;exact Calls.quiet_of_same (less_any _ _ _)))
          go_wp2_with fail
          go_region
          all_goals go_wp2_with fail
          refine ⟨⟨ch,n+q1+(nq+1),swp c x0 x1,rfl,by have:=HE.out;omega,by rw [size_swp];exact hc,?_,?_⟩,by have:=HE.out;simp only [intOf,Int.toNat_natCast];omega⟩
          · first | (rw [HW2.out,HV0.out,HV1.out];exact rw_swap w _ _ b c x0 x1 (by omega) (by omega)) | (rw [HV0.out,HV1.out];exact rw_swap w _ _ b c x0 x1 (by omega) (by omega))
          · rw [← HO.out,sd_left_go ltInt c (by have:=HE.out;omega) (fun h=>by have:=HE.out;omega) (by have q:=HE.out;rw [show F+r=x0 by omega,show F+(2*r+1)=x1 by omega, ← HV0.out, ← HV1.out];exact hl2),show F+(2*r+1)=x1 by have:=HE.out;omega,show F+r=x0 by have:=HE.out;omega,show 2*r+1=ch by have:=HE.out;omega]
end Go.Proofs.YticjodhkmidljaaGreatDoor
namespace Go.Proofs.YticjodhkmidljaaGreatDoor
open Go.RowKit Go.Sort
/-- A row behind a row. -/
theorem rw_rw (w:World) (n m b:Nat) (c d:Array Int) (h:d.size=c.size):rw64 (rw64 w n b c) m b d=rw64 w (n+m) b d:=putRow_ahead_putRow _ w n m b 0 c d h
theorem rw_same (w:World) (n q b:Nat) (d:Array Int) (i:Nat) (hi:i<d.size):(((rw64 w n b d).drewN q).setCell ⟨b,i,none⟩ (.int .u64 d[i]!)).setCell ⟨b,i,none⟩ (.int .u64 d[i]!)=rw64 w (n+q) b (swp d i i):=rw_swap w n q b d i i hi hi
theorem sd_size (hi F root:Nat) (d:Array Int):(siftDown ltInt hi F root d).size=d.size:=size_siftDown ltInt hi F _ root d (Nat.le_refl _)
theorem pop_succ (F k:Nat) (d:Array Int):heapPop ltInt F (k+1) d=heapPop ltInt F k (siftDown ltInt k F 0 (swp d F (F+k))):=rfl
theorem build_succ (hi F k:Nat) (d:Array Int):heapBuild ltInt hi F (k+1) d=heapBuild ltInt hi F k (siftDown ltInt hi F k d):=rfl
set_option maxRecDepth 100000 in
set_option maxHeartbeats 16000000 in
theorem heap64 (b cap x y:Nat) (d:Array Int) (w:World) (hR:R64 w b d) (hxy:x<y) (hy:y≤d.size) (hsz:d.size<1152921504606846976) :
    Calls Tryz.prog 126 #[.slice (some ⟨b,0,none⟩) d.size cap,.int .i64 (x:Int),.int .i64 (y:Int)] w fun e w'=>e=.returned (.tuple #[])∧∃ n,w'=rw64 w n b (heapSort ltInt d x y):=by
  have HR:=Lib.hid hR
  clear hR
  obtain ⟨l,hl⟩:∃ l:Nat,l=y - x:=⟨_,rfl⟩
  have e2:IntKind.i64.wrap ((l:Int) - 1)=(l:Int) - 1:=by rw [IntKind.wrap_i64];omega
  have hl1:1≤l:=by omega
  have hly:x+l≤d.size:=by omega
  have HLL:=Lib.hid hl
  clear hl
  have e3:((l:Int) - 1).tdiv 2=((l:Int) - 1) / 2:=Int.tdiv_eq_ediv_of_nonneg (by omega)
  generalize hL:d.size=L at *
  have hT:∀ (c:Array Int) (m lo hi:Nat) (_:c.size=L) (_:x+hi≤L) (_:lo<hi∨lo=0),Calls Tryz.prog 153 #[.slice (some ⟨b,0,none⟩) L cap,.int .i64 (lo:Int),.int .i64 (hi:Int),.int .i64 (x:Int)] (rw64 w m b c) fun e w'=>e=.returned (.tuple #[])∧∃ q,w'=rw64 w q b (siftDown ltInt hi x lo c):=by
    intro c m lo hi hc hF hlo
    have q:=sift64 b cap lo hi x c (rw64 w m b c) (rw_holds HR.out m (hc.trans hL.symm)) (by omega) hlo (by omega)
    rw [hc] at q
    refine q.mono ?_
    rintro e w' ⟨rfl,k,rfl⟩
    exact ⟨rfl,_,rw_rw _ _ _ _ _ _ (sd_size _ _ _ _)⟩
  have hT0:∀ (c:Array Int) (m hi:Nat) (_:c.size=L) (_:x+hi≤L),Calls Tryz.prog 153 #[.slice (some ⟨b,0,none⟩) L cap,.int .i64 0,.int .i64 (hi:Int),.int .i64 (x:Int)] (rw64 w m b c) fun e w'=>e=.returned (.tuple #[])∧∃ q,w'=rw64 w q b (siftDown ltInt hi x 0 c):=by
    intro c m hi hc hF
    have q:=hT c m 0 hi hc hF (.inr rfl)
    rw [show ((0:Nat):Int)=0 from rfl] at q
    exact q
  have HT0:=Lib.hid hT0
  clear hT0
  have HT:=Lib.hid hT
  clear hT
  go_enter Tryz.func126,Tryz.ntmps126
  go_upto_region 4 with fail
  rw [show (y:Int) - (x:Int)=(l:Int) by have:=HLL.out;omega]
  go_loopw [9] (fun s9 wr=>∃ (k n:Nat) (c:Array Int),s9=.int .i64 ((k:Int) - 1)∧k≤(l - 1) / 2+1∧c.size=L∧wr=rw64 w n b c∧heapBuild ltInt l x k c=heapBuild ltInt l x ((l - 1) / 2+1) d) (fun s9 _=>(intOf s9+1).toNat)
  case atStart=>exact ⟨(l - 1) / 2+1,0,d,by congr 1;omega,Nat.le_refl _,hL,rw_new HR.out,rfl⟩
  case round =>
    clear e3
    obtain ⟨k,n,c,hk9,hk,hc,rfl,ho⟩:=hrel
    have HO:=Lib.hid ho
    clear ho
    cases k with
    | succ k =>
      rw [show ((k+1:Nat):Int) - 1=(k:Int) by omega] at hk9
      subst hk9
      have b0:k<1152921504606846976:=by omega
      go_wp2_with ((with_reducible refine (HT.out c n k l hc hly (by omega)).mono ?_);rintro e w' ⟨rfl,m,rfl⟩)
      exact ⟨⟨k,m,_,rfl,by omega,(sd_size _ _ _ _).trans hc,rfl,by rw [← HO.out,build_succ]⟩,by simp only [intOf];omega⟩
    | zero =>
      rw [show ((0:Nat):Int) - 1 = -1 from rfl] at hk9
      subst hk9
      have hB:c=heapBuild ltInt l x ((l - 1) / 2+1) d:=HO.out
      have HB:=Lib.hid hB
      clear HO hB
      go_upto_region 8 with fail
      go_loopw [10] (fun s10 wr=>∃ (k m:Nat) (c2:Array Int),s10=.int .i64 ((k:Int) - 1)∧k≤l∧c2.size=L∧wr=rw64 w m b c2∧heapPop ltInt x k c2=heapPop ltInt x l c) (fun s10 _=>(intOf s10+1).toNat)
      case atStart=>exact ⟨l,n,c,rfl,Nat.le_refl _,hc,rfl,rfl⟩
      case round =>
        obtain ⟨k,m,c2,hk10,hk,hc2,hw,ho⟩:=hrel
        have HO:=Lib.hid ho
        have HW:=Lib.hid hw
        clear ho hw
        cases k with
        | zero =>
          subst hk10
          go_wp2_with fail
          refine bodyPost_end (results_none rfl _ _ _) rfl ?_
          refine ⟨rfl,m,?_⟩
          rw [HW.out,show c2=heapSort ltInt d x y by rw [heapSort, ← HLL.out, ← HB.out];exact HO.out]
        | succ k =>
          rw [show ((k+1:Nat):Int) - 1=(k:Int) by omega] at hk10
          subst hk10
          have b0:k<1152921504606846976:=by omega
          go_upto_region 10 with fail
          have cellN:=fun m i (h:i<L)=>rw_cell HR.out m (d:=c2) (by rw [hc2,hL]) i (by omega)
          have thawN:=fun m i (h:i<L)=>rw_thaw HR.out m c2 i (by omega)
          obtain ⟨x1,hx1e⟩:∃ y:Nat,y=x+k:=⟨_,rfl⟩
          have w2:IntKind.i64.wrap ((x:Int)+(k:Int))=(x1:Int):=by rw [IntKind.wrap_i64];omega
          have hx0:x<L:=by omega
          have hx1:x1<L:=by omega
          have HE:=Lib.hid hx1e
          clear hx1e
          obtain ⟨v0,hv0⟩:∃ v,v=c2[x]! := ⟨_,rfl⟩
          have HV0:=Lib.hid hv0
          clear hv0
          obtain ⟨v1,hv1⟩:∃ v,v=c2[x1]! := ⟨_,rfl⟩
          have HV1:=Lib.hid hv1
          clear hv1
          have c0:=cellN (m) x hx0
          have t0:=thawN (m) x hx0
          rw [← HW.out, ← HV0.out] at c0
          rw [← HW.out] at t0
          have c1:=cellN (m) x1 hx1
          have t1:=thawN (m) x1 hx1
          rw [← HW.out, ← HV1.out] at c1
          rw [← HW.out] at t1
          by_cases hk0:k=0
          · have hx:x1=x:=by have:=HE.out;omega
            have hv:v1=v0:=by rw [HV1.out,HV0.out,hx]
            rw [hx] at w2
            have HK0:=Lib.hid hk0
            clear hk0
            subst hv
            clear c1 t1
            go_region
            all_goals go_wp2_with fail
            have hws:((wr.setCell ⟨b,x,none⟩ (.int .u64 v1)).setCell ⟨b,x,none⟩ (.int .u64 v1)).drew=rw64 w (m+1) b (swp c2 x x1):=by
              rw [← World.setCell_drew, ← World.setCell_drew,show wr.drew=wr.drewN 1 from rfl,HW.out]
              rw [hx,HV0.out];exact rw_same w m _ b c2 x (by omega)
            rw [hws]
            with_reducible refine ((HT0.out (swp c2 x x1) _ k (by rw [size_swp];exact hc2) (by omega)).mono ?_)
            rintro e w' ⟨rfl,q,rfl⟩
            go_wp2_with fail
            exact ⟨⟨k,q,_,rfl,by omega,(sd_size _ _ _ _).trans (by rw [size_swp];exact hc2),rfl,by rw [← HO.out,pop_succ];first | rw [HE.out] | rw [← HE.out,hx]⟩,by simp only [intOf];omega⟩
          · have hne : ¬ x=x1:=by have:=HE.out;omega
            go_region
            all_goals go_wp2_with fail
            have hws:((wr.setCell ⟨b,x,none⟩ (.int .u64 v1)).setCell ⟨b,x1,none⟩ (.int .u64 v0)).drew=rw64 w (m+1) b (swp c2 x x1):=by
              rw [← World.setCell_drew, ← World.setCell_drew,show wr.drew=wr.drewN 1 from rfl,HW.out]
              rw [HV0.out,HV1.out];exact rw_swap w m _ b c2 x x1 (by omega) (by omega)
            rw [hws]
            with_reducible refine ((HT0.out (swp c2 x x1) _ k (by rw [size_swp];exact hc2) (by omega)).mono ?_)
            rintro e w' ⟨rfl,q,rfl⟩
            go_wp2_with fail
            exact ⟨⟨k,q,_,rfl,by omega,(sd_size _ _ _ _).trans (by rw [size_swp];exact hc2),rfl,by rw [← HO.out,pop_succ];first | rw [HE.out] | rw [← HE.out,hx]⟩,by simp only [intOf];omega⟩
set_option maxRecDepth 100000 in
set_option maxHeartbeats 16000000 in
theorem rev64 (b cap x y:Nat) (d:Array Int) (w:World) (hR:R64 w b d) (hxy:x<y) (hy:y≤d.size) (hsz:d.size<1152921504606846976) :
    Calls Tryz.prog 129 #[.slice (some ⟨b,0,none⟩) d.size cap,.int .i64 (x:Int),.int .i64 (y:Int)] w fun e w'=>e=.returned (.tuple #[])∧∃ n,w'=rw64 w n b (reverseRange d x y):=by
  have HR:=Lib.hid hR
  clear hR
  obtain ⟨z,hz⟩:∃ z:Nat,z=y - 1:=⟨_,rfl⟩
  have e1:(y:Int) - 1=(z:Int):=by omega
  have hz1:z<d.size:=by omega
  have HZ:=Lib.hid hz
  clear hz
  generalize hL:d.size=L at *
  go_enter Tryz.func129,Tryz.ntmps129
  go_upto_region 2 with fail
  go_loopw [6,7] (fun s6 s7 wr=>∃ (i j n:Nat) (c:Array Int),s6=.int .i64 (i:Int)∧s7=.int .i64 (j:Int)∧i≤L∧j<L∧c.size=L∧wr=rw64 w n b c∧reverseLoop i j c=reverseLoop x z d) (fun s6 s7 _=>(intOf s7 - intOf s6).toNat)
  case atStart=>exact ⟨x,z,0,d,rfl,rfl,by omega,hz1,hL,rw_new HR.out,rfl⟩
  case round =>
    clear e1
    obtain ⟨i,j,n,c,rfl,rfl,hi,hj,hc,hw,ho⟩:=hrel
    have HO:=Lib.hid ho
    have HW:=Lib.hid hw
    clear ho hw
    have b0:i<1152921504606846976:=by omega
    have b1:j<1152921504606846976:=by omega
    by_cases hij:i<j
    · have hij':(i:Int)<(j:Int):=by omega
      obtain ⟨k,hk⟩:∃ k:Nat,k=j - 1:=⟨_,rfl⟩
      have e2:(j:Int) - 1=(k:Int):=by omega
      have hne : ¬ i=j:=by omega
      go_upto_region 3 with fail
      have cellN:=fun m i (h:i<L)=>rw_cell HR.out m (d:=c) (by rw [hc,hL]) i (by omega)
      have thawN:=fun m i (h:i<L)=>rw_thaw HR.out m c i (by omega)
      have hx0:i<L:=by omega
      have hx1:j<L:=by omega
      obtain ⟨v0,hv0⟩:∃ v,v=c[i]! := ⟨_,rfl⟩
      have HV0:=Lib.hid hv0
      clear hv0
      obtain ⟨v1,hv1⟩:∃ v,v=c[j]! := ⟨_,rfl⟩
      have HV1:=Lib.hid hv1
      clear hv1
      have c0:=cellN (n) i hx0
      have t0:=thawN (n) i hx0
      rw [← HW.out, ← HV0.out] at c0
      rw [← HW.out] at t0
      have c1:=cellN (n) j hx1
      have t1:=thawN (n) j hx1
      rw [← HW.out, ← HV1.out] at c1
      rw [← HW.out] at t1
      have HE:=Lib.hid hk
      clear hk
      go_region
      all_goals go_wp2_with fail
      refine ⟨⟨i+1,k,n+1,swp c i j,rfl,by congr 1,by omega,by have:=HE.out;omega,by rw [size_swp];exact hc,?_,?_⟩,by have:=HE.out;simp only [intOf];omega⟩
      · rw [HW.out,HV0.out,HV1.out]
        exact rw_swap w n 1 b c i j (by omega) (by omega)
      · rw [← HO.out]
        conv=>rhs;rw [reverseLoop,if_pos hij]
        rw [HE.out]
    · have hij' : ¬ (i:Int)<(j:Int):=by omega
      go_wp2_with fail
      refine bodyPost_end (results_none rfl _ _ _) rfl ?_
      refine ⟨rfl,n,?_⟩
      rw [HW.out,show c=reverseRange d x y by rw [reverseRange, ← HZ.out, ← HO.out,reverseLoop,if_neg hij]]
end Go.Proofs.YticjodhkmidljaaGreatDoor
namespace Go.Proofs.YticjodhkmidljaaGreatDoor
open Go.RowKit Go.Sort
/-- A count lies there. -/
abbrev CtAt (w:World) (g s:Nat):Prop:=w.heap[g]?=some (.cells #[.int .i64 (s:Int)] 3 (0,0))
theorem R64.below {w w':World} {b n:Nat} {d:Array Int} (h:R64 w b d) (hb:b<n) (hB:Below n w w'):R64 w' b d:=fun i hi=>⟨(hB.cell (p:=⟨b,0+i,none⟩) hb).trans (h i hi).1,(hB.frozen (p:=⟨b,0+i,none⟩) hb).trans (h i hi).2⟩
theorem ct_cell {w:World} {g s:Nat} (h:CtAt w g s):w.cell? ⟨g,0,none⟩=some (.int .i64 (s:Int)):=by
  unfold World.cell?
  rw [h]
  rfl
theorem ct_thaw {w:World} {g s:Nat} (h:CtAt w g s):w.frozen? ⟨g,0,none⟩=false:=by
  unfold World.frozen?
  rw [h]
  rfl
theorem ct_set {w:World} {g s:Nat} (h:CtAt w g s) (s':Nat):CtAt (w.setCell ⟨g,0,none⟩ (.int .i64 (s':Int))) g s':=by
  simp only [CtAt,World.setCell,Array.getElem?_modify]
  rw [if_pos trivial,h]
  rfl
set_option maxRecDepth 100000 in
set_option maxHeartbeats 16000000 in
theorem ord64 (b cap L i j g s:Nat) (d:Array Int) (w:World) (hL:d.size=L) (hR:R64 w b d) (_hb:b<g) (hc:CtAt w g s) (hi:i<L) (hj:j<L) (hs:s<1000) :
    Calls Tryz.prog 179 #[.slice (some ⟨b,0,none⟩) L cap,.int .i64 (i:Int),.int .i64 (j:Int),.pointer (some ⟨g,0,none⟩)] w fun e w'=>e=.returned (.tuple #[.int .i64 ((order2 ltInt d i j s).1:Int),.int .i64 ((order2 ltInt d i j s).2.1:Int)])∧CtAt w' g (order2 ltInt d i j s).2.2∧Below g w w':=by
  have c0:w.cell? ⟨b,i,none⟩=some (.int .u64 d[i]!):=by have q:=(hR i (by omega)).1;rwa [Nat.zero_add] at q
  have c1:w.cell? ⟨b,j,none⟩=some (.int .u64 d[j]!):=by have q:=(hR j (by omega)).1;rwa [Nat.zero_add] at q
  have c2:=ct_cell hc
  have t2:=ct_thaw hc
  have HC:=Lib.hid hc
  clear hc hR
  obtain ⟨v0,hv0⟩:∃ v,v=d[i]! := ⟨_,rfl⟩
  obtain ⟨v1,hv1⟩:∃ v,v=d[j]! := ⟨_,rfl⟩
  rw [← hv0] at c0
  rw [← hv1] at c1
  have HV:=Lib.hid (And.intro hv0 hv1)
  clear hv0 hv1
  generalize hr:order2 ltInt d i j s=r
  have HRR:=Lib.hid hr
  clear hr
  go_enter Tryz.func179,Tryz.ntmps179
  go_upto_region 1 with fail
  go_quiet (first | (go_at_call 131;exact Calls.quiet_of_same (less_any _ _ _)))
  go_wp2_with fail
  · rename_i hl
    go_ret2
    have e:r=(j,i,s+1):=by rw [← HRR.out,order2, ← HV.out.1, ← HV.out.2,hl];rfl
    rw [e]
    refine ⟨rfl,?_,?_⟩
    · exact ct_set (w:=w.drewN nq) HC.out (s+1)
    · exact Below.setCell (⟨rfl,rfl,rfl,Nat.le_refl _,fun _ _=>rfl⟩:Below g w (w.drewN nq)) (p:=⟨g,0,none⟩) (Nat.le_refl _) (.int .i64 ((s+1:Nat):Int))
  · rename_i hl
    go_ret2
    have e:r=(i,j,s):=by rw [← HRR.out,order2, ← HV.out.1, ← HV.out.2,hl];rfl
    rw [e]
    exact ⟨rfl,HC.out,⟨rfl,rfl,rfl,Nat.le_refl _,fun _ _=>rfl⟩⟩
set_option maxRecDepth 100000 in
set_option maxHeartbeats 16000000 in
theorem med64 (b cap L i j k g s:Nat) (d:Array Int) (w:World) (hL:d.size=L) (hR:R64 w b d) (hb:b<g) (hc:CtAt w g s) (hi:i<L) (hj:j<L) (hk:k<L) (hs:s<100) :
    Calls Tryz.prog 157 #[.slice (some ⟨b,0,none⟩) L cap,.int .i64 (i:Int),.int .i64 (j:Int),.int .i64 (k:Int),.pointer (some ⟨g,0,none⟩)] w fun e w'=>e=.returned (.int .i64 ((median ltInt d i j k s).1:Int))∧CtAt w' g (median ltInt d i j k s).2∧Below g w w':=by
  obtain ⟨m1,hm1⟩:∃ m,m=order2 ltInt d i j s:=⟨_,rfl⟩
  obtain ⟨m2,hm2⟩:∃ m,m=order2 ltInt d m1.2.1 k m1.2.2:=⟨_,rfl⟩
  obtain ⟨m3,hm3⟩:∃ m,m=order2 ltInt d m1.1 m2.1 m2.2.2:=⟨_,rfl⟩
  have hm:median ltInt d i j k s=(m3.2.1,m3.2.2):=by rw [hm3,hm2,hm1];rfl
  have q1:=order2_mem ltInt d i j s
  have q2:=order2_mem ltInt d m1.2.1 k m1.2.2
  have q3:=order2_mem ltInt d m1.1 m2.1 m2.2.2
  have p1:=order2_count ltInt d i j s
  have p2:=order2_count ltInt d m1.2.1 k m1.2.2
  rw [← hm1] at q1 p1
  rw [← hm2] at q2 p2
  rw [← hm3] at q3
  have r1:m1.1<L∧m1.2.1<L∧m1.2.2<1000:=by omega
  have r2:m2.1<L∧m2.2.1<L∧m2.2.2<1000:=by omega
  clear q1 q2 q3 p1 p2
  rw [hm]
  have H1:=Lib.hid (ord64 b cap L i j g s d w hL hR hb hc hi hj (by omega))
  have H2:=Lib.hid (fun (y:World) (hc:CtAt y g m1.2.2) (hB:Below g w y)=>ord64 b cap L m1.2.1 k g m1.2.2 d y hL (hR.below hb hB) hb hc r1.2.1 hk r1.2.2)
  have H3:=Lib.hid (fun (y:World) (hc:CtAt y g m2.2.2) (hB:Below g w y)=>ord64 b cap L m1.1 m2.1 g m2.2.2 d y hL (hR.below hb hB) hb hc r1.1 r2.1 r2.2.2)
  rw [← hm1] at H1
  rw [← hm2] at H2
  rw [← hm3] at H3
  clear hm1 hm2 hm3 hm r1 r2 hi hj hk hs
  clear hR hc hL hb
  obtain ⟨a1,b1,s1⟩:=m1
  obtain ⟨a2,b2,s2⟩:=m2
  obtain ⟨a3,b3,s3⟩:=m3
  simp only at H1 H2 H3 ⊢
  go_enter Tryz.func157,Tryz.ntmps157
  go_upto_region 1 with fail
  go_wp2_with ((with_reducible refine H1.out.mono ?_);rintro e y1 ⟨rfl,hc1,hB1⟩;have HC1:=Lib.hid hc1;clear hc1)
  go_wp2_with ((with_reducible refine (H2.out _ HC1.out hB1).mono ?_);rintro e y2 ⟨rfl,hc2,hB2⟩;have HC2:=Lib.hid hc2;clear hc2)
  go_wp2_with ((with_reducible refine (H3.out _ HC2.out (hB1.trans hB2)).mono ?_);rintro e y3 ⟨rfl,hc3,hB3⟩;have HC3:=Lib.hid hc3;clear hc3)
  go_ret
  exact ⟨rfl,HC3.out,(hB1.trans hB2).trans hB3⟩
set_option maxRecDepth 100000 in
set_option maxHeartbeats 16000000 in
theorem adj64 (b cap L i g s:Nat) (d:Array Int) (w:World) (hL:d.size=L) (hR:R64 w b d) (hb:b<g) (hc:CtAt w g s) (hi:1≤i) (hj:i+1<L) (hs:s<100) (hz:L<1152921504606846976) :
    Calls Tryz.prog 156 #[.slice (some ⟨b,0,none⟩) L cap,.int .i64 (i:Int),.pointer (some ⟨g,0,none⟩)] w fun e w'=>e=.returned (.int .i64 ((medianAdjacent ltInt d i s).1:Int))∧CtAt w' g (medianAdjacent ltInt d i s).2∧Below g w w':=by
  have H:=med64 b cap L (i - 1) i (i+1) g s d w hL hR hb hc (by omega) (by omega) (by omega) hs
  rw [show ((i - 1:Nat):Int)=(i:Int) - 1 by omega,show ((i+1:Nat):Int)=(i:Int)+1 by omega] at H
  rw [show median ltInt d (i - 1) i (i+1) s=medianAdjacent ltInt d i s from rfl] at H
  have HH:=Lib.hid H
  have e1:IntKind.i64.wrap ((i:Int) - 1)=(i:Int) - 1:=by rw [IntKind.wrap_i64];omega
  have e2:IntKind.i64.wrap ((i:Int)+1)=(i:Int)+1:=by rw [IntKind.wrap_i64];omega
  clear H hR hc hb hL hi hj hs hz
  generalize medianAdjacent ltInt d i s=r at *
  go_enter Tryz.func156,Tryz.ntmps156
  go_upto_region 1 with fail
  go_wp2_with ((with_reducible refine HH.out.mono ?_);rintro e y1 ⟨rfl,hc1,hB1⟩;have HC1:=Lib.hid hc1;clear hc1)
  go_ret
  exact ⟨rfl,HC1.out,hB1⟩
theorem hint_0 {c:Nat} (h:((c:Int) == 0)=true):hintOf c=.increasing:=by
  have:c=0:=by simpa using h
  rw [this]
  rfl
theorem hint_12 {c:Nat} (h:((c:Int) == 12)=true):hintOf c=.decreasing:=by
  have:c=12:=by have q:(c:Int)=12:=by simpa using h
                omega
  rw [this]
  rfl
theorem hint_no {c:Nat} (h:((c:Int) == 0)=false) (h2:((c:Int) == 12)=false):hintOf c=.unknown:=by
  have h1 : ¬ c=0:=by simpa using h
  have q : ¬ (c:Int)=12:=by simpa using h2
  unfold hintOf
  rw [if_neg h1,if_neg (by omega)]
theorem ct_new (w:World):CtAt (w.alloc (.cells #[.int .i64 0] 3)) w.heap.size 0:=by
  exact heap_alloc_new w _
set_option maxRecDepth 100000 in
set_option maxHeartbeats 16000000 in
theorem piv64 (b cap L x y:Nat) (d:Array Int) (w:World) (hL:d.size=L) (hR:R64 w b d) (hb:b<w.heap.size) (hxy:x+12<y) (hy:y≤L) (hz:L<1152921504606846976) :
    Calls Tryz.prog 128 #[.slice (some ⟨b,0,none⟩) L cap,.int .i64 (x:Int),.int .i64 (y:Int)] w fun e w'=>e=.returned (.tuple #[.int .i64 ((choosePivot ltInt d x y).1:Int),.int .i64 (hintCode (choosePivot ltInt d x y).2)])∧Below w.heap.size w w':=by
  obtain ⟨l,hl⟩:∃ l:Nat,l=y - x:=⟨_,rfl⟩
  obtain ⟨q,hq⟩:∃ q:Nat,q=l / 4:=⟨_,rfl⟩
  have e0:(y:Int) - (x:Int)=(l:Int):=by omega
  have e1:(l:Int).tdiv 4=(q:Int):=by rw [Int.tdiv_eq_ediv_of_nonneg (by omega)];omega
  obtain ⟨i,hi⟩:∃ i:Nat,i=x+q*1:=⟨_,rfl⟩
  obtain ⟨j,hj⟩:∃ i:Nat,i=x+q*2:=⟨_,rfl⟩
  obtain ⟨k,hk⟩:∃ i:Nat,i=x+q*3:=⟨_,rfl⟩
  rw [choosePivot_eq]
  have hraw:rawPivot ltInt d x y=if l ≥ 50 then median ltInt d (medianAdjacent ltInt d i 0).1 (medianAdjacent ltInt d j (medianAdjacent ltInt d i 0).2).1 (medianAdjacent ltInt d k (medianAdjacent ltInt d j (medianAdjacent ltInt d i 0).2).2).1 (medianAdjacent ltInt d k (medianAdjacent ltInt d j (medianAdjacent ltInt d i 0).2).2).2 else median ltInt d i j k 0:=by
    unfold rawPivot
    rw [if_pos (show y - x ≥ 8 by omega), ← hl, ← hq, ← hi, ← hj, ← hk]
  generalize rawPivot ltInt d x y=rw0 at *
  have H1:=Lib.hid (And.intro hq (And.intro hi (And.intro hj (And.intro hk hl))))
  have b1:x+l=y:=by omega
  have b2:l<1152921504606846976:=by omega
  have b3:q<1152921504606846976:=by omega
  have m0:IntKind.i64.wrap ((q:Int)*1)=(q:Int):=by rw [IntKind.wrap_i64];omega
  have m1:IntKind.i64.wrap ((q:Int)*2)=((q*2:Nat):Int):=by rw [IntKind.wrap_i64];omega
  have m2:IntKind.i64.wrap ((q:Int)*3)=((q*3:Nat):Int):=by rw [IntKind.wrap_i64];omega
  clear hq hi hj hk hl
  go_enter Tryz.func128,Tryz.ntmps128
  go_upto_region 6 with fail
  have d1:(x:Int)+(q:Int)=(i:Int):=by have:=H1.out;omega
  have d2:(x:Int)+(q:Int)*2=(j:Int):=by have:=H1.out;omega
  have d3:(x:Int)+(q:Int)*3=(k:Int):=by have:=H1.out;omega
  have g8:(8:Int)≤(l:Int):=by omega
  have hn:=ct_new w
  have hB0:Below w.heap.size w (w.alloc (.cells #[.int .i64 0] 3)):=(Below.refl _ _).alloc (Nat.le_refl _) _
  rw [d1,d2,d3]
  clear d1 d2 d3
  generalize w.alloc (.cells #[.int .i64 0] 3)=w1 at *
  have hi:1≤i∧i+1<L:=by have:=H1.out;omega
  have hj:1≤j∧j+1<L:=by have:=H1.out;omega
  have hk:1≤k∧k+1<L:=by have:=H1.out;omega
  have HW:=Lib.hid hz
  have HB:=Lib.hid (And.intro b1 (And.intro b2 b3))
  clear hz b1 b2 b3 m0 m1 m2 e0 e1
  obtain ⟨g,hg⟩:∃ g,g=w.heap.size:=⟨_,rfl⟩
  rw [← hg] at hn hB0 hb ⊢
  have HG:=Lib.hid hg
  clear hg
  have hR1:=hR.below hb hB0
  obtain ⟨m1,hm1⟩:∃ m,m=medianAdjacent ltInt d i 0:=⟨_,rfl⟩
  obtain ⟨m2,hm2⟩:∃ m,m=medianAdjacent ltInt d j m1.2:=⟨_,rfl⟩
  obtain ⟨m3,hm3⟩:∃ m,m=medianAdjacent ltInt d k m2.2:=⟨_,rfl⟩
  obtain ⟨m4,hm4⟩:∃ m,m=median ltInt d m1.1 m2.1 m3.1 m3.2:=⟨_,rfl⟩
  obtain ⟨m5,hm5⟩:∃ m,m=median ltInt d i j k 0:=⟨_,rfl⟩
  have hraw':rw0=if l ≥ 50 then m4 else m5:=by rw [hraw,hm4,hm5,hm3,hm2,hm1]
  have HRAW:=Lib.hid hraw'
  clear hraw hraw'
  have q1:=medianAdjacent_mem ltInt d i 0
  have q2:=medianAdjacent_mem ltInt d j m1.2
  have q3:=medianAdjacent_mem ltInt d k m2.2
  have p1:=medianAdjacent_count ltInt d i 0
  have p2:=medianAdjacent_count ltInt d j m1.2
  have p3:=medianAdjacent_count ltInt d k m2.2
  have p4:=median_count ltInt d m1.1 m2.1 m3.1 m3.2
  have p5:=median_count ltInt d i j k 0
  rw [← hm1] at q1 p1
  rw [← hm2] at q2 p2
  rw [← hm3] at q3 p3
  rw [← hm4] at p4
  rw [← hm5] at p5
  have r1:m1.1<L∧m2.1<L∧m3.1<L∧m1.2≤3∧m2.2≤6∧m3.2≤9∧m4.2≤12∧m5.2≤3:=by omega
  clear q1 q2 q3 p1 p2 p3 p4 p5
  have A1:=Lib.hid (adj64 b cap L i g 0 d w1 hL hR1 hb hn hi.1 hi.2 (by omega) HW.out)
  have A2:=Lib.hid (fun (y:World) (hc:CtAt y g m1.2) (hB:Below g w y)=>adj64 b cap L j g m1.2 d y hL (hR.below hb hB) hb hc hj.1 hj.2 (by omega) HW.out)
  have A3:=Lib.hid (fun (y:World) (hc:CtAt y g m2.2) (hB:Below g w y)=>adj64 b cap L k g m2.2 d y hL (hR.below hb hB) hb hc hk.1 hk.2 (by omega) HW.out)
  have A4:=Lib.hid (fun (y:World) (hc:CtAt y g m3.2) (hB:Below g w y)=>med64 b cap L m1.1 m2.1 m3.1 g m3.2 d y hL (hR.below hb hB) hb hc r1.1 r1.2.1 r1.2.2.1 (by omega))
  have A5:=Lib.hid (med64 b cap L i j k g 0 d w1 hL hR1 hb hn (by omega) (by omega) (by omega) (by omega))
  rw [← hm1] at A1
  rw [← hm2] at A2
  rw [← hm3] at A3
  rw [← hm4] at A4
  rw [← hm5] at A5
  have s4:=r1.2.2.2.2.2.2.1
  have s5:=r1.2.2.2.2.2.2.2
  clear hm1 hm2 hm3 hm4 hm5 r1 hi hj hk hR hR1 hL hxy hy
  obtain ⟨a1,c1⟩:=m1
  obtain ⟨a2,c2⟩:=m2
  obtain ⟨a3,c3⟩:=m3
  obtain ⟨a4,c4⟩:=m4
  obtain ⟨a5,c5⟩:=m5
  obtain ⟨ra,rc⟩:=rw0
  simp only at A1 A2 A3 A4 A5 HRAW s4 s5 ⊢
  by_cases h50:50≤l
  · have h50':(50:Int)≤(l:Int):=by omega
    have e:(ra,rc)=(a4,c4):=by have q:=HRAW.out;rwa [if_pos h50] at q
    have ea:a4=ra:=by cases e;rfl
    have ec:c4=rc:=by cases e;rfl
    subst ea
    subst ec
    go_wp2_with ((with_reducible refine A1.out.mono ?_);rintro e y1 ⟨rfl,hc1,hB1⟩;have HC1:=Lib.hid hc1;clear hc1)
    go_wp2_with ((with_reducible refine (A2.out _ HC1.out (hB0.trans hB1)).mono ?_);rintro e y2 ⟨rfl,hc2,hB2⟩;have HC2:=Lib.hid hc2;clear hc2)
    go_wp2_with ((with_reducible refine (A3.out _ HC2.out ((hB0.trans hB1).trans hB2)).mono ?_);rintro e y3 ⟨rfl,hc3,hB3⟩;have HC3:=Lib.hid hc3;clear hc3)
    go_wp2_with ((with_reducible refine (A4.out _ HC3.out (((hB0.trans hB1).trans hB2).trans hB3)).mono ?_);rintro e y4 ⟨rfl,hc4,hB4⟩;have kc:=ct_cell hc4;have HC4:=Lib.hid hc4;clear hc4)
    · rename_i h0
      go_ret2
      exact ⟨by rw [show hintOf _=_ from hint_0 h0];rfl,by rw [← HG.out];exact (((hB0.trans hB1).trans hB2).trans hB3).trans hB4⟩
    · rename_i h0 h12
      go_ret2
      exact ⟨by rw [show hintOf _=_ from hint_12 h12];rfl,by rw [← HG.out];exact (((hB0.trans hB1).trans hB2).trans hB3).trans hB4⟩
    · rename_i h0 h12
      go_ret2
      exact ⟨by rw [show hintOf _=_ from hint_no h0 h12];rfl,by rw [← HG.out];exact (((hB0.trans hB1).trans hB2).trans hB3).trans hB4⟩
  · have h50' : ¬ (50:Int)≤(l:Int):=by omega
    have e:(ra,rc)=(a5,c5):=by have q:=HRAW.out;rwa [if_neg h50] at q
    have ea:a5=ra:=by cases e;rfl
    have ec:c5=rc:=by cases e;rfl
    subst ea
    subst ec
    go_wp2_with ((with_reducible refine A5.out.mono ?_);rintro e y4 ⟨rfl,hc4,hB4⟩;have kc:=ct_cell hc4;have HC4:=Lib.hid hc4;clear hc4)
    · rename_i h0
      go_ret2
      exact ⟨by rw [show hintOf _=_ from hint_0 h0];rfl,by rw [← HG.out];exact hB0.trans hB4⟩
    · rename_i h0 h12
      go_ret2
      exact ⟨by rw [show hintOf _=_ from hint_no h0 h12];rfl,by rw [← HG.out];exact hB0.trans hB4⟩
end Go.Proofs.YticjodhkmidljaaGreatDoor
namespace Go.Proofs.YticjodhkmidljaaGreatDoor
open Go.RowKit Go.Sort
theorem blen2_any (n:Nat) (hn:n<18446744073709551616) (w:World):Calls Tryz.prog 101 #[.int .u64 (n:Int)] w fun e w'=>e=.returned (.int .i64 (bitsLen n:Int))∧w=w':=by
  have H:=Lib.hid (len64_any n hn w)
  rw [bitLen_eq n (by omega)] at H
  generalize bitsLen n=L at *
  clear hn
  go_enter Tryz.func101,Tryz.ntmps101
  go_wp2_with ((with_reducible refine H.out.mono ?_);rintro e w' ⟨rfl,rfl⟩)
  go_ret
  exact ⟨rfl,rfl⟩
theorem npo_any (n:Nat) (hn:n<4611686018427387904) (w:World):Calls Tryz.prog 154 #[.int .i64 (n:Int)] w fun e w'=>e=.returned (.int .u64 ((1 <<< bitsLen n:Nat):Int))∧w'=w:=by
  have H:=Lib.hid (blen2_any n (by omega) w)
  have hk:bitsLen n≤62:=(bitsLen_le_iff n 62).2 (by omega)
  have hp:=wrap_two_pow (bitsLen n) hk
  go_enter Tryz.func154,Tryz.ntmps154
  go_wp2_with ((with_reducible refine H.out.mono ?_);rintro e w' ⟨rfl,rfl⟩)
  go_ret
  exact ⟨rfl,rfl⟩
/-- The state of the draws of a number lies there. -/
abbrev XsAt (w:World) (g r:Nat):Prop:=w.heap[g]?=some (.cells #[.int .u64 (r:Int)] 220 (0,0))
theorem xs_cell {w:World} {g s:Nat} (h:XsAt w g s):w.cell? ⟨g,0,none⟩=some (.int .u64 (s:Int)):=by
  unfold World.cell?
  rw [h]
  rfl
theorem xs_thaw {w:World} {g s:Nat} (h:XsAt w g s):w.frozen? ⟨g,0,none⟩=false:=by
  unfold World.frozen?
  rw [h]
  rfl
theorem xs_set {w:World} {g s:Nat} (h:XsAt w g s) (s':Nat):XsAt (w.setCell ⟨g,0,none⟩ (.int .u64 (s':Int))) g s':=by
  simp only [XsAt,World.setCell,Array.getElem?_modify]
  rw [if_pos trivial,h]
  rfl
theorem next64 (g X:Nat) (hX:X<18446744073709551616) (w:World) (h:XsAt w g X) :
    Calls Tryz.prog 155 #[.pointer (some ⟨g,0,none⟩)] w fun e w'=>e=.returned (.int .u64 (xorNextN X:Nat))∧XsAt w' g (xorNextN X)∧Below g w w':=by
  obtain ⟨A,hA⟩:∃ A:Nat,A=X ^^^ (X*8192 % 18446744073709551616):=⟨_,rfl⟩
  obtain ⟨B,hB⟩:∃ B:Nat,B=A ^^^ (A / 128):=⟨_,rfl⟩
  obtain ⟨C,hC⟩:∃ C:Nat,C=B ^^^ (B*131072 % 18446744073709551616):=⟨_,rfl⟩
  have lA:A<18446744073709551616:=by rw [hA];exact Nat.xor_lt_two_pow (n:=64) (by omega) (by omega)
  have lB:B<18446744073709551616:=by rw [hB];exact Nat.xor_lt_two_pow (n:=64) (by omega) (by omega)
  have e1:bits .xor .u64 (X:Int) (IntKind.u64.wrap ((X:Int)*8192))=(A:Int):=by
    rw [IntKind.wrap_u64,show ((X:Int)*8192 % 18446744073709551616)=((X*8192 % 18446744073709551616:Nat):Int) by omega,bits_xor_u64_nat _ _ hX (by omega),hA]
  have e2:bits .xor .u64 (A:Int) ((A:Int) / 128)=(B:Int):=by
    rw [show ((A:Int) / 128)=((A / 128:Nat):Int) by omega,bits_xor_u64_nat _ _ lA (by omega),hB]
  have e3:bits .xor .u64 (B:Int) (IntKind.u64.wrap ((B:Int)*131072))=(C:Int):=by
    rw [IntKind.wrap_u64,show ((B:Int)*131072 % 18446744073709551616)=((B*131072 % 18446744073709551616:Nat):Int) by omega,bits_xor_u64_nat _ _ lB (by omega),hC]
  have hv:xorNextN X=C:=by unfold xorNextN;simp only [];rw [← hA, ← hB, ← hC]
  rw [hv]
  have hss:∀ v v',(w.setCell ⟨g,0,none⟩ v).setCell ⟨g,0,none⟩ v'=w.setCell ⟨g,0,none⟩ v':=setCell_setCell w g 0
  have hc:=xs_cell h
  have hf:=xs_thaw h
  have HX:=Lib.hid h
  clear hA hB hC hv h
  go_enter Tryz.func155,Tryz.ntmps155
  go_wp2_with fail
  go_region
  all_goals go_wp2_with fail
  all_goals go_region
  all_goals go_wp2_with fail
  all_goals go_region
  all_goals go_wp2_with fail
  go_ret
  exact ⟨rfl,xs_set HX.out C,(Below.setCell (Below.refl g w) (p:=⟨g,0,none⟩) (Nat.le_refl _) (.int .u64 (C:Int))).trans ⟨rfl,rfl,rfl,Nat.le_refl _,fun _ _=>rfl⟩⟩
/-- What lies in other blocks than the row's. -/
theorem rw_heap (w:World) (n b:Nat) (d:Array Int) (k:Nat) (h:k≠b):(rw64 w n b d).heap[k]?=w.heap[k]?:=by
  show (mapBlock _ _ _).heap[k]?=_
  unfold mapBlock
  simp only [Array.getElem?_modify]
  rw [if_neg (fun e=>h e.symm)]
  rfl
theorem rw_below {g:Nat} {A X:World} (h:Below g A X) (m q b:Nat) (c:Array Int):Below g (rw64 A m b c) (rw64 X q b c):=by
  refine ⟨h.os,h.tape,h.output,?_,fun k hk=>?_⟩
  · show (mapBlock _ _ _).heap.size≤(mapBlock _ _ _).heap.size
    unfold mapBlock
    simp only [Array.size_modify]
    exact h.size
  · show (mapBlock _ _ _).heap[k]?=(mapBlock _ _ _).heap[k]?
    unfold mapBlock
    simp only [Array.getElem?_modify]
    rw [show (Sort.ahead X q).heap[k]?=(Sort.ahead A m).heap[k]? from h.block k hk]
theorem rw_step {g:Nat} {w X:World} {b:Nat} {c:Array Int} (h:Below g (rw64 w 0 b c) X) (q:Nat) {c':Array Int} (hs:c'.size=c.size):Below g (rw64 w 0 b c') (rw64 X q b c'):=by
  have:=rw_below h 0 q b c'
  rwa [rw_rw _ _ _ _ _ _ hs] at this
/-- Between two rounds: the row, the state of the draws of a number. -/
structure BrI (w:World) (b g:Nat) (c:Array Int) (r:Nat) (X:World):Prop where
  row:R64 X b c
  xs:XsAt X g r
  bel:Below g (rw64 w 0 b c) X
theorem BrI.next {w:World} {b g:Nat} {c:Array Int} {r r':Nat} {X Y:World} (h:BrI w b g c r X) (hb:b<g) (hx:XsAt Y g r') (hB:Below g X Y):BrI w b g c r' Y:=⟨h.row.below hb hB,hx,h.bel.trans hB⟩
theorem BrI.swap {w:World} {b g:Nat} {c:Array Int} {r:Nat} {X:World} (h:BrI w b g c r X) (hb:b<g) (q i j:Nat) (hi:i<c.size) (hj:j<c.size) :
    BrI w b g (swp c i j) r (((X.drewN q).setCell ⟨b,i,none⟩ (.int .u64 c[j]!)).setCell ⟨b,j,none⟩ (.int .u64 c[i]!)):=by
  have e:(((X.drewN q).setCell ⟨b,i,none⟩ (.int .u64 c[j]!)).setCell ⟨b,j,none⟩ (.int .u64 c[i]!))=rw64 X (0+q) b (swp c i j):=by
    rw [← rw_swap X 0 q b c i j hi hj, ← rw_new h.row]
  rw [e]
  exact ⟨rw_holds h.row _ (size_swp _ _ _),(rw_heap _ _ _ _ _ (by omega)).trans h.xs,rw_step h.bel _ (size_swp _ _ _)⟩
set_option maxRecDepth 100000 in
set_option maxHeartbeats 16000000 in
theorem brk64 (b cap L x y:Nat) (d:Array Int) (w:World) (hL:d.size=L) (hR:R64 w b d) (hb:b<w.heap.size) (hxy:x+12<y) (hy:y≤L) (hz:L<1152921504606846976) :
    Calls Tryz.prog 127 #[.slice (some ⟨b,0,none⟩) L cap,.int .i64 (x:Int),.int .i64 (y:Int)] w fun e w'=>e=.returned (.tuple #[])∧Below w.heap.size (rw64 w 0 b (breakPatterns d x y)) w':=by
  obtain ⟨l,hl⟩:∃ l:Nat,l=y - x:=⟨_,rfl⟩
  have hyl:y=x+l:=by omega
  have hv:=breakPatterns_eq d x l (by omega)
  rw [← hyl] at hv
  rw [hv]
  clear hv
  obtain ⟨M,hM⟩:∃ M:Nat,M=1 <<< bitsLen l:=⟨_,rfl⟩
  have hM1:1≤M:=by rw [hM,Nat.one_shiftLeft];exact Nat.two_pow_pos _
  have hM2:M≤2*l:=by rw [hM,Nat.one_shiftLeft];exact two_pow_bitsLen_le (by omega)
  have hNP:∀ w,Calls Tryz.prog 154 #[.int .i64 (l:Int)] w fun e w'=>e=.returned (.int .u64 (M:Int))∧w'=w:=by rw [hM];exact fun w=>npo_any l (by omega) w
  rw [← hM]
  obtain ⟨p,hp⟩:∃ p:Nat,p=l / 4:=⟨_,rfl⟩
  obtain ⟨z,hzz⟩:∃ z:Nat,z=x+l / 4*2 - 1:=⟨_,rfl⟩
  rw [← hzz]
  have e0:(y:Int) - (x:Int)=(l:Int):=by omega
  have e1:(l:Int).tdiv 4=(p:Int):=by rw [Int.tdiv_eq_ediv_of_nonneg (by omega)];omega
  have HNP:=Lib.hid hNP
  have HZ:=Lib.hid (And.intro hp (And.intro hzz (And.intro hyl hM1)))
  have HM:=Lib.hid hM2
  have b1:l<1152921504606846976:=by omega
  have b2:p<1152921504606846976:=by omega
  have b3:x+p*2<1152921504606846976:=by omega
  have g8:(8:Int)≤(l:Int):=by omega
  have HLL:=Lib.hid hl
  have n0:IntKind.u64.wrap (l:Int)=(l:Int):=by rw [IntKind.wrap_u64];omega
  have HR:=Lib.hid hR
  clear hM hNP hp hzz hyl hM1 hM2 hl hR
  go_enter Tryz.func127,Tryz.ntmps127
  go_upto_region 3 with fail
  have hn:XsAt (w.alloc (.cells #[.int .u64 (l:Int)] 220)) w.heap.size l:=heap_alloc_new w _
  have hB0:Below w.heap.size w (w.alloc (.cells #[.int .u64 (l:Int)] 220)):=(Below.refl _ _).alloc (Nat.le_refl _) _
  generalize w.alloc (.cells #[.int .u64 (l:Int)] 220)=w1 at *
  obtain ⟨g,hg⟩:∃ g,g=w.heap.size:=⟨_,rfl⟩
  rw [← hg] at hn hB0 hb ⊢
  have HG:=Lib.hid hg
  clear hg
  have hB0':Below g (rw64 w 0 b d) w1:=by rw [← rw_new HR.out];exact hB0
  have hR1:=HR.out.below hb hB0
  have HR1:=Lib.hid hR1
  have HB0:=Lib.hid hB0'
  clear hB0 hR1 hB0'
  have HN:=Lib.hid hn
  clear hn
  have hI0:BrI w b g d l w1:=⟨HR1.out,HN.out,HB0.out⟩
  have HI0:=Lib.hid hI0
  clear HR1 HN HB0 hI0
  go_wp2_with ((with_reducible refine (HNP.out _).mono ?_);rintro e w' ⟨rfl,rfl⟩)
  rename_i w1
  rw [show (x:Int)+(p:Int)*2 - 1=(z:Int) by have:=HZ.out;omega]
  have hz1:(x:Int)+(p:Int)*2=(z:Int)+1:=by have:=HZ.out;omega
  rw [hz1]
  have e2:IntKind.i64.wrap ((x:Int)+(p:Int)*2+1)=(x:Int)+(p:Int)*2+1:=by rw [IntKind.wrap_i64];omega
  have HM1:=Lib.hid HZ.out.2.2.2
  go_loopw [9] (fun s9 wr=>∃ (t i:Nat) (r:UInt64) (c:Array Int),s9=.int .i64 (i:Int)∧i=z+t∧t≤3∧c.size=L∧BrI w b g c r.toNat wr∧bpRest x l M z (3 - t) t (r,c)=bpRest x l M z 3 0 (UInt64.ofNat l,d)) (fun s9 _=>z+3 - (intOf s9).toNat)
  case atStart=>exact ⟨0,z,UInt64.ofNat l,d,rfl,rfl,by omega,hL,by have q:=HI0.out;rwa [show (UInt64.ofNat l).toNat=l from by simp;omega],rfl⟩
  case round =>
    obtain ⟨t,i,r,c,rfl,hi,ht,hc,hI,ho⟩:=hrel
    have HO:=Lib.hid ho
    have HI:=Lib.hid hI
    have HIT:=Lib.hid hi
    clear ho hI
    have b4:i<1152921504606846976:=by have:=HZ.out;omega
    by_cases h3:t=3
    · have hgt : ¬ (i:Int)≤(z:Int)+1+1:=by omega
      clear hi
      go_wp2_with fail
      refine bodyPost_end (results_none rfl _ _ _) rfl ?_
      refine ⟨rfl,?_⟩
      rw [← HG.out,show bpRest x l M z 3 0 (UInt64.ofNat l,d)=c by rw [← HO.out,h3];rfl]
      exact HI.out.bel
    · have hle:(i:Int)≤(z:Int)+1+1:=by omega
      have hiL:i<L:=by have:=HZ.out;omega
      clear hi
      have hNX:=next64 g r.toNat r.toNat_lt wr HI.out.xs
      obtain ⟨R,hRr⟩:∃ R:Nat,R=xorNextN r.toNat:=⟨_,rfl⟩
      rw [← hRr] at hNX
      have lR:R<18446744073709551616:=by rw [hRr];exact xorNextN_lt _ r.toNat_lt
      have hRN:R=(xorNext r).toNat:=by rw [hRr,xorNext_toNat]
      obtain ⟨O,hO⟩:∃ O:Nat,O=R &&& (M - 1):=⟨_,rfl⟩
      have lO:O≤M - 1:=by rw [hO];exact Nat.and_le_right
      have lO2:O<2*l:=by have:=HM.out;have:=HM1.out;omega
      have eAnd:bits .and .u64 (R:Int) ((M:Int) - 1)=(O:Int):=by
        rw [show ((M:Int) - 1)=((M - 1:Nat):Int) by have:=HM1.out;omega,bits_and_u64_nat _ _ lR (by have:=HM.out;omega),hO]
      have eSub:IntKind.u64.wrap ((M:Int) - 1)=(M:Int) - 1:=by rw [IntKind.wrap_u64];have:=HM.out;have:=HM1.out;omega
      have eO:IntKind.i64.wrap (O:Int)=(O:Int):=by rw [IntKind.wrap_i64];omega
      have HNX:=Lib.hid hNX
      have HOR:=Lib.hid (And.intro hRN hO)
      have HLR:=Lib.hid lR
      clear hNX hRr hRN hO lO lR
      have HFIN:=Lib.hid (fun (o:Nat) (ho:(if O ≥ l then O - l else O)=o)=>(bp_step x l M z t r c o (by omega) (by rw [← HOR.out.1, ← HOR.out.2];exact ho)).symm.trans HO.out)
      by_cases hLO:l≤O
      · have hLO':(l:Int)≤(O:Int):=by omega
        obtain ⟨o,ho⟩:∃ q:Nat,q=O - l:=⟨_,rfl⟩
        have hoe:(O:Int) - (l:Int)=(o:Int):=by omega
        have hof:(if O ≥ l then O - l else O)=o:=by rw [if_pos hLO,ho]
        have hoL:o<l:=by omega
        obtain ⟨xo,hxo⟩:∃ q:Nat,q=x+o:=⟨_,rfl⟩
        have hxL:xo<L:=by have:=HZ.out;omega
        have wxo:IntKind.i64.wrap ((x:Int)+(o:Int))=(xo:Int):=by rw [IntKind.wrap_i64];omega
        have HXO:=Lib.hid hxo
        have HF1:=Lib.hid (HFIN.out o hof)
        clear hxo hof ho lO2
        have hoB:o<1152921504606846976:=by omega
        go_upto_region 7 with fail
        go_wp2_with ((with_reducible refine HNX.out.mono ?_);rintro e w2 ⟨rfl,hx2,hB2⟩;have HI2:=Lib.hid (HI.out.next hb hx2 hB2);clear hx2 hB2)
        have k0:w2.cell? ⟨b,i,none⟩=some (.int .u64 c[i]!):=by have q:=(HI2.out.row i (by omega)).1;rwa [Nat.zero_add] at q
        have k1:w2.cell? ⟨b,xo,none⟩=some (.int .u64 c[xo]!):=by have q:=(HI2.out.row xo (by omega)).1;rwa [Nat.zero_add] at q
        have t0:w2.frozen? ⟨b,i,none⟩=false:=by have q:=(HI2.out.row i (by omega)).2;rwa [Nat.zero_add] at q
        have t1:w2.frozen? ⟨b,xo,none⟩=false:=by have q:=(HI2.out.row xo (by omega)).2;rwa [Nat.zero_add] at q
        have HSW:=Lib.hid (HI2.out.swap hb 1 i xo (by omega) (by omega))
        have HEQ:=Lib.hid (show bpRest x l M z (3 - (t+1)) (t+1) (xorNext r,swp c i xo)=bpRest x l M z 3 0 (UInt64.ofNat l,d) by rw [HIT.out,HXO.out];exact HF1.out)
        have HSZ:=Lib.hid (show (swp c i xo).size=L by rw [size_swp];exact hc)
        have HRX:=Lib.hid (show R=(xorNext r).toNat from HOR.out.1)
        obtain ⟨v0,hv0⟩:∃ v,v=c[i]! := ⟨_,rfl⟩
        obtain ⟨v1,hv1⟩:∃ v,v=c[xo]! := ⟨_,rfl⟩
        by_cases hsame:i=xo
        · rw [hsame] at hv0
          have hv:v1=v0:=by rw [hv1,hv0]
          rw [← hsame] at hv0 k1 t1 HSW HEQ HSZ wxo
          rw [← hv0] at k0 HSW
          clear k1 t1 hv1 hv0
          have HSAME:=Lib.hid hsame
          generalize swp c i i=c' at *
          clear HXO HFIN HF1 HOR hsame
          go_region
          all_goals go_wp2_with fail
          refine ⟨⟨t+1,i+1,xorNext r,c',rfl,by have:=HIT.out;omega,by omega,HSZ.out,?_,HEQ.out⟩,by have:=HIT.out;simp only [intOf];omega⟩
          rw [← World.setCell_drew, ← World.setCell_drew,show w2.drew=w2.drewN 1 from rfl, ← HRX.out]
          exact HSW.out
        · rw [← hv0] at k0 HSW
          rw [← hv1] at k1 HSW
          clear hv0 hv1
          generalize swp c i xo=c' at *
          go_region
          all_goals go_wp2_with fail
          refine ⟨⟨t+1,i+1,xorNext r,c',rfl,by have:=HIT.out;omega,by omega,HSZ.out,?_,HEQ.out⟩,by have:=HIT.out;simp only [intOf];omega⟩
          rw [← World.setCell_drew, ← World.setCell_drew,show w2.drew=w2.drewN 1 from rfl, ← HRX.out]
          exact HSW.out
      · have hLO' : ¬ (l:Int)≤(O:Int):=by omega
        obtain ⟨o,ho⟩:∃ q:Nat,q=O:=⟨_,rfl⟩
        have hoe:(O:Int)=(o:Int):=by omega
        have hof:(if O ≥ l then O - l else O)=o:=by rw [if_neg hLO,ho]
        have hoL:o<l:=by omega
        obtain ⟨xo,hxo⟩:∃ q:Nat,q=x+o:=⟨_,rfl⟩
        have hxL:xo<L:=by have:=HZ.out;omega
        have wxo:IntKind.i64.wrap ((x:Int)+(o:Int))=(xo:Int):=by rw [IntKind.wrap_i64];omega
        have HXO:=Lib.hid hxo
        have HF1:=Lib.hid (HFIN.out o hof)
        clear hxo hof ho lO2
        have hoB:o<1152921504606846976:=by omega
        go_upto_region 7 with fail
        go_wp2_with ((with_reducible refine HNX.out.mono ?_);rintro e w2 ⟨rfl,hx2,hB2⟩;have HI2:=Lib.hid (HI.out.next hb hx2 hB2);clear hx2 hB2)
        have k0:w2.cell? ⟨b,i,none⟩=some (.int .u64 c[i]!):=by have q:=(HI2.out.row i (by omega)).1;rwa [Nat.zero_add] at q
        have k1:w2.cell? ⟨b,xo,none⟩=some (.int .u64 c[xo]!):=by have q:=(HI2.out.row xo (by omega)).1;rwa [Nat.zero_add] at q
        have t0:w2.frozen? ⟨b,i,none⟩=false:=by have q:=(HI2.out.row i (by omega)).2;rwa [Nat.zero_add] at q
        have t1:w2.frozen? ⟨b,xo,none⟩=false:=by have q:=(HI2.out.row xo (by omega)).2;rwa [Nat.zero_add] at q
        have HSW:=Lib.hid (HI2.out.swap hb 1 i xo (by omega) (by omega))
        have HEQ:=Lib.hid (show bpRest x l M z (3 - (t+1)) (t+1) (xorNext r,swp c i xo)=bpRest x l M z 3 0 (UInt64.ofNat l,d) by rw [HIT.out,HXO.out];exact HF1.out)
        have HSZ:=Lib.hid (show (swp c i xo).size=L by rw [size_swp];exact hc)
        have HRX:=Lib.hid (show R=(xorNext r).toNat from HOR.out.1)
        obtain ⟨v0,hv0⟩:∃ v,v=c[i]! := ⟨_,rfl⟩
        obtain ⟨v1,hv1⟩:∃ v,v=c[xo]! := ⟨_,rfl⟩
        by_cases hsame:i=xo
        · rw [hsame] at hv0
          have hv:v1=v0:=by rw [hv1,hv0]
          rw [← hsame] at hv0 k1 t1 HSW HEQ HSZ wxo
          rw [← hv0] at k0 HSW
          clear k1 t1 hv1 hv0
          have HSAME:=Lib.hid hsame
          generalize swp c i i=c' at *
          clear HXO HFIN HF1 HOR hsame
          go_region
          all_goals go_wp2_with fail
          refine ⟨⟨t+1,i+1,xorNext r,c',rfl,by have:=HIT.out;omega,by omega,HSZ.out,?_,HEQ.out⟩,by have:=HIT.out;simp only [intOf];omega⟩
          rw [← World.setCell_drew, ← World.setCell_drew,show w2.drew=w2.drewN 1 from rfl, ← HRX.out]
          exact HSW.out
        · rw [← hv0] at k0 HSW
          rw [← hv1] at k1 HSW
          clear hv0 hv1
          generalize swp c i xo=c' at *
          go_region
          all_goals go_wp2_with fail
          refine ⟨⟨t+1,i+1,xorNext r,c',rfl,by have:=HIT.out;omega,by omega,HSZ.out,?_,HEQ.out⟩,by have:=HIT.out;simp only [intOf];omega⟩
          rw [← World.setCell_drew, ← World.setCell_drew,show w2.drew=w2.drewN 1 from rfl, ← HRX.out]
          exact HSW.out
end Go.Proofs.YticjodhkmidljaaGreatDoor
