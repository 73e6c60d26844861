/- The sort of keys: a row that is nearly sorted. Condition: the row lies there. -/
import Derived.Sort.LotA
import Derived.Deep.DeepCutAuto
import Derived.Test.YticjodhkmidljaaGreatDoorZKeepNil23
import Derived.Sort.WalkC4
import Derived.Deep.CutBlock
namespace Go.Proofs.YticjodhkmidljaaGreatDoor
open Go.RowKit Go.Sort
theorem scan_go (d:Array Int) (b i:Nat) (h:i<b) (hl:ltInt d[i]! d[i - 1]! = false):scanSorted ltInt d b i=scanSorted ltInt d b (i+1):=by
  conv=>lhs;rw [scanSorted]
  rw [hl,if_pos (by simpa using h)]
theorem scan_stop (d:Array Int) (b i:Nat) (h : ¬ i<b∨ltInt d[i]! d[i - 1]! = true):scanSorted ltInt d b i=i:=by
  rw [scanSorted,if_neg]
  rcases h with h | h <;> simp [h]
theorem sdn_go (d:Array Int) (j:Nat) (h:1≤j) (hl:ltInt d[j]! d[j - 1]! = true):shiftDown ltInt j d=shiftDown ltInt (j - 1) (swp d j (j - 1)):=by
  obtain ⟨k,rfl⟩:∃ k,j=k+1:=⟨j - 1,by omega⟩
  rw [Nat.add_sub_cancel] at *
  rw [shiftDown,hl]
  rfl
theorem sdn_stop (d:Array Int) (j:Nat) (hl:j=0∨ltInt d[j]! d[j - 1]! = false):shiftDown ltInt j d=d:=by
  cases j with
  | zero=>rfl
  | succ k =>
    rw [Nat.add_sub_cancel] at hl
    rcases hl with h | h
    · omega
    · rw [shiftDown,h]
      rfl
theorem sup_go (d:Array Int) (b j:Nat) (h:j<b) (hl:ltInt d[j]! d[j - 1]! = true):shiftUp ltInt b j d=shiftUp ltInt b (j+1) (swp d j (j - 1)):=by
  conv=>lhs;rw [shiftUp]
  rw [if_pos h,hl]
  rfl
theorem sup_stop (d:Array Int) (b j:Nat) (h : ¬ j<b∨ltInt d[j]! d[j - 1]! = false):shiftUp ltInt b j d=d:=by
  rw [shiftUp]
  split
  · next q =>
    rcases h with h | h
    · exact absurd q h
    · rw [h]
      rfl
  · rfl
theorem sdn_size:∀ (j:Nat) (d:Array Int),(shiftDown ltInt j d).size=d.size
  | 0,_=>rfl
  | j+1,d=>by
    rw [shiftDown]
    split
    · rfl
    · rw [sdn_size j,size_swp]
theorem sup_size (b:Nat):∀ (n j:Nat) (d:Array Int),b - j≤n→(shiftUp ltInt b j d).size=d.size:=by
  intro n
  induction n with
  | zero =>
    intro j d h
    rw [shiftUp,if_neg (by omega)]
  | succ n ih =>
    intro j d h
    rw [shiftUp]
    split
    · split
      · rfl
      · rw [ih _ _ (by omega),size_swp]
    · rfl
/-- One step of the walk: i is where the scan stood still. -/
theorem part_step (a b s i i2:Nat) (d:Array Int) (hi:scanSorted ltInt d b i=i2):partialIns ltInt a b (s+1) i d=if i2=b then (d,true) else if b - a<50 then (d,false) else partialIns ltInt a b s i2 (if b - i2 ≥ 2 then shiftUp ltInt b (i2+1) (if i2 - a ≥ 2 then shiftDown ltInt (i2 - 1) (swp d i2 (i2 - 1)) else swp d i2 (i2 - 1)) else (if i2 - a ≥ 2 then shiftDown ltInt (i2 - 1) (swp d i2 (i2 - 1)) else swp d i2 (i2 - 1))):=by
  rw [partialIns]
  simp only [hi]
set_option maxRecDepth 100000 in
set_option maxHeartbeats 16000000 in
theorem part64 (b cap L x y:Nat) (d:Array Int) (w:World) (hL:d.size=L) (hR:R64 w b d) (hxy:x+12<y) (hy:y≤L) (hz:L<1152921504606846976) :
    Calls Tryz.prog 130 #[.slice (some ⟨b,0,none⟩) L cap,.int .i64 (x:Int),.int .i64 (y:Int)] w fun e w'=>e=.returned (.bool (partialInsertionSort ltInt d x y).2)∧∃ n,w'=rw64 w n b (partialInsertionSort ltInt d x y).1:=by
  have HR:=Lib.hid hR
  clear hR
  rw [show partialInsertionSort ltInt d x y=partialIns ltInt x y 5 (x+1) d from rfl]
  go_enter Tryz.func130,Tryz.ntmps130
  go_upto_region 3 with fail
  go_loopw [7,8] (fun s7 s8 wr=>∃ (i s n:Nat) (c:Array Int),s7=.int .i64 (i:Int)∧s8=.int .i64 (5 - (s:Int))∧s≤5∧x<i∧i≤y∧c.size=L∧wr=rw64 w n b c∧partialIns ltInt x y s i c=partialIns ltInt x y 5 (x+1) d) (fun _ s8 _=>(5 - intOf s8).toNat)
  case atStart=>exact ⟨x+1,5,0,d,rfl,rfl,by omega,by omega,by omega,hL,rw_new HR.out,rfl⟩
  case round =>
    obtain ⟨i,s,n,c,rfl,hs8,hs5,hxi,hiy,hc,hw,ho⟩:=hrel
    have HO:=Lib.hid ho
    have HW:=Lib.hid hw
    clear ho hw
    have b0:x<1152921504606846976:=by omega
    have b1:y<1152921504606846976:=by omega
    cases s with
    | zero =>
      have e5:(5:Int) - ((0:Nat):Int)=5:=rfl
      rw [e5] at hs8
      subst hs8
      clear e5
      go_wp2_with fail
      go_ret
      have e:(partialIns ltInt x y 5 (x+1) d)=(c,false):=HO.out.symm
      rw [e]
      exact ⟨rfl,n,HW.out⟩
    | succ s =>
      obtain ⟨u,hu⟩:∃ u:Nat,u+s=4:=⟨4 - s,by omega⟩
      rw [show (5:Int) - ((s+1:Nat):Int)=(u:Int) by omega] at hs8
      subst hs8
      have hu5:(u:Int)<5:=by omega
      have hul:u<5:=by omega
      have HU:=Lib.hid hu
      clear hu
      go_upto_region 5 with fail
      go_loopw [7] (fun s7 wr2=>∃ (j m:Nat),s7=.int .i64 (j:Int)∧x<j∧j≤y∧wr2=rw64 w m b c∧scanSorted ltInt c y j=scanSorted ltInt c y i) (fun s7 _=>y - (intOf s7).toNat)
      case atStart=>exact ⟨i,n,rfl,hxi,hiy,by first | exact HW.out | rfl,rfl⟩
      case round =>
        clear HW
        obtain ⟨j,m,rfl,hxj,hjy,hw2,hsc⟩:=hrel
        have HS:=Lib.hid hsc
        have HW:=Lib.hid hw2
        clear hsc hw2
        by_cases hj:j<y
        · have hj':(j:Int)<(y:Int):=by omega
          have c0:=rw_cell HR.out (m) (d:=c) (by rw [hc,hL]) (j) (by omega)
          have t0:=rw_thaw HR.out (m) c (j) (by omega)
          rw [← HW.out] at c0 t0
          obtain ⟨v0,hv0⟩:∃ v,v=c[j]! := ⟨_,rfl⟩
          rw [← hv0] at c0
          have HV0:=Lib.hid hv0
          clear hv0
          have c1:=rw_cell HR.out (m) (d:=c) (by rw [hc,hL]) (j - 1) (by omega)
          have t1:=rw_thaw HR.out (m) c (j - 1) (by omega)
          rw [← HW.out] at c1 t1
          obtain ⟨v1,hv1⟩:∃ v,v=c[j - 1]! := ⟨_,rfl⟩
          rw [← hv1] at c1
          have HV1:=Lib.hid hv1
          clear hv1
          cases hl:ltInt v0 v1
          · go_wp2_with fail
            go_quiet (first | (go_at_call 131;exact Calls.quiet_of_same (less_any _ _ _)))
            go_wp2_with fail
            refine ⟨⟨j+1,m+nq,rfl,by omega,by omega,by rw [HW.out];exact rw_draw _ _ _ _ _,?_⟩,by simp only [intOf];omega⟩
            rw [← HS.out, ← scan_go c y j hj (by rw [← HV0.out, ← HV1.out];exact hl)]
          · go_wp2_with fail
            go_quiet (first | (go_at_call 131;exact Calls.quiet_of_same (less_any _ _ _)))
            have hsj:scanSorted ltInt c y i=j:=by rw [← HS.out];exact scan_stop c y j (.inr (by rw [← HV0.out, ← HV1.out];exact hl))
            have HSJ:=Lib.hid hsj
            clear hsj
            have hjn:((j:Int) == (y:Int))=false:=by simp;omega
            by_cases h50:y - x<50
            · have h50':(y:Int) - (x:Int)<50:=by omega
              go_wp2_with fail
              go_ret
              have e:partialIns ltInt x y 5 (x+1) d=(c,false):=by rw [← HO.out,part_step x y s i j c HSJ.out,if_neg (show ¬ j=y by omega),if_pos h50]
              rw [e]
              exact ⟨rfl,m+nq,by rw [HW.out];exact rw_draw _ _ _ _ _⟩
            · have h50' : ¬ (y:Int) - (x:Int)<50:=by omega
              have hO2:partialIns ltInt x y s j (if y - j ≥ 2 then shiftUp ltInt y (j+1) (if j - x ≥ 2 then shiftDown ltInt (j - 1) (swp c j (j - 1)) else swp c j (j - 1)) else (if j - x ≥ 2 then shiftDown ltInt (j - 1) (swp c j (j - 1)) else swp c j (j - 1)))=partialIns ltInt x y 5 (x+1) d:=by rw [← HO.out,part_step x y s i j c HSJ.out,if_neg (show ¬ j=y by omega),if_neg h50]
              obtain ⟨c2,hc2⟩:∃ c2,c2=if j - x ≥ 2 then shiftDown ltInt (j - 1) (swp c j (j - 1)) else swp c j (j - 1):=⟨_,rfl⟩
              obtain ⟨c3,hc3⟩:∃ c3,c3=if y - j ≥ 2 then shiftUp ltInt y (j+1) c2 else c2:=⟨_,rfl⟩
              rw [← hc2, ← hc3] at hO2
              have HC2:=Lib.hid hc2
              have HC3:=Lib.hid hc3
              have HO2:=Lib.hid hO2
              have HH50:=Lib.hid h50
              have hyx:(50:Int)≤(y:Int) - (x:Int):=by omega
              have hne : ¬ j=j - 1:=by omega
              clear hc2 hc3 hO2 HO h50 h50'
              go_upto_region 11 with fail
              go_region
              all_goals go_upto_if 61 with fail
              have hws:(((wr.drewN (nq+1)).setCell ⟨b,j,none⟩ (.int .u64 v1)).setCell ⟨b,j - 1,none⟩ (.int .u64 v0))=rw64 w (m+(nq+1)) b (swp c j (j - 1)):=by rw [HW.out,HV0.out,HV1.out];exact rw_swap w m _ b c j (j - 1) (by omega) (by omega)
              rw [hws]
              generalize hg2:rw64 w (m+(nq+1)) b (swp c j (j - 1))=wr2
              have HW2:=Lib.hid hg2.symm
              clear hws hg2 c0 c1 t0 t1 HW
              go_cut [61] (fun _ wx=>∃ q,wx=rw64 w q b c2)
              case first =>
                by_cases h2:j - x ≥ 2
                · have h2':(2:Int)≤(j:Int) - (x:Int):=by omega
                  go_upto_region 14 with fail
                  go_loopw [9] (fun sk wx=>∃ (k q:Nat) (e:Array Int),sk=.int .i64 (k:Int)∧k<L∧e.size=L∧wx=rw64 w q b e∧shiftDown ltInt k e=c2) (fun sk _=>(intOf sk).toNat)
                  case atStart=>exact ⟨j - 1,m+(nq+1),swp c j (j - 1),by congr 1;omega,by omega,by rw [size_swp];exact hc,HW2.out,by rw [HC2.out,if_pos h2]⟩
                  case round =>
                    clear HW2
                    obtain ⟨k,q,e,rfl,hk,he,hw4,hfin⟩:=hrel
                    have HW2:=Lib.hid hw4
                    have HFIN:=Lib.hid hfin
                    clear hw4 hfin
                    by_cases hk1:1≤k
                    · have hk1':(1:Int)≤(k:Int):=by omega
                      have hkn : ¬ k=k - 1:=by omega
                      have c8:=rw_cell HR.out (q) (d:=e) (by rw [he,hL]) (k) (by omega)
                      have t8:=rw_thaw HR.out (q) e (k) (by omega)
                      rw [← HW2.out] at c8 t8
                      obtain ⟨v8,hv8⟩:∃ v,v=e[k]! := ⟨_,rfl⟩
                      rw [← hv8] at c8
                      have HV8:=Lib.hid hv8
                      clear hv8
                      have c9:=rw_cell HR.out (q) (d:=e) (by rw [he,hL]) (k - 1) (by omega)
                      have t9:=rw_thaw HR.out (q) e (k - 1) (by omega)
                      rw [← HW2.out] at c9 t9
                      obtain ⟨v9,hv9⟩:∃ v,v=e[k - 1]! := ⟨_,rfl⟩
                      rw [← hv9] at c9
                      have HV9:=Lib.hid hv9
                      clear hv9
                      cases hl2:ltInt v8 v9
                      · go_wp2_with fail
                        go_quiet (first | (go_at_call 131;exact Calls.quiet_of_same (less_any _ _ _)))
                        go_wp2_with fail
                        go_meet
                        refine ⟨q+nq,?_⟩
                        rw [show c2=e by rw [← HFIN.out];exact sdn_stop e k (.inr (by rw [← HV8.out, ← HV9.out];exact hl2)),HW2.out]
                        exact rw_draw _ _ _ _ _
                      · go_wp2_with fail
                        go_quiet (first | (go_at_call 131;exact Calls.quiet_of_same (less_any _ _ _)))
                        go_wp2_with fail
                        go_region
                        all_goals go_wp2_with fail
                        refine ⟨⟨k - 1,q+(nq+1),swp e k (k - 1),by congr 1;omega,by omega,by rw [size_swp];exact he,?_,?_⟩,by simp only [intOf];omega⟩
                        · rw [HW2.out,HV8.out,HV9.out]
                          exact rw_swap w q (nq+1) b e k (k - 1) (by omega) (by omega)
                        · rw [← HFIN.out]
                          exact (sdn_go e k hk1 (by rw [← HV8.out, ← HV9.out];exact hl2)).symm
                    · have hk1' : ¬ (1:Int)≤(k:Int):=by omega
                      go_wp2_with fail
                      go_meet
                      refine ⟨q,?_⟩
                      rw [show c2=e by rw [← HFIN.out];exact sdn_stop e k (.inl (by omega))]
                      exact HW2.out
                · have h2' : ¬ (2:Int)≤(j:Int) - (x:Int):=by omega
                  go_wp2_with fail
                  go_meet
                  refine ⟨m+(nq+1),?_⟩
                  rw [show c2=swp c j (j - 1) by rw [HC2.out,if_neg h2]]
                  exact HW2.out
              case rest =>
              obtain ⟨m3,hw3⟩:=hcut
              clear HW2
              have HW2:=Lib.hid hw3
              have hc2s:c2.size=L:=by
                rw [HC2.out]
                split
                · rw [sdn_size,size_swp];exact hc
                · rw [size_swp];exact hc
              clear hw3
              go_upto_if 98 with fail
              have hc3s:c3.size=L:=by
                rw [HC3.out]
                split
                · rw [sup_size _ _ _ _ (Nat.le_refl _)];exact hc2s
                · exact hc2s
              by_cases h3:y - j ≥ 2
              · have h3':(2:Int)≤(y:Int) - (j:Int):=by omega
                go_upto_region 20 with fail
                go_loopw [10] (fun sk wx=>∃ (k q:Nat) (e:Array Int),sk=.int .i64 (k:Int)∧(j<k∧k≤y)∧e.size=L∧wx=rw64 w q b e∧shiftUp ltInt y k e=c3) (fun sk _=>y - (intOf sk).toNat)
                case atStart=>exact ⟨j+1,m3,c2,rfl,by omega,hc2s,HW2.out,by rw [HC3.out,if_pos h3]⟩
                case round =>
                  clear HW2
                  obtain ⟨k,q,e,rfl,hk,he,hw4,hfin⟩:=hrel
                  have HW2:=Lib.hid hw4
                  have HFIN:=Lib.hid hfin
                  clear hw4 hfin
                  by_cases hk1:k<y
                  · have hk1':(k:Int)<(y:Int):=by omega
                    have hkn : ¬ k=k - 1:=by omega
                    have c8:=rw_cell HR.out (q) (d:=e) (by rw [he,hL]) (k) (by omega)
                    have t8:=rw_thaw HR.out (q) e (k) (by omega)
                    rw [← HW2.out] at c8 t8
                    obtain ⟨v8,hv8⟩:∃ v,v=e[k]! := ⟨_,rfl⟩
                    rw [← hv8] at c8
                    have HV8:=Lib.hid hv8
                    clear hv8
                    have c9:=rw_cell HR.out (q) (d:=e) (by rw [he,hL]) (k - 1) (by omega)
                    have t9:=rw_thaw HR.out (q) e (k - 1) (by omega)
                    rw [← HW2.out] at c9 t9
                    obtain ⟨v9,hv9⟩:∃ v,v=e[k - 1]! := ⟨_,rfl⟩
                    rw [← hv9] at c9
                    have HV9:=Lib.hid hv9
                    clear hv9
                    cases hl2:ltInt v8 v9
                    · go_wp2_with fail
                      go_quiet (first | (go_at_call 131;exact Calls.quiet_of_same (less_any _ _ _)))
                      go_wp2_with fail
                      refine ⟨⟨j,s,q+nq,c3,rfl,by have:=HU.out;congr 1;omega,by omega,hxj,hjy,hc3s,?_,HO2.out⟩,by have:=HU.out;simp only [intOf];omega⟩
                      rw [show c3=e by rw [← HFIN.out];exact sup_stop e y k (.inr (by rw [← HV8.out, ← HV9.out];exact hl2)),HW2.out]
                      exact rw_draw _ _ _ _ _
                    · go_wp2_with fail
                      go_quiet (first | (go_at_call 131;exact Calls.quiet_of_same (less_any _ _ _)))
                      go_wp2_with fail
                      go_region
                      all_goals go_wp2_with fail
                      refine ⟨⟨k+1,q+(nq+1),swp e k (k - 1),rfl,by omega,by rw [size_swp];exact he,?_,?_⟩,by simp only [intOf];omega⟩
                      · rw [HW2.out,HV8.out,HV9.out]
                        exact rw_swap w q (nq+1) b e k (k - 1) (by omega) (by omega)
                      · rw [← HFIN.out]
                        exact (sup_go e y k hk1 (by rw [← HV8.out, ← HV9.out];exact hl2)).symm
                  · have hk1' : ¬ (k:Int)<(y:Int):=by omega
                    go_wp2_with fail
                    refine ⟨⟨j,s,q,c3,rfl,by have:=HU.out;congr 1;omega,by omega,hxj,hjy,hc3s,?_,HO2.out⟩,by have:=HU.out;simp only [intOf];omega⟩
                    rw [show c3=e by rw [← HFIN.out];exact sup_stop e y k (.inl (by omega))]
                    exact HW2.out
              · have h3' : ¬ (2:Int)≤(y:Int) - (j:Int):=by omega
                go_wp2_with fail
                refine ⟨⟨j,s,m3,c3,rfl,by have:=HU.out;congr 1;omega,by omega,hxj,hjy,hc3s,?_,HO2.out⟩,by have:=HU.out;simp only [intOf];omega⟩
                rw [show c3=c2 by rw [HC3.out,if_neg h3]]
                exact HW2.out
        · have hj' : ¬ (j:Int)<(y:Int):=by omega
          have hjn:((j:Int) == (y:Int))=true:=by simp;omega
          have hjy2:j=y:=by omega
          have HJY:=Lib.hid hjy2
          clear hjy2
          go_wp2_with fail
          go_quiet (first | (go_at_call 131;exact Calls.quiet_of_same (less_any _ _ _)))
          go_wp2_with fail
          go_ret
          have e:partialIns ltInt x y 5 (x+1) d=(c,true):=by rw [← HO.out,part_step x y s i j c (by rw [← HS.out];exact scan_stop c y j (.inl hj)),if_pos HJY.out]
          rw [e]
          exact ⟨rfl,_,by rw [HW.out];exact rw_draw _ _ _ _ _⟩
end Go.Proofs.YticjodhkmidljaaGreatDoor
namespace Go.Proofs.YticjodhkmidljaaGreatDoor
open Go.RowKit Go.Sort
set_option maxRecDepth 100000 in
set_option maxHeartbeats 16000000 in
theorem peq64 (b cap L x y p:Nat) (d:Array Int) (w:World) (hL:d.size=L) (hR:R64 w b d) (hxp:x≤p) (hpy:p<y) (hxy:x+1<y) (hy:y≤L) (hz:L<1152921504606846976) :
    Calls Tryz.prog 132 #[.slice (some ⟨b,0,none⟩) L cap,.int .i64 (x:Int),.int .i64 (y:Int),.int .i64 (p:Int)] w fun e w'=>e=.returned (.int .i64 ((partitionEqual ltInt d x y p).1:Int))∧∃ n,w'=rw64 w n b (partitionEqual ltInt d x y p).2:=by
  rw [show partitionEqual ltInt d x y p=partEqLoop ltInt x (x+1) (y - 1) (swp d x p) from rfl]
  have HR:=Lib.hid hR
  clear hR
  have b0:x<1152921504606846976:=by omega
  have b1:y<1152921504606846976:=by omega
  have HW0:=Lib.hid (rw_new HR.out)
  obtain ⟨c0,hc0⟩:∃ c,c=swp d x p:=⟨_,rfl⟩
  have hcs:c0.size=L:=by rw [hc0,size_swp,hL]
  have HC0:=Lib.hid hc0
  rw [← hc0]
  clear hc0
  go_enter Tryz.func132,Tryz.ntmps132
  go_upto_region 1 with fail
  go_cut [24] (fun _ wx=>∃ q,wx=rw64 w q b c0)
  case first =>
    have c8:=rw_cell HR.out (0) (d:=d) rfl (x) (by omega)
    have t8:=rw_thaw HR.out (0) d (x) (by omega)
    rw [← HW0.out] at c8 t8
    obtain ⟨v8,hv8⟩:∃ v,v=d[x]! := ⟨_,rfl⟩
    rw [← hv8] at c8
    have HV8:=Lib.hid hv8
    clear hv8
    have c9:=rw_cell HR.out (0) (d:=d) rfl (p) (by omega)
    have t9:=rw_thaw HR.out (0) d (p) (by omega)
    rw [← HW0.out] at c9 t9
    obtain ⟨v9,hv9⟩:∃ v,v=d[p]! := ⟨_,rfl⟩
    rw [← hv9] at c9
    have HV9:=Lib.hid hv9
    clear hv9
    have hsw:=rw_swap w (0) 1 b d (x) (p) (by omega) (by omega)
    rw [← HV8.out, ← HV9.out, ← HW0.out, ← HC0.out] at hsw
    have HSW:=Lib.hid hsw
    clear hsw
    by_cases hsame:x=p
    · have hv:v9=v8:=by rw [HV9.out,HV8.out,hsame]
      clear c9 t9
      subst hsame
      subst hv
      go_region
      all_goals go_wp2_with fail
      all_goals go_meet
      exact ⟨_,HSW.out⟩
    · go_region
      all_goals go_wp2_with fail
      all_goals go_meet
      exact ⟨_,HSW.out⟩
  case rest =>
  obtain ⟨n0,hw0⟩:=hcut
  have HW1:=Lib.hid hw0
  clear hw0 HW0
  go_upto_region 3 with fail
  go_loopw [9,10] (fun s9 s10 wr=>∃ (i j n:Nat) (c:Array Int),s9=.int .i64 (i:Int)∧s10=.int .i64 (j:Int)∧(x<i∧i≤j+1∧j<y)∧c.size=L∧wr=rw64 w n b c∧partEqLoop ltInt x i j c=partEqLoop ltInt x (x+1) (y - 1) c0) (fun s9 s10 _=>(intOf s10+1 - intOf s9).toNat)
  case atStart=>exact ⟨x+1,y - 1,n0,c0,rfl,by congr 1;omega,by omega,hcs,HW1.out,rfl⟩
  case round =>
    clear HW1
    obtain ⟨i,j,n,c,rfl,rfl,hij,hc,hw,ho⟩:=hrel
    have HO:=Lib.hid ho
    have HW:=Lib.hid hw
    clear ho hw
    go_upto_block 2 with fail
    go_cut [9,43] (fun sk _ wx=>∃ k q:Nat,sk=.int .i64 (k:Int)∧(i≤k∧k≤j+1)∧wx=rw64 w q b c∧k=scanUp (fun z => !ltInt c[x]! z) c j i)
    case first =>
      go_upto_region 3 with fail
      go_loopw [9] (fun sk wx=>∃ k q:Nat,sk=.int .i64 (k:Int)∧(i≤k∧k≤j+1)∧wx=rw64 w q b c∧scanUp (fun z => !ltInt c[x]! z) c j k=scanUp (fun z => !ltInt c[x]! z) c j i) (fun sk _=>j+1 - (intOf sk).toNat)
      case atStart=>exact ⟨i,n,rfl,by omega,HW.out,rfl⟩
      case round =>
        obtain ⟨k,q,rfl,hk,hw9,hsc⟩:=hrel
        have HW9:=Lib.hid hw9
        have HSC:=Lib.hid hsc
        clear hw9 hsc
        have bk:k<1152921504606846976:=by omega
        by_cases hk1:k≤j
        · have hk1':(k:Int)≤(j:Int):=by omega
          have c8:=rw_cell HR.out (q) (d:=c) (by rw [hc,hL]) (x) (by omega)
          have t8:=rw_thaw HR.out (q) c (x) (by omega)
          rw [← HW9.out] at c8 t8
          obtain ⟨v8,hv8⟩:∃ v,v=c[x]! := ⟨_,rfl⟩
          rw [← hv8] at c8
          have HV8:=Lib.hid hv8
          clear hv8
          have c9:=rw_cell HR.out (q) (d:=c) (by rw [hc,hL]) (k) (by omega)
          have t9:=rw_thaw HR.out (q) c (k) (by omega)
          rw [← HW9.out] at c9 t9
          obtain ⟨v9,hv9⟩:∃ v,v=c[k]! := ⟨_,rfl⟩
          rw [← hv9] at c9
          have HV9:=Lib.hid hv9
          clear hv9
          cases hl:ltInt v8 v9
          · go_wp2_with fail
            go_quiet (first | (go_at_call 131;exact Calls.quiet_of_same (less_any _ _ _)))
            go_wp2_with fail
            refine ⟨⟨k+1,q+nq,rfl,by omega,by rw [HW9.out];exact rw_draw _ _ _ _ _,?_⟩,by simp only [intOf];omega⟩
            rw [← HSC.out]
            exact (scanUp_go (fun z => !ltInt c[x]! z) c j k hk1 (by rw [← HV8.out, ← HV9.out];simp only [hl,Bool.not_false])).symm
          · go_wp2_with fail
            go_quiet (first | (go_at_call 131;exact Calls.quiet_of_same (less_any _ _ _)))
            go_wp2_with fail
            go_meet
            refine ⟨k,q+nq,rfl,by omega,by rw [HW9.out];exact rw_draw _ _ _ _ _,?_⟩
            rw [← HSC.out]
            exact (scanUp_end (fun z => !ltInt c[x]! z) c j k (.inr (by rw [← HV8.out, ← HV9.out];simp only [hl,Bool.not_true]))).symm
        · have hk1' : ¬ (k:Int)≤(j:Int):=by omega
          go_wp2_with fail
          go_quiet (first | (go_at_call 131;exact Calls.quiet_of_same (less_any _ _ _)))
          go_wp2_with fail
          go_meet
          refine ⟨k,q+nq,rfl,by omega,by rw [HW9.out];exact rw_draw _ _ _ _ _,?_⟩
          rw [← HSC.out]
          exact (scanUp_end (fun z => !ltInt c[x]! z) c j k (.inl hk1)).symm
    case rest =>
    obtain ⟨i2,n1,rfl,hi2,hw1,hsi⟩:=hcut
    have HI2:=Lib.hid hsi
    have HWa:=Lib.hid hw1
    clear hsi hw1
    go_upto_block 4 with fail
    go_cut [10,59] (fun sk _ wx=>∃ k q:Nat,sk=.int .i64 (k:Int)∧(k≤j∧i2≤k+1)∧wx=rw64 w q b c∧k=scanDown (fun z=>ltInt c[x]! z) c i2 j)
    case first =>
      go_upto_region 5 with fail
      go_loopw [10] (fun sk wx=>∃ k q:Nat,sk=.int .i64 (k:Int)∧(k≤j∧i2≤k+1)∧wx=rw64 w q b c∧scanDown (fun z=>ltInt c[x]! z) c i2 k=scanDown (fun z=>ltInt c[x]! z) c i2 j) (fun sk _=>(intOf sk).toNat)
      case atStart=>exact ⟨j,n1,rfl,by omega,HWa.out,rfl⟩
      case round =>
        obtain ⟨k,q,rfl,hk,hw9,hsc⟩:=hrel
        have HW9:=Lib.hid hw9
        have HSC:=Lib.hid hsc
        clear hw9 hsc
        have bk:k<1152921504606846976:=by omega
        by_cases hk1:i2≤k
        · have hk1':(i2:Int)≤(k:Int):=by omega
          have c8:=rw_cell HR.out (q) (d:=c) (by rw [hc,hL]) (x) (by omega)
          have t8:=rw_thaw HR.out (q) c (x) (by omega)
          rw [← HW9.out] at c8 t8
          obtain ⟨v8,hv8⟩:∃ v,v=c[x]! := ⟨_,rfl⟩
          rw [← hv8] at c8
          have HV8:=Lib.hid hv8
          clear hv8
          have c9:=rw_cell HR.out (q) (d:=c) (by rw [hc,hL]) (k) (by omega)
          have t9:=rw_thaw HR.out (q) c (k) (by omega)
          rw [← HW9.out] at c9 t9
          obtain ⟨v9,hv9⟩:∃ v,v=c[k]! := ⟨_,rfl⟩
          rw [← hv9] at c9
          have HV9:=Lib.hid hv9
          clear hv9
          cases hl:ltInt v8 v9
          · go_wp2_with fail
            go_quiet (first | (go_at_call 131;exact Calls.quiet_of_same (less_any _ _ _)))
            go_wp2_with fail
            go_meet
            refine ⟨k,q+nq,rfl,by omega,by rw [HW9.out];exact rw_draw _ _ _ _ _,?_⟩
            rw [← HSC.out]
            exact (scanDown_end (fun z=>ltInt c[x]! z) c i2 k (.inr (by rw [← HV8.out, ← HV9.out];exact hl))).symm
          · go_wp2_with fail
            go_quiet (first | (go_at_call 131;exact Calls.quiet_of_same (less_any _ _ _)))
            go_wp2_with fail
            refine ⟨⟨k - 1,q+nq,by congr 1;omega,by omega,by rw [HW9.out];exact rw_draw _ _ _ _ _,?_⟩,by simp only [intOf];omega⟩
            rw [← HSC.out]
            exact (scanDown_go (fun z=>ltInt c[x]! z) c i2 k hk1 (by omega) (by rw [← HV8.out, ← HV9.out];exact hl)).symm
        · have hk1' : ¬ (i2:Int)≤(k:Int):=by omega
          go_wp2_with fail
          go_quiet (first | (go_at_call 131;exact Calls.quiet_of_same (less_any _ _ _)))
          go_wp2_with fail
          go_meet
          refine ⟨k,q+nq,rfl,by omega,by rw [HW9.out];exact rw_draw _ _ _ _ _,?_⟩
          rw [← HSC.out]
          exact (scanDown_end (fun z=>ltInt c[x]! z) c i2 k (.inl hk1)).symm
    case rest =>
    obtain ⟨j2,n2,rfl,hj2,hw2,hsj⟩:=hcut
    have HJ2:=Lib.hid hsj
    have HW2:=Lib.hid hw2
    clear hsj hw2
    have bi2:i2<1152921504606846976:=by omega
    have bj2:j2<1152921504606846976:=by omega
    by_cases hgt:j2<i2
    · have hgt':(j2:Int)<(i2:Int):=by omega
      have he:partEqLoop ltInt x (x+1) (y - 1) c0=(i2,c):=HO.out.symm.trans (partEq_break ltInt x i j c HI2.out HJ2.out hgt)
      have HE:=Lib.hid he
      clear he
      go_wp2_with fail
      go_ret
      rw [HE.out]
      exact ⟨rfl,n2,HW2.out⟩
    · have hgt' : ¬ (j2:Int)<(i2:Int):=by omega
      have hlt:=scans_lt ltInt x i j c (by omega) HI2.out HJ2.out (by omega)
      have HGO:=Lib.hid ((partEq_go ltInt x i j c HI2.out HJ2.out (by omega)).symm.trans HO.out)
      go_upto_region 8 with fail
      go_cut [77] (fun _ wx=>∃ q,wx=rw64 w q b (swp c i2 j2))
      case first =>
        have c8:=rw_cell HR.out (n2) (d:=c) (by rw [hc,hL]) (i2) (by omega)
        have t8:=rw_thaw HR.out (n2) c (i2) (by omega)
        rw [← HW2.out] at c8 t8
        obtain ⟨v8,hv8⟩:∃ v,v=c[i2]! := ⟨_,rfl⟩
        rw [← hv8] at c8
        have HV8:=Lib.hid hv8
        clear hv8
        have c9:=rw_cell HR.out (n2) (d:=c) (by rw [hc,hL]) (j2) (by omega)
        have t9:=rw_thaw HR.out (n2) c (j2) (by omega)
        rw [← HW2.out] at c9 t9
        obtain ⟨v9,hv9⟩:∃ v,v=c[j2]! := ⟨_,rfl⟩
        rw [← hv9] at c9
        have HV9:=Lib.hid hv9
        clear hv9
        have hsw:=rw_swap w (n2) 1 b c (i2) (j2) (by omega) (by omega)
        rw [← HV8.out, ← HV9.out, ← HW2.out] at hsw
        have HSW:=Lib.hid hsw
        clear hsw
        by_cases hsame:i2=j2
        · omega
        · go_region
          all_goals go_wp2_with fail
          all_goals go_meet
          exact ⟨_,HSW.out⟩
      case rest =>
      obtain ⟨m2,hm2⟩:=hcut
      have HW3:=Lib.hid hm2
      clear hm2
      have hcs2:(swp c i2 j2).size=L:=by rw [size_swp];exact hc
      have HCS2:=Lib.hid hcs2
      clear hcs2
      have e3:(j2:Int) - 1=((j2 - 1:Nat):Int):=by omega
      go_wp2_with fail
      exact ⟨⟨i2+1,j2 - 1,m2,swp c i2 j2,rfl,by congr 1,by omega,HCS2.out,HW3.out,HGO.out⟩,by simp only [intOf];omega⟩
end Go.Proofs.YticjodhkmidljaaGreatDoor
namespace Go.Proofs.YticjodhkmidljaaGreatDoor
open Go.RowKit Go.Sort
set_option maxRecDepth 100000 in
set_option maxHeartbeats 16000000 in
theorem prt64 (b cap L x y p:Nat) (d:Array Int) (w:World) (hL:d.size=L) (hR:R64 w b d) (hxp:x≤p) (hpy:p<y) (hxy:x+1<y) (hy:y≤L) (hz:L<1152921504606846976) :
    Calls Tryz.prog 133 #[.slice (some ⟨b,0,none⟩) L cap,.int .i64 (x:Int),.int .i64 (y:Int),.int .i64 (p:Int)] w fun e w'=>e=.returned (.tuple #[.int .i64 ((partition ltInt d x y p).1:Int),.bool (partition ltInt d x y p).2.1])∧∃ n,w'=rw64 w n b (partition ltInt d x y p).2.2:=by
  have HR:=Lib.hid hR
  clear hR
  have b0:x<1152921504606846976:=by omega
  have b1:y<1152921504606846976:=by omega
  have HW0:=Lib.hid (rw_new HR.out)
  obtain ⟨c0,hc0⟩:∃ c,c=swp d x p:=⟨_,rfl⟩
  have hcs:c0.size=L:=by rw [hc0,size_swp,hL]
  have HC0:=Lib.hid hc0
  clear hc0
  obtain ⟨R,hr⟩:∃ R,R=partition ltInt d x y p:=⟨_,rfl⟩
  rw [← hr]
  have HRR:=Lib.hid hr
  clear hr
  go_enter Tryz.func133,Tryz.ntmps133
  go_upto_region 1 with fail
  go_cut [25] (fun _ wx=>∃ q,wx=rw64 w q b c0)
  case first =>
    have c8:=rw_cell HR.out (0) (d:=d) rfl (x) (by omega)
    have t8:=rw_thaw HR.out (0) d (x) (by omega)
    rw [← HW0.out] at c8 t8
    obtain ⟨v8,hv8⟩:∃ v,v=d[x]! := ⟨_,rfl⟩
    rw [← hv8] at c8
    have HV8:=Lib.hid hv8
    clear hv8
    have c9:=rw_cell HR.out (0) (d:=d) rfl (p) (by omega)
    have t9:=rw_thaw HR.out (0) d (p) (by omega)
    rw [← HW0.out] at c9 t9
    obtain ⟨v9,hv9⟩:∃ v,v=d[p]! := ⟨_,rfl⟩
    rw [← hv9] at c9
    have HV9:=Lib.hid hv9
    clear hv9
    have hsw:=rw_swap w (0) 1 b d (x) (p) (by omega) (by omega)
    rw [← HV8.out, ← HV9.out, ← HW0.out, ← HC0.out] at hsw
    have HSW:=Lib.hid hsw
    clear hsw
    by_cases hsame:x=p
    · have hv:v9=v8:=by rw [HV9.out,HV8.out,hsame]
      clear c9 t9
      subst hsame
      subst hv
      go_region
      all_goals go_wp2_with fail
      all_goals go_meet
      exact ⟨_,HSW.out⟩
    · go_region
      all_goals go_wp2_with fail
      all_goals go_meet
      exact ⟨_,HSW.out⟩
  case rest =>
  obtain ⟨n0,hw0⟩:=hcut
  have HW1:=Lib.hid hw0
  clear hw0 HW0
  obtain ⟨i,hi⟩:∃ i,i=x+1:=⟨_,rfl⟩
  obtain ⟨j,hj⟩:∃ j,j=y - 1:=⟨_,rfl⟩
  have HI:=Lib.hid hi
  have HJ:=Lib.hid hj
  have hij:x<i∧i≤j+1∧j<y:=by omega
  clear hi hj
  go_upto_block 0 with fail
  rw [show (x:Int)+1=(i:Int) by have:=HI.out;omega,show (y:Int) - 1=(j:Int) by have:=HJ.out;omega]
  go_cut [10,43] (fun sk _ wx=>∃ k q:Nat,sk=.int .i64 (k:Int)∧(i≤k∧k≤j+1)∧wx=rw64 w q b c0∧k=scanUp (fun z=>ltInt z c0[x]!) c0 j i)
  case first =>
    go_upto_region 3 with fail
    go_loopw [10] (fun sk wx=>∃ k q:Nat,sk=.int .i64 (k:Int)∧(i≤k∧k≤j+1)∧wx=rw64 w q b c0∧scanUp (fun z=>ltInt z c0[x]!) c0 j k=scanUp (fun z=>ltInt z c0[x]!) c0 j i) (fun sk _=>j+1 - (intOf sk).toNat)
    case atStart=>exact ⟨i,n0,rfl,by omega,HW1.out,rfl⟩
    case round =>
      obtain ⟨k,q,rfl,hk,hw9,hsc⟩:=hrel
      have HW9:=Lib.hid hw9
      have HSC:=Lib.hid hsc
      clear hw9 hsc
      have bk:k<1152921504606846976:=by omega
      by_cases hk1:k≤j
      · have hk1':(k:Int)≤(j:Int):=by omega
        have c8:=rw_cell HR.out (q) (d:=c0) (by rw [hcs,hL]) (x) (by omega)
        have t8:=rw_thaw HR.out (q) c0 (x) (by omega)
        rw [← HW9.out] at c8 t8
        obtain ⟨v8,hv8⟩:∃ v,v=c0[x]! := ⟨_,rfl⟩
        rw [← hv8] at c8
        have HV8:=Lib.hid hv8
        clear hv8
        have c9:=rw_cell HR.out (q) (d:=c0) (by rw [hcs,hL]) (k) (by omega)
        have t9:=rw_thaw HR.out (q) c0 (k) (by omega)
        rw [← HW9.out] at c9 t9
        obtain ⟨v9,hv9⟩:∃ v,v=c0[k]! := ⟨_,rfl⟩
        rw [← hv9] at c9
        have HV9:=Lib.hid hv9
        clear hv9
        cases hl:ltInt v9 v8
        · go_wp2_with fail
          go_quiet (first | (go_at_call 131;exact Calls.quiet_of_same (less_any _ _ _)))
          go_wp2_with fail
          go_meet
          refine ⟨k,q+nq,rfl,by omega,by rw [HW9.out];exact rw_draw _ _ _ _ _,?_⟩
          rw [← HSC.out]
          exact (scanUp_end (fun z=>ltInt z c0[x]!) c0 j k (.inr (by rw [← HV8.out, ← HV9.out];exact hl))).symm
        · go_wp2_with fail
          go_quiet (first | (go_at_call 131;exact Calls.quiet_of_same (less_any _ _ _)))
          go_wp2_with fail
          refine ⟨⟨k+1,q+nq,rfl,by omega,by rw [HW9.out];exact rw_draw _ _ _ _ _,?_⟩,by simp only [intOf];omega⟩
          rw [← HSC.out]
          exact (scanUp_go (fun z=>ltInt z c0[x]!) c0 j k hk1 (by rw [← HV8.out, ← HV9.out];exact hl)).symm
      · have hk1' : ¬ (k:Int)≤(j:Int):=by omega
        go_wp2_with fail
        go_quiet (first | (go_at_call 131;exact Calls.quiet_of_same (less_any _ _ _)))
        go_wp2_with fail
        go_meet
        refine ⟨k,q+nq,rfl,by omega,by rw [HW9.out];exact rw_draw _ _ _ _ _,?_⟩
        rw [← HSC.out]
        exact (scanUp_end (fun z=>ltInt z c0[x]!) c0 j k (.inl hk1)).symm
  case rest =>
  obtain ⟨i1,n1,rfl,hi1,hw1,hsi⟩:=hcut
  have HI1:=Lib.hid hsi
  have HWa:=Lib.hid hw1
  clear hsi hw1
  go_upto_block 2 with fail
  go_cut [11,60] (fun sk _ wx=>∃ k q:Nat,sk=.int .i64 (k:Int)∧(k≤j∧i1≤k+1)∧wx=rw64 w q b c0∧k=scanDown (fun z => !ltInt z c0[x]!) c0 i1 j)
  case first =>
    go_upto_region 5 with fail
    go_loopw [11] (fun sk wx=>∃ k q:Nat,sk=.int .i64 (k:Int)∧(k≤j∧i1≤k+1)∧wx=rw64 w q b c0∧scanDown (fun z => !ltInt z c0[x]!) c0 i1 k=scanDown (fun z => !ltInt z c0[x]!) c0 i1 j) (fun sk _=>(intOf sk).toNat)
    case atStart=>exact ⟨j,n1,rfl,by omega,HWa.out,rfl⟩
    case round =>
      obtain ⟨k,q,rfl,hk,hw9,hsc⟩:=hrel
      have HW9:=Lib.hid hw9
      have HSC:=Lib.hid hsc
      clear hw9 hsc
      have bk:k<1152921504606846976:=by omega
      by_cases hk1:i1≤k
      · have hk1':(i1:Int)≤(k:Int):=by omega
        have c8:=rw_cell HR.out (q) (d:=c0) (by rw [hcs,hL]) (x) (by omega)
        have t8:=rw_thaw HR.out (q) c0 (x) (by omega)
        rw [← HW9.out] at c8 t8
        obtain ⟨v8,hv8⟩:∃ v,v=c0[x]! := ⟨_,rfl⟩
        rw [← hv8] at c8
        have HV8:=Lib.hid hv8
        clear hv8
        have c9:=rw_cell HR.out (q) (d:=c0) (by rw [hcs,hL]) (k) (by omega)
        have t9:=rw_thaw HR.out (q) c0 (k) (by omega)
        rw [← HW9.out] at c9 t9
        obtain ⟨v9,hv9⟩:∃ v,v=c0[k]! := ⟨_,rfl⟩
        rw [← hv9] at c9
        have HV9:=Lib.hid hv9
        clear hv9
        cases hl:ltInt v9 v8
        · go_wp2_with fail
          go_quiet (first | (go_at_call 131;exact Calls.quiet_of_same (less_any _ _ _)))
          go_wp2_with fail
          refine ⟨⟨k - 1,q+nq,by congr 1;omega,by omega,by rw [HW9.out];exact rw_draw _ _ _ _ _,?_⟩,by simp only [intOf];omega⟩
          rw [← HSC.out]
          exact (scanDown_go (fun z => !ltInt z c0[x]!) c0 i1 k hk1 (by omega) (by rw [← HV8.out, ← HV9.out];simp only [hl,Bool.not_false])).symm
        · go_wp2_with fail
          go_quiet (first | (go_at_call 131;exact Calls.quiet_of_same (less_any _ _ _)))
          go_wp2_with fail
          go_meet
          refine ⟨k,q+nq,rfl,by omega,by rw [HW9.out];exact rw_draw _ _ _ _ _,?_⟩
          rw [← HSC.out]
          exact (scanDown_end (fun z => !ltInt z c0[x]!) c0 i1 k (.inr (by rw [← HV8.out, ← HV9.out];simp only [hl,Bool.not_true]))).symm
      · have hk1' : ¬ (i1:Int)≤(k:Int):=by omega
        go_wp2_with fail
        go_quiet (first | (go_at_call 131;exact Calls.quiet_of_same (less_any _ _ _)))
        go_wp2_with fail
        go_meet
        refine ⟨k,q+nq,rfl,by omega,by rw [HW9.out];exact rw_draw _ _ _ _ _,?_⟩
        rw [← HSC.out]
        exact (scanDown_end (fun z => !ltInt z c0[x]!) c0 i1 k (.inl hk1)).symm
  case rest =>
  obtain ⟨j1,n2,rfl,hj1,hw2,hsj⟩:=hcut
  have HJ1:=Lib.hid hsj
  have HW2:=Lib.hid hw2
  clear hsj hw2
  have bi1:i1<1152921504606846976:=by omega
  have bj1:j1<1152921504606846976:=by omega
  by_cases hgt:j1<i1
  · have hgt':(j1:Int)<(i1:Int):=by omega
    have he:R=(j1,true,swp c0 j1 x):=HRR.out.trans (part_first_break ltInt d x y p HI.out HJ.out HC0.out HI1.out HJ1.out hgt)
    have HE:=Lib.hid he
    clear he
    go_upto_region 8 with fail
    go_cut [78] (fun _ wx=>∃ q,wx=rw64 w q b (swp c0 j1 x))
    case first =>
      have c8:=rw_cell HR.out (n2) (d:=c0) (by rw [hcs,hL]) (j1) (by omega)
      have t8:=rw_thaw HR.out (n2) c0 (j1) (by omega)
      rw [← HW2.out] at c8 t8
      obtain ⟨v8,hv8⟩:∃ v,v=c0[j1]! := ⟨_,rfl⟩
      rw [← hv8] at c8
      have HV8:=Lib.hid hv8
      clear hv8
      have c9:=rw_cell HR.out (n2) (d:=c0) (by rw [hcs,hL]) (x) (by omega)
      have t9:=rw_thaw HR.out (n2) c0 (x) (by omega)
      rw [← HW2.out] at c9 t9
      obtain ⟨v9,hv9⟩:∃ v,v=c0[x]! := ⟨_,rfl⟩
      rw [← hv9] at c9
      have HV9:=Lib.hid hv9
      clear hv9
      have hsw:=rw_swap w (n2) 1 b c0 (j1) (x) (by omega) (by omega)
      rw [← HV8.out, ← HV9.out, ← HW2.out] at hsw
      have HSW:=Lib.hid hsw
      clear hsw
      by_cases hsame:j1=x
      · have hv:v9=v8:=by rw [HV9.out,HV8.out,hsame]
        clear c9 t9
        subst hsame
        subst hv
        go_region
        all_goals go_wp2_with fail
        all_goals go_meet
        exact ⟨_,HSW.out⟩
      · go_region
        all_goals go_wp2_with fail
        all_goals go_meet
        exact ⟨_,HSW.out⟩
    case rest =>
    obtain ⟨m2,hm2⟩:=hcut
    have HW3:=Lib.hid hm2
    clear hm2
    go_wp2_with fail
    go_ret2
    rw [HE.out]
    exact ⟨rfl,m2,HW3.out⟩
  · have hgt' : ¬ (j1:Int)<(i1:Int):=by omega
    have hlt1:=part_scans_lt ltInt x i j c0 (by omega) HI1.out HJ1.out (by omega)
    have HGO:=Lib.hid (HRR.out.trans (part_first_go ltInt d x y p HI.out HJ.out HC0.out HI1.out HJ1.out (by omega)))
    go_upto_region 10 with fail
    go_cut [93] (fun _ wx=>∃ q,wx=rw64 w q b (swp c0 i1 j1))
    case first =>
      have c8:=rw_cell HR.out (n2) (d:=c0) (by rw [hcs,hL]) (i1) (by omega)
      have t8:=rw_thaw HR.out (n2) c0 (i1) (by omega)
      rw [← HW2.out] at c8 t8
      obtain ⟨v8,hv8⟩:∃ v,v=c0[i1]! := ⟨_,rfl⟩
      rw [← hv8] at c8
      have HV8:=Lib.hid hv8
      clear hv8
      have c9:=rw_cell HR.out (n2) (d:=c0) (by rw [hcs,hL]) (j1) (by omega)
      have t9:=rw_thaw HR.out (n2) c0 (j1) (by omega)
      rw [← HW2.out] at c9 t9
      obtain ⟨v9,hv9⟩:∃ v,v=c0[j1]! := ⟨_,rfl⟩
      rw [← hv9] at c9
      have HV9:=Lib.hid hv9
      clear hv9
      have hsw:=rw_swap w (n2) 1 b c0 (i1) (j1) (by omega) (by omega)
      rw [← HV8.out, ← HV9.out, ← HW2.out] at hsw
      have HSW:=Lib.hid hsw
      clear hsw
      by_cases hsame:i1=j1
      · omega
      · go_region
        all_goals go_wp2_with fail
        all_goals go_meet
        exact ⟨_,HSW.out⟩
    case rest =>
    obtain ⟨m2,hm2⟩:=hcut
    have HW3:=Lib.hid hm2
    clear hm2 HW2
    obtain ⟨c1,hc1⟩:∃ c1,c1=swp c0 i1 j1:=⟨_,rfl⟩
    have hcs1:c1.size=L:=by rw [hc1,size_swp];exact hcs
    rw [← hc1] at HW3 HGO
    clear hc1
    obtain ⟨i0,hi0⟩:∃ i0,i0=i1+1:=⟨_,rfl⟩
    obtain ⟨j0,hj0⟩:∃ j0,j0=j1 - 1:=⟨_,rfl⟩
    rw [← hi0, ← hj0] at HGO
    have e3:(j1:Int) - 1=(j0:Int):=by omega
    have e4:(i1:Int)+1=(i0:Int):=by omega
    have hb0:x<i0∧i0≤j0+1∧j0<y:=by omega
    clear hi0 hj0 hij
    go_upto_region 13 with fail
    go_loopw [10,11] (fun s10 s11 wr=>∃ (i j n:Nat) (c:Array Int),s10=.int .i64 (i:Int)∧s11=.int .i64 (j:Int)∧(x<i∧i≤j+1∧j<y)∧c.size=L∧wr=rw64 w n b c∧partLoop ltInt x i j c=partLoop ltInt x i0 j0 c1) (fun s10 s11 _=>(intOf s11+1 - intOf s10).toNat)
    case atStart=>exact ⟨i0,j0,m2,c1,rfl,rfl,hb0,hcs1,HW3.out,rfl⟩
    case round =>
      clear HW3 HW1 e3 e4 hi1 hj1 hlt1 HI1 HJ1 HWa HI HJ
      obtain ⟨i,j,n,c,rfl,rfl,hij,hc,hw,ho⟩:=hrel
      have HO:=Lib.hid ho
      have HW:=Lib.hid hw
      clear ho hw
      go_upto_block 6 with fail
      go_cut [10,112] (fun sk _ wx=>∃ k q:Nat,sk=.int .i64 (k:Int)∧(i≤k∧k≤j+1)∧wx=rw64 w q b c∧k=scanUp (fun z=>ltInt z c[x]!) c j i)
      case first =>
        go_upto_region 13 with fail
        go_loopw [10] (fun sk wx=>∃ k q:Nat,sk=.int .i64 (k:Int)∧(i≤k∧k≤j+1)∧wx=rw64 w q b c∧scanUp (fun z=>ltInt z c[x]!) c j k=scanUp (fun z=>ltInt z c[x]!) c j i) (fun sk _=>j+1 - (intOf sk).toNat)
        case atStart=>exact ⟨i,n,rfl,by omega,HW.out,rfl⟩
        case round =>
          obtain ⟨k,q,rfl,hk,hw9,hsc⟩:=hrel
          have HW9:=Lib.hid hw9
          have HSC:=Lib.hid hsc
          clear hw9 hsc
          have bk:k<1152921504606846976:=by omega
          by_cases hk1:k≤j
          · have hk1':(k:Int)≤(j:Int):=by omega
            have c8:=rw_cell HR.out (q) (d:=c) (by rw [hc,hL]) (x) (by omega)
            have t8:=rw_thaw HR.out (q) c (x) (by omega)
            rw [← HW9.out] at c8 t8
            obtain ⟨v8,hv8⟩:∃ v,v=c[x]! := ⟨_,rfl⟩
            rw [← hv8] at c8
            have HV8:=Lib.hid hv8
            clear hv8
            have c9:=rw_cell HR.out (q) (d:=c) (by rw [hc,hL]) (k) (by omega)
            have t9:=rw_thaw HR.out (q) c (k) (by omega)
            rw [← HW9.out] at c9 t9
            obtain ⟨v9,hv9⟩:∃ v,v=c[k]! := ⟨_,rfl⟩
            rw [← hv9] at c9
            have HV9:=Lib.hid hv9
            clear hv9
            cases hl:ltInt v9 v8
            · go_wp2_with fail
              go_quiet (first | (go_at_call 131;exact Calls.quiet_of_same (less_any _ _ _)))
              go_wp2_with fail
              go_meet
              refine ⟨k,q+nq,rfl,by omega,by rw [HW9.out];exact rw_draw _ _ _ _ _,?_⟩
              rw [← HSC.out]
              exact (scanUp_end (fun z=>ltInt z c[x]!) c j k (.inr (by rw [← HV8.out, ← HV9.out];exact hl))).symm
            · go_wp2_with fail
              go_quiet (first | (go_at_call 131;exact Calls.quiet_of_same (less_any _ _ _)))
              go_wp2_with fail
              refine ⟨⟨k+1,q+nq,rfl,by omega,by rw [HW9.out];exact rw_draw _ _ _ _ _,?_⟩,by simp only [intOf];omega⟩
              rw [← HSC.out]
              exact (scanUp_go (fun z=>ltInt z c[x]!) c j k hk1 (by rw [← HV8.out, ← HV9.out];exact hl)).symm
          · have hk1' : ¬ (k:Int)≤(j:Int):=by omega
            go_wp2_with fail
            go_quiet (first | (go_at_call 131;exact Calls.quiet_of_same (less_any _ _ _)))
            go_wp2_with fail
            go_meet
            refine ⟨k,q+nq,rfl,by omega,by rw [HW9.out];exact rw_draw _ _ _ _ _,?_⟩
            rw [← HSC.out]
            exact (scanUp_end (fun z=>ltInt z c[x]!) c j k (.inl hk1)).symm
      case rest =>
      obtain ⟨i2,n1,rfl,hi2,hw1,hsi⟩:=hcut
      have HI2:=Lib.hid hsi
      have HWa:=Lib.hid hw1
      clear hsi hw1
      go_upto_block 8 with fail
      go_cut [11,129] (fun sk _ wx=>∃ k q:Nat,sk=.int .i64 (k:Int)∧(k≤j∧i2≤k+1)∧wx=rw64 w q b c∧k=scanDown (fun z => !ltInt z c[x]!) c i2 j)
      case first =>
        go_upto_region 15 with fail
        go_loopw [11] (fun sk wx=>∃ k q:Nat,sk=.int .i64 (k:Int)∧(k≤j∧i2≤k+1)∧wx=rw64 w q b c∧scanDown (fun z => !ltInt z c[x]!) c i2 k=scanDown (fun z => !ltInt z c[x]!) c i2 j) (fun sk _=>(intOf sk).toNat)
        case atStart=>exact ⟨j,n1,rfl,by omega,HWa.out,rfl⟩
        case round =>
          obtain ⟨k,q,rfl,hk,hw9,hsc⟩:=hrel
          have HW9:=Lib.hid hw9
          have HSC:=Lib.hid hsc
          clear hw9 hsc
          have bk:k<1152921504606846976:=by omega
          by_cases hk1:i2≤k
          · have hk1':(i2:Int)≤(k:Int):=by omega
            have c8:=rw_cell HR.out (q) (d:=c) (by rw [hc,hL]) (x) (by omega)
            have t8:=rw_thaw HR.out (q) c (x) (by omega)
            rw [← HW9.out] at c8 t8
            obtain ⟨v8,hv8⟩:∃ v,v=c[x]! := ⟨_,rfl⟩
            rw [← hv8] at c8
            have HV8:=Lib.hid hv8
            clear hv8
            have c9:=rw_cell HR.out (q) (d:=c) (by rw [hc,hL]) (k) (by omega)
            have t9:=rw_thaw HR.out (q) c (k) (by omega)
            rw [← HW9.out] at c9 t9
            obtain ⟨v9,hv9⟩:∃ v,v=c[k]! := ⟨_,rfl⟩
            rw [← hv9] at c9
            have HV9:=Lib.hid hv9
            clear hv9
            cases hl:ltInt v9 v8
            · go_wp2_with fail
              go_quiet (first | (go_at_call 131;exact Calls.quiet_of_same (less_any _ _ _)))
              go_wp2_with fail
              refine ⟨⟨k - 1,q+nq,by congr 1;omega,by omega,by rw [HW9.out];exact rw_draw _ _ _ _ _,?_⟩,by simp only [intOf];omega⟩
              rw [← HSC.out]
              exact (scanDown_go (fun z => !ltInt z c[x]!) c i2 k hk1 (by omega) (by rw [← HV8.out, ← HV9.out];simp only [hl,Bool.not_false])).symm
            · go_wp2_with fail
              go_quiet (first | (go_at_call 131;exact Calls.quiet_of_same (less_any _ _ _)))
              go_wp2_with fail
              go_meet
              refine ⟨k,q+nq,rfl,by omega,by rw [HW9.out];exact rw_draw _ _ _ _ _,?_⟩
              rw [← HSC.out]
              exact (scanDown_end (fun z => !ltInt z c[x]!) c i2 k (.inr (by rw [← HV8.out, ← HV9.out];simp only [hl,Bool.not_true]))).symm
          · have hk1' : ¬ (i2:Int)≤(k:Int):=by omega
            go_wp2_with fail
            go_quiet (first | (go_at_call 131;exact Calls.quiet_of_same (less_any _ _ _)))
            go_wp2_with fail
            go_meet
            refine ⟨k,q+nq,rfl,by omega,by rw [HW9.out];exact rw_draw _ _ _ _ _,?_⟩
            rw [← HSC.out]
            exact (scanDown_end (fun z => !ltInt z c[x]!) c i2 k (.inl hk1)).symm
      case rest =>
      obtain ⟨j2,n2,rfl,hj2,hw2,hsj⟩:=hcut
      have HJ2:=Lib.hid hsj
      have HW2:=Lib.hid hw2
      clear hsj hw2
      have bi2:i2<1152921504606846976:=by omega
      have bj2:j2<1152921504606846976:=by omega
      by_cases hgt:j2<i2
      · have hgt':(j2:Int)<(i2:Int):=by omega
        have he:partLoop ltInt x i0 j0 c1=(j2,c):=HO.out.symm.trans (part_break ltInt x i j c HI2.out HJ2.out hgt)
        have HE:=Lib.hid (HGO.out.trans (by rw [he]:_=(j2,false,swp c j2 x)))
        clear he
        go_upto_region 21 with fail
        go_cut [165] (fun _ wx=>∃ q,wx=rw64 w q b (swp c j2 x))
        case first =>
          have c8:=rw_cell HR.out (n2) (d:=c) (by rw [hc,hL]) (j2) (by omega)
          have t8:=rw_thaw HR.out (n2) c (j2) (by omega)
          rw [← HW2.out] at c8 t8
          obtain ⟨v8,hv8⟩:∃ v,v=c[j2]! := ⟨_,rfl⟩
          rw [← hv8] at c8
          have HV8:=Lib.hid hv8
          clear hv8
          have c9:=rw_cell HR.out (n2) (d:=c) (by rw [hc,hL]) (x) (by omega)
          have t9:=rw_thaw HR.out (n2) c (x) (by omega)
          rw [← HW2.out] at c9 t9
          obtain ⟨v9,hv9⟩:∃ v,v=c[x]! := ⟨_,rfl⟩
          rw [← hv9] at c9
          have HV9:=Lib.hid hv9
          clear hv9
          have hsw:=rw_swap w (n2) 1 b c (j2) (x) (by omega) (by omega)
          rw [← HV8.out, ← HV9.out, ← HW2.out] at hsw
          have HSW:=Lib.hid hsw
          clear hsw
          by_cases hsame:j2=x
          · have hv:v9=v8:=by rw [HV9.out,HV8.out,hsame]
            clear c9 t9
            subst hsame
            subst hv
            go_region
            all_goals go_wp2_with fail
            all_goals go_meet
            exact ⟨_,HSW.out⟩
          · go_region
            all_goals go_wp2_with fail
            all_goals go_meet
            exact ⟨_,HSW.out⟩
        case rest =>
        obtain ⟨m3,hm3⟩:=hcut
        have HW3:=Lib.hid hm3
        clear hm3
        go_wp2_with fail
        go_ret2
        rw [HE.out]
        exact ⟨rfl,m3,HW3.out⟩
      · have hgt' : ¬ (j2:Int)<(i2:Int):=by omega
        have hlt:=part_scans_lt ltInt x i j c (by omega) HI2.out HJ2.out (by omega)
        have HG2:=Lib.hid ((part_go ltInt x i j c HI2.out HJ2.out (by omega)).symm.trans HO.out)
        go_upto_region 18 with fail
        go_cut [147] (fun _ wx=>∃ q,wx=rw64 w q b (swp c i2 j2))
        case first =>
          have c8:=rw_cell HR.out (n2) (d:=c) (by rw [hc,hL]) (i2) (by omega)
          have t8:=rw_thaw HR.out (n2) c (i2) (by omega)
          rw [← HW2.out] at c8 t8
          obtain ⟨v8,hv8⟩:∃ v,v=c[i2]! := ⟨_,rfl⟩
          rw [← hv8] at c8
          have HV8:=Lib.hid hv8
          clear hv8
          have c9:=rw_cell HR.out (n2) (d:=c) (by rw [hc,hL]) (j2) (by omega)
          have t9:=rw_thaw HR.out (n2) c (j2) (by omega)
          rw [← HW2.out] at c9 t9
          obtain ⟨v9,hv9⟩:∃ v,v=c[j2]! := ⟨_,rfl⟩
          rw [← hv9] at c9
          have HV9:=Lib.hid hv9
          clear hv9
          have hsw:=rw_swap w (n2) 1 b c (i2) (j2) (by omega) (by omega)
          rw [← HV8.out, ← HV9.out, ← HW2.out] at hsw
          have HSW:=Lib.hid hsw
          clear hsw
          by_cases hsame:i2=j2
          · omega
          · go_region
            all_goals go_wp2_with fail
            all_goals go_meet
            exact ⟨_,HSW.out⟩
        case rest =>
        obtain ⟨m3,hm3⟩:=hcut
        have HW3:=Lib.hid hm3
        clear hm3
        have hcs2:(swp c i2 j2).size=L:=by rw [size_swp];exact hc
        have HCS2:=Lib.hid hcs2
        clear hcs2
        have e3:(j2:Int) - 1=((j2 - 1:Nat):Int):=by omega
        go_wp2_with fail
        exact ⟨⟨i2+1,j2 - 1,m3,swp c i2 j2,rfl,by congr 1,by omega,HCS2.out,HW3.out,HG2.out⟩,by simp only [intOf];omega⟩
end Go.Proofs.YticjodhkmidljaaGreatDoor
