/- The sort of keys: the sort itself. Condition: the row lies there. -/
import Derived.Sort.Walk13a
import Derived.Sort.LotC
import Derived.Test.YticjodhkmidljaaGreatDoorZKeepNil24
import Derived.Sort.MapsRangeIn
import Derived.RangeFuncStops
import Derived.RangeFuncFrom
import Derived.RangeFuncKeeps
import Derived.Laws.EntriesVeiled
import Derived.Shelf.AbstractIn
import Derived.Test.YticjodhkmidljaaGreatDoorZKeepNil18
import Derived.OwnWalkIn
import Derived.RangeFuncNested
import Derived.Test.YticjodhkmidljaaGreatDoorZKeepNil2
namespace Go.Proofs.YticjodhkmidljaaGreatDoor
open Go.RowKit Go.Sort
/-- The world of w, but for its row, which is c, and for what was made since. -/
def SrtAt (w:World) (b:Nat) (c:Array Int) (wr:World):Prop:=RowKit.Below w.heap.size (rw64 w 0 b c) wr
theorem rw_hsize (w:World) (n b:Nat) (c:Array Int):(rw64 w n b c).heap.size=w.heap.size:=by
  show (mapBlock _ _ _).heap.size=_
  unfold mapBlock
  simp only [Array.size_modify]
  rfl
section
variable {w wr w1 : World} {b L cap x y : Nat} {c c' d0 : Array Int}
theorem SrtAt.refl (h:R64 w b c):SrtAt w b c w:=by
  unfold SrtAt
  rw [← rw_new h]
  exact RowKit.Below.refl _ _
theorem SrtAt.hsize (h:SrtAt w b c wr):w.heap.size≤wr.heap.size:=by
  have:=RowKit.Below.size h
  rwa [rw_hsize] at this
theorem SrtAt.row (h:SrtAt w b c wr) (h0:R64 w b d0) (hs:c.size=d0.size) (hb:b<w.heap.size):R64 wr b c:=(rw_holds h0 0 hs).below hb h
theorem SrtAt.step (h:SrtAt w b c wr) (hs:c'.size=c.size) (h1:∃ n,w1=rw64 wr n b c'):SrtAt w b c' w1:=by
  obtain ⟨n,rfl⟩:=h1
  exact rw_step h n hs
theorem SrtAt.stepG (h:SrtAt w b c wr) (hs:c'.size=c.size) (h1:RowKit.Below wr.heap.size (rw64 wr 0 b c') w1):SrtAt w b c' w1:=(h.step hs ⟨0,rfl⟩).trans (h1.mono h.hsize)
theorem SrtAt.same (h:SrtAt w b c wr) (h1:RowKit.Below wr.heap.size wr w1):SrtAt w b c w1:=RowKit.Below.trans h (h1.mono h.hsize)
theorem SrtAt.draw (h:SrtAt w b c wr) (q:Nat):SrtAt w b c (wr.drewN q):=RowKit.Below.trans h ⟨rfl,rfl,rfl,Nat.le_refl _,fun _ _=>rfl⟩
theorem swo64:SWO ltInt:=swo_ltInt
theorem pdq_plain:pdq_stmt ltInt:=pdq_holds insertionSort_holds heapSort_holds partialInsertionSort_holds (partition_holds _) (partitionEqual_holds _) reverseRange_holds
theorem s_ins (h:SrtAt w b c wr) (h0:R64 w b d0) (hs0:d0.size=L) (hs:c.size=L) (hb:b<w.heap.size) (hxy:x≤y) (hy:y≤L) (hz:L<1152921504606846976) :
    Calls Tryz.prog 125 #[.slice (some ⟨b,0,none⟩) L cap,.int .i64 (x:Int),.int .i64 (y:Int)] wr fun e w'=>e=.returned (.tuple #[])∧SrtAt w b (insertionSort ltInt c x y) w':=by
  have q:=ins64 b cap x y c wr (h.row h0 (hs.trans hs0.symm) hb) hxy (by omega) (by omega)
  rw [hs] at q
  refine q.mono ?_
  rintro e w' ⟨rfl,h1⟩
  exact ⟨rfl,h.step (insertionSort_holds swo64 c x y hxy (by omega)).1.1 h1⟩
theorem s_heap (h:SrtAt w b c wr) (h0:R64 w b d0) (hs0:d0.size=L) (hs:c.size=L) (hb:b<w.heap.size) (hxy:x<y) (hy:y≤L) (hz:L<1152921504606846976) :
    Calls Tryz.prog 126 #[.slice (some ⟨b,0,none⟩) L cap,.int .i64 (x:Int),.int .i64 (y:Int)] wr fun e w'=>e=.returned (.tuple #[])∧SrtAt w b (heapSort ltInt c x y) w':=by
  have q:=heap64 b cap x y c wr (h.row h0 (hs.trans hs0.symm) hb) hxy (by omega) (by omega)
  rw [hs] at q
  refine q.mono ?_
  rintro e w' ⟨rfl,h1⟩
  exact ⟨rfl,h.step (heapSort_holds swo64 c x y (by omega) (by omega)).1.1 h1⟩
theorem s_brk (h:SrtAt w b c wr) (h0:R64 w b d0) (hs0:d0.size=L) (hs:c.size=L) (hb:b<w.heap.size) (hxy:x+12<y) (hy:y≤L) (hz:L<1152921504606846976) :
    Calls Tryz.prog 127 #[.slice (some ⟨b,0,none⟩) L cap,.int .i64 (x:Int),.int .i64 (y:Int)] wr fun e w'=>e=.returned (.tuple #[])∧SrtAt w b (breakPatterns c x y) w':=by
  refine (brk64 b cap L x y c wr hs (h.row h0 (hs.trans hs0.symm) hb) (Nat.lt_of_lt_of_le hb h.hsize) hxy hy hz).mono ?_
  rintro e w' ⟨rfl,h1⟩
  exact ⟨rfl,h.stepG (breakPatterns_holds c x y (by omega) (by omega)).1 h1⟩
theorem s_piv (h:SrtAt w b c wr) (h0:R64 w b d0) (hs0:d0.size=L) (hs:c.size=L) (hb:b<w.heap.size) (hxy:x+12<y) (hy:y≤L) (hz:L<1152921504606846976) :
    Calls Tryz.prog 128 #[.slice (some ⟨b,0,none⟩) L cap,.int .i64 (x:Int),.int .i64 (y:Int)] wr fun e w'=>e=.returned (.tuple #[.int .i64 ((choosePivot ltInt c x y).1:Int),.int .i64 (hintCode (choosePivot ltInt c x y).2)])∧SrtAt w b c w':=by
  refine (piv64 b cap L x y c wr hs (h.row h0 (hs.trans hs0.symm) hb) (Nat.lt_of_lt_of_le hb h.hsize) hxy hy hz).mono ?_
  rintro e w' ⟨rfl,h1⟩
  exact ⟨rfl,h.same h1⟩
theorem s_rev (h:SrtAt w b c wr) (h0:R64 w b d0) (hs0:d0.size=L) (hs:c.size=L) (hb:b<w.heap.size) (hxy:x<y) (hy:y≤L) (hz:L<1152921504606846976) :
    Calls Tryz.prog 129 #[.slice (some ⟨b,0,none⟩) L cap,.int .i64 (x:Int),.int .i64 (y:Int)] wr fun e w'=>e=.returned (.tuple #[])∧SrtAt w b (reverseRange c x y) w':=by
  have q:=rev64 b cap x y c wr (h.row h0 (hs.trans hs0.symm) hb) hxy (by omega) (by omega)
  rw [hs] at q
  refine q.mono ?_
  rintro e w' ⟨rfl,h1⟩
  exact ⟨rfl,h.step (reverseRange_holds c x y (by omega) (by omega)).1 h1⟩
theorem s_part (h:SrtAt w b c wr) (h0:R64 w b d0) (hs0:d0.size=L) (hs:c.size=L) (hb:b<w.heap.size) (hxy:x+12<y) (hy:y≤L) (hz:L<1152921504606846976) (hB:Go.Sort.Below ltInt x y c) :
    Calls Tryz.prog 130 #[.slice (some ⟨b,0,none⟩) L cap,.int .i64 (x:Int),.int .i64 (y:Int)] wr fun e w'=>e=.returned (.bool (partialInsertionSort ltInt c x y).2)∧SrtAt w b (partialInsertionSort ltInt c x y).1 w':=by
  refine (part64 b cap L x y c wr hs (h.row h0 (hs.trans hs0.symm) hb) hxy hy hz).mono ?_
  rintro e w' ⟨rfl,h1⟩
  exact ⟨rfl,h.step (partialInsertionSort_holds swo64 c x y (by omega) (by omega) hB).1.1 h1⟩
theorem s_peq {p:Nat} (h:SrtAt w b c wr) (h0:R64 w b d0) (hs0:d0.size=L) (hs:c.size=L) (hb:b<w.heap.size) (hxp:x≤p) (hpy:p<y) (hxy:x+12<y) (hy:y≤L) (hz:L<1152921504606846976) (hge:(partitionEqual ltInt c x y p).2.size=c.size) :
    Calls Tryz.prog 132 #[.slice (some ⟨b,0,none⟩) L cap,.int .i64 (x:Int),.int .i64 (y:Int),.int .i64 (p:Int)] wr fun e w'=>e=.returned (.int .i64 ((partitionEqual ltInt c x y p).1:Int))∧SrtAt w b (partitionEqual ltInt c x y p).2 w':=by
  refine (peq64 b cap L x y p c wr hs (h.row h0 (hs.trans hs0.symm) hb) hxp hpy (by omega) hy hz).mono ?_
  rintro e w' ⟨rfl,h1⟩
  exact ⟨rfl,h.step hge h1⟩
theorem s_prt {p:Nat} (h:SrtAt w b c wr) (h0:R64 w b d0) (hs0:d0.size=L) (hs:c.size=L) (hb:b<w.heap.size) (hxp:x≤p) (hpy:p<y) (hxy:x+12<y) (hy:y≤L) (hz:L<1152921504606846976) :
    Calls Tryz.prog 133 #[.slice (some ⟨b,0,none⟩) L cap,.int .i64 (x:Int),.int .i64 (y:Int),.int .i64 (p:Int)] wr fun e w'=>e=.returned (.tuple #[.int .i64 ((partition ltInt c x y p).1:Int),.bool (partition ltInt c x y p).2.1])∧SrtAt w b (partition ltInt c x y p).2.2 w':=by
  refine (prt64 b cap L x y p c wr hs (h.row h0 (hs.trans hs0.symm) hb) hxp hpy (by omega) hy hz).mono ?_
  rintro e w' ⟨rfl,h1⟩
  exact ⟨rfl,h.step (partition_holds _ swo64 c x y p hxp hpy (by omega)).2.2.1.1 h1⟩
end
set_option maxRecDepth 100000 in
set_option maxHeartbeats 16000000 in
theorem pdq64:∀ (N b cap L x y lim:Nat) (d:Array Int) (w:World),y - x<N→d.size=L→R64 w b d→b<w.heap.size→x≤y→y≤L→L<1152921504606846976→lim<1152921504606846976→Go.Sort.Below ltInt x y d →
    Calls Tryz.prog 100 #[.slice (some ⟨b,0,none⟩) L cap,.int .i64 (x:Int),.int .i64 (y:Int),.int .i64 (lim:Int)] w fun e w'=>e=.returned (.tuple #[])∧SrtAt w b (pdq ltInt d x y lim true true) w':=by
  intro N
  induction N with
  | zero=>intro _ _ _ _ _ _ _ _ h;exact absurd h (Nat.not_lt_zero _)
  | succ N ih =>
    intro b cap L x y lim d w hN hL hR hb hxy hy hz hlim hB0
    have HIH:=Lib.hid ih
    have HR:=Lib.hid hR
    have HZ:=Lib.hid hz
    obtain ⟨goal,hgoal⟩:∃ g,g=pdq ltInt d x y lim true true:=⟨_,rfl⟩
    rw [← hgoal]
    have HGL:=Lib.hid hgoal
    have HB0:=Lib.hid hB0
    clear hgoal ih hR hz hB0
    go_enter Tryz.func100,Tryz.ntmps100
    go_upto_region 2 with fail
    go_loopw [1,2,3,8,9] (fun s1 s2 s3 s8 s9 wr=>∃ (x' y' li:Nat) (wb wp:Bool) (c:Array Int),s1=.int .i64 (x':Int)∧s2=.int .i64 (y':Int)∧s3=.int .i64 (li:Int)∧s8=.bool wb∧s9=.bool wp∧(x'≤y'∧y'≤L∧y' - x'≤y - x∧li≤lim)∧c.size=L∧Hid (Go.Sort.Below ltInt x' y' c)∧SrtAt w b c wr∧pdq ltInt c x' y' li wb wp=goal) (fun s1 s2 _ _ _ _=>(intOf s2 - intOf s1).toNat)
    case atStart=>exact ⟨x,y,lim,true,true,d,rfl,rfl,rfl,rfl,rfl,by omega,hL,HB0.out,SrtAt.refl HR.out,HGL.out.symm⟩
    case round =>
      obtain ⟨x',y',li,wb,wp,c,rfl,rfl,rfl,rfl,rfl,hr,hc,HB,hA,ho⟩:=hrel
      have HO:=Lib.hid ho
      have HA:=Lib.hid hA
      clear ho hA
      have b1:x'<1152921504606846976:=by have:=HZ.out;omega
      have b2:y'<1152921504606846976:=by have:=HZ.out;omega
      have b3:li<1152921504606846976:=by omega
      by_cases h12:y' - x'≤12
      · have h12z:(y':Int) - (x':Int)≤12:=by omega
        have HC:=Lib.hid (s_ins (cap:=cap) HA.out HR.out hL hc hb hr.1 hr.2.1 HZ.out)
        go_wp2_with ((with_reducible refine HC.out.mono ?_);rintro e w1 ⟨rfl,hw1⟩)
        refine bodyPost_ret (results_none rfl _ _ _) rfl ?_
        refine ⟨rfl,?_⟩
        rw [← HO.out,pdq_small h12]
        exact hw1
      · have h12z : ¬ (y':Int) - (x':Int)≤12:=by omega
        have h12w:12+(x':Int)<(y':Int):=by omega
        by_cases hl0:li=0
        · subst hl0
          have HC:=Lib.hid (s_heap (cap:=cap) HA.out HR.out hL hc hb (show x'<y' by omega) hr.2.1 HZ.out)
          go_wp2_with ((with_reducible refine HC.out.mono ?_);rintro e w1 ⟨rfl,hw1⟩)
          refine bodyPost_ret (results_none rfl _ _ _) rfl ?_
          refine ⟨rfl,?_⟩
          rw [← HO.out,pdq_heap h12 rfl]
          exact hw1
        · have hl0z:((li:Int) == 0)=false:=by simp;omega
          have hf:=rd_facts (limit:=li) (wb:=wb) (wp:=wp) swo64 partialInsertionSort_holds reverseRange_holds (show x'<y' by omega) (show y'≤c.size by omega) HB
          have hf1:wb=false→(rd ltInt c x' y' li wb wp).d1=breakPatterns c x' y'∧(rd ltInt c x' y' li wb wp).lim=li - 1:=fun h=>by subst h;exact rd_false
          have hf2:wb=true→(rd ltInt c x' y' li wb wp).d1=c∧(rd ltInt c x' y' li wb wp).lim=li:=fun h=>by subst h;exact rd_true
          have hf3:(rd ltInt c x' y' li wb wp).c=choosePivot ltInt (rd ltInt c x' y' li wb wp).d1 x' y':=rd_c
          have hf4:=@rd_dec _ _ ltInt c x' y' li wb wp
          have hf5:=@rd_not _ _ ltInt c x' y' li wb wp
          have hf6:=@rd_pi_yes _ _ ltInt c x' y' li wb wp
          have hf7:=@rd_pi_no _ _ ltInt c x' y' li wb wp
          have hf8:=@pdq_done _ _ ltInt c x' y' li wb wp h12 hl0
          have hf9:=@pdq_eq _ _ ltInt c x' y' li wb wp h12 hl0
          have hfa:=@pdq_left _ _ ltInt c x' y' li wb wp h12 hl0
          have hfb:=@pdq_right _ _ ltInt c x' y' li wb wp h12 hl0
          have hfc:(rd ltInt c x' y' li wb wp).lim≤li:=rd_lim_le
          rw [HO.out] at hf8 hf9 hfa hfb
          generalize rd ltInt c x' y' li wb wp=R at hf hf1 hf2 hf3 hf4 hf5 hf6 hf7 hf8 hf9 hfa hfb hfc
          obtain ⟨d1,lm,cv,d2,pv,hint,pi⟩:=R
          obtain ⟨p1,p2⟩:=pi
          simp only at hf hf1 hf2 hf3 hf4 hf5 hf6 hf7 hf8 hf9 hfa hfb hfc
          obtain ⟨fs1,fB1,fc1,fs2,fB2,fpv,fs3,fB3⟩:=hf
          rw [hc] at fs1 fs2 fs3
          have F1:=Lib.hid hf1
          have F2:=Lib.hid hf2
          have F3:=Lib.hid hf3
          have F4:=Lib.hid hf4
          have F5:=Lib.hid hf5
          have F6:=Lib.hid hf6
          have F7:=Lib.hid hf7
          have F8:=Lib.hid hf8
          have F9:=Lib.hid hf9
          have FA:=Lib.hid hfa
          have FB:=Lib.hid hfb
          have FS:=Lib.hid (And.intro fs1 (And.intro fs2 fs3))
          have FBB:=Lib.hid (And.intro fB1 (And.intro fB2 fB3))
          have FH12:=Lib.hid h12
          clear hf1 hf2 hf3 hf4 hf5 hf6 hf7 hf8 hf9 hfa hfb fs1 fs2 fs3 fB1 fB2 fB3 HO h12
          have bl:lm<1152921504606846976:=by omega
          go_upto_if 35 with fail
          go_cut [3] (fun s3 wx=>s3=.int .i64 (lm:Int)∧SrtAt w b d1 wx)
          case first =>
            cases wb
            · have HC:=Lib.hid (s_brk (cap:=cap) HA.out HR.out hL hc hb (show x'+12<y' by have:=FH12.out;omega) hr.2.1 HZ.out)
              have G1:=Lib.hid (F1.out rfl)
              have hlm:=G1.out.2
              have hli:(li:Int) - 1=(lm:Int):=by omega
              clear hlm
              go_wp2_with ((with_reducible refine HC.out.mono ?_);rintro e w1 ⟨rfl,hw1⟩;have HW1:=Lib.hid hw1;clear hw1)
              go_meet
              exact ⟨rfl,by rw [G1.out.1];exact HW1.out⟩
            · have G1:=Lib.hid (F2.out rfl)
              go_wp2_with fail
              go_meet
              exact ⟨by rw [G1.out.2],by rw [G1.out.1];exact HA.out⟩
          case rest =>
          obtain ⟨rfl,hA1⟩:=hcut
          clear HA hl0z hl0
          have HA:=Lib.hid hA1
          clear hA1
          have hp:=s_piv (cap:=cap) HA.out HR.out hL FS.out.1 hb (show x'+12<y' by have:=FH12.out;omega) hr.2.1 HZ.out
          rw [← F3.out] at hp
          obtain ⟨c1,c2⟩:=cv
          simp only at hp fc1
          obtain ⟨hv,hhv⟩:∃ v,v=hintCode c2:=⟨_,rfl⟩
          rw [← hhv] at hp
          have HHV:=Lib.hid hhv
          have HP:=Lib.hid hp
          clear hp hhv
          go_upto_if 50 with ((with_reducible refine HP.out.mono ?_);rintro e w2 ⟨rfl,hw2⟩;have HA2:=Lib.hid hw2;clear hw2)
          clear HA HP
          go_cut [11,12] (fun s11 s12 wx=>s11=.int .i64 (pv:Int)∧s12=.int .i64 (hintCode hint)∧SrtAt w b d2 wx)
          case first =>
            by_cases hh:c2=.decreasing
            · have G1:=Lib.hid (F4.out hh)
              have hv2:hv=2:=by rw [HHV.out,hh];rfl
              subst hv2
              have HC:=Lib.hid (s_rev (cap:=cap) HA2.out HR.out hL FS.out.1 hb (show x'<y' by have:=FH12.out;omega) hr.2.1 HZ.out)
              have ev:(y':Int) - 1 - ((c1:Int) - (x':Int))=(pv:Int):=by have:=G1.out.2.1;have:=FH12.out;omega
              go_wp2_with ((with_reducible refine HC.out.mono ?_);rintro e w3 ⟨rfl,hw3⟩;have HW1:=Lib.hid hw3;clear hw3)
              go_meet
              refine ⟨?_,by rw [G1.out.2.2];rfl,by rw [G1.out.1];exact HW1.out⟩
              first | rfl | (rw [← ev])
            · have G1:=Lib.hid (F5.out hh)
              have hv2:(hv == 2)=false:=by
                rw [HHV.out]
                cases c2 with
                | unknown=>rfl
                | increasing=>rfl
                | decreasing=>exact absurd rfl hh
              go_wp2_with fail
              go_meet
              exact ⟨by rw [G1.out.2.1],by rw [G1.out.2.2,HHV.out],by rw [G1.out.1];exact HA2.out⟩
          case rest =>
          obtain ⟨rfl,rfl,hA3⟩:=hcut
          clear HA2 HHV
          have HA:=Lib.hid hA3
          clear hA3
          obtain ⟨B,hB⟩:∃ B:Bool,B=(wb && wp && decide (hint=Hint.increasing)):=⟨_,rfl⟩
          have HB2:=Lib.hid hB
          clear hB
          go_upto_region 15 with fail
          go_cut [12,68] (fun s12 s68 wx=>s12=.int .i64 (hintCode hint)∧s68=.bool B∧wx=wc)
          case first =>
            cases wb <;> cases wp <;> cases hint
            all_goals (go_wp2_with fail;try go_region;all_goals go_wp2_with fail)
            all_goals go_meet
            all_goals exact ⟨rfl,by rw [HB2.out];rfl,rfl⟩
          case rest =>
          obtain ⟨rfl,rfl,rfl⟩:=hcut
          clear F1 F2 F3 F4 F5 HB
          go_upto_if 68 with fail
          go_cut [68] (fun _ wx=>SrtAt w b p1 wx∧p2=false)
          case first =>
            cases B
            · have G1:=Lib.hid (F7.out HB2.out.symm)
              go_wp2_with fail
              go_meet
              have e1:p1=d2:=congrArg Prod.fst G1.out
              have e2:p2=false:=congrArg Prod.snd G1.out
              rw [e1]
              exact ⟨HA.out,e2⟩
            · have G1:=F6.out HB2.out.symm
              have hp:=s_part (cap:=cap) HA.out HR.out hL FS.out.2.1 hb (show x'+12<y' by have:=FH12.out;omega) hr.2.1 HZ.out FBB.out.2.1
              rw [← G1] at hp
              simp only at hp
              have HP:=Lib.hid hp
              clear hp G1
              cases p2
              · go_wp2_with ((with_reducible refine HP.out.mono ?_);rintro e w3 ⟨rfl,hw3⟩;have HW1:=Lib.hid hw3;clear hw3)
                go_meet
                exact ⟨HW1.out,by first | rfl | trivial⟩
              · have G8:=Lib.hid (F8.out rfl)
                go_wp2_with ((with_reducible refine HP.out.mono ?_);rintro e w3 ⟨rfl,hw3⟩;have HW1:=Lib.hid hw3;clear hw3)
                refine bodyPost_ret (results_none rfl _ _ _) rfl ?_
                exact ⟨rfl,by rw [G8.out];exact HW1.out⟩
          case rest =>
          obtain ⟨hA4,hp2⟩:=hcut
          subst hp2
          clear HA HB2 F6 F7 F8
          have HA:=Lib.hid hA4
          clear hA4
          have hrow:=HA.out.row HR.out (by have:=FS.out.2.2;omega) hb
          obtain ⟨T,hT⟩:∃ T:Bool,T=(decide (x' > 0) && !ltInt p1[x' - 1]! p1[pv]!):=⟨_,rfl⟩
          have hf9:=F9.out rfl
          have hfa:=FA.out rfl
          have hfb:=FB.out rfl
          rw [← hT] at hf9 hfa hfb
          have F9':=Lib.hid hf9
          have FA':=Lib.hid hfa
          have FB':=Lib.hid hfb
          have HT:=Lib.hid hT
          have HROW:=Lib.hid hrow
          clear hf9 hfa hfb hT hrow F9 FA FB
          have hFS:=FS.out.2.2
          go_upto_region 17 with fail
          go_cut [87] (fun s87 wx=>s87=.bool T∧SrtAt w b p1 wx)
          case first =>
            by_cases hx0:0<x'
            · have hx0':(0:Int)<(x':Int):=by omega
              have c8:wc.cell? ⟨b,x' - 1,none⟩=some (.int .u64 p1[x' - 1]!):=by have q:=(HROW.out (x' - 1) (by omega)).1;rwa [Nat.zero_add] at q
              have c9:wc.cell? ⟨b,pv,none⟩=some (.int .u64 p1[pv]!):=by have q:=(HROW.out pv (by omega)).1;rwa [Nat.zero_add] at q
              obtain ⟨v8,hv8⟩:∃ v,v=p1[x' - 1]! := ⟨_,rfl⟩
              obtain ⟨v9,hv9⟩:∃ v,v=p1[pv]! := ⟨_,rfl⟩
              have HTT:=Lib.hid (show T = !ltInt v8 v9 by rw [HT.out,hv8,hv9];simp [hx0])
              rw [← hv8] at c8
              rw [← hv9] at c9
              clear hv8 hv9
              cases hl:ltInt v8 v9
              all_goals
                go_wp2_with fail
                go_quiet (first | (go_at_call 131;exact Calls.quiet_of_same (less_any _ _ _)))
                go_wp2_with fail
                go_meet
                exact ⟨by rw [HTT.out,hl];rfl,HA.out.draw _⟩
            · have hx0' : ¬ (0:Int)<(x':Int):=by omega
              have hxz:x'=0:=by omega
              have HTT:=Lib.hid (show T=false by rw [HT.out,hxz];rfl)
              clear hxz
              go_wp2_with fail
              go_quiet (first | (go_at_call 131;exact Calls.quiet_of_same (less_any _ _ _)))
              go_wp2_with fail
              go_meet
              exact ⟨by rw [HTT.out],HA.out.draw _⟩
          case rest =>
          obtain ⟨rfl,hA5⟩:=hcut
          clear HA HROW
          have HA:=Lib.hid hA5
          clear hA5
          cases T
          · obtain ⟨E,hE⟩:∃ E,E=partition ltInt p1 x' y' pv:=⟨_,rfl⟩
            have hcall:=s_prt (cap:=cap) HA.out HR.out hL FS.out.2.2 hb fpv.1 fpv.2 (show x'+12<y' by have:=FH12.out;omega) hr.2.1 HZ.out
            rw [← hE] at hcall
            obtain ⟨mid,ap,d4⟩:=E
            obtain ⟨hr1,hr2,hr3,hr4,hr5,hr6,hr7⟩:=round_part swo64 (partition_holds _) fpv.1 fpv.2 (by omega:y'≤p1.size) FBB.out.2.2 hE.symm
            simp only at hcall
            have HC:=Lib.hid hcall
            clear hcall
            obtain ⟨t8,ht8⟩:∃ t:Nat,t=(y' - x') / 8:=⟨_,rfl⟩
            have he8:((y':Int) - (x':Int)).tdiv 8=(t8:Int):=by rw [Int.tdiv_eq_ediv_of_nonneg (by omega)];omega
            have bm:mid<1152921504606846976:=by omega
            have b8:t8<1152921504606846976:=by omega
            by_cases hlr:mid - x'<y' - mid
            · have hlr':(mid:Int) - (x':Int)<(y':Int) - (mid:Int):=by omega
              have hb8:decide ((t8:Int)≤(mid:Int) - (x':Int))=decide (mid - x' ≥ (y' - x') / 8):=decide_eq_decide.2 ⟨fun h=>by omega,fun h=>by omega⟩
              have hpp:=pdq_plain swo64 d4 (x') (mid) lm true true (by omega) (by omega) hr4
              have hnx:=(hr6 _ hpp.1 hpp.2).1
              have hg:=FA'.out rfl
              rw [← hE] at hg
              have hg2:=hg ⟨hr1,hr2⟩ hlr
              have hsz:(pdq ltInt d4 (x') (mid) lm true true).size=d4.size:=hpp.1.1
              obtain ⟨Q,hQ⟩:∃ Q,Q=pdq ltInt d4 (x') (mid) lm true true:=⟨_,rfl⟩
              simp only at hg2
              rw [← hQ] at hnx hg2 hsz
              rw [← hb8] at hg2
              have HG2:=Lib.hid hg2
              have HNX:=Lib.hid hnx
              have HQ:=Lib.hid hQ
              have HSZ:=Lib.hid (And.intro hsz hr3)
              have HH:=Lib.hid (fun (w1:World) (h1:SrtAt w b d4 w1)=>HIH.out b cap L (x') (mid) lm d4 w1 (by omega) (by omega) (h1.row HR.out (by omega) hb) (Nat.lt_of_lt_of_le hb h1.hsize) (by omega) (by omega) HZ.out bl hr4)
              have E8:=Lib.hid he8
              have HR12:=Lib.hid (And.intro hr1 hr2)
              clear hg hg2 hnx hQ hpp hsz hr3 hr4 hr5 hr6 hr7 hE hb8 ht8
              have hH:∀ w1:World,SrtAt w b d4 w1→Calls Tryz.prog 100 #[.slice (some ⟨b,0,none⟩) L cap,.int .i64 (x':Int),.int .i64 (mid:Int),.int .i64 (lm:Int)] w1 fun e w'=>e=.returned (.tuple #[])∧SrtAt w1 b Q w':=by
                intro w1 h1
                have q:=HH.out w1 h1
                rw [← HQ.out] at q
                exact q
              have HH2:=Lib.hid hH
              clear hH HH
              go_wp2_with (first | ((with_reducible refine HC.out.mono ?_);rintro e w3 ⟨rfl,hw3⟩;have HW1:=Lib.hid hw3;clear hw3) | ((with_reducible refine (HH2.out _ HW1.out).mono ?_);rintro e w4 ⟨rfl,hw4⟩;have HW2:=Lib.hid hw4;clear hw4))
              exact ⟨⟨mid+1,y',lm,decide ((t8:Int)≤(mid:Int) - (x':Int)),ap,Q,rfl,rfl,rfl,rfl,rfl,by have:=HR12.out;omega,by have:=HSZ.out;omega,HNX.out,HW1.out.stepG HSZ.out.1 HW2.out,HG2.out.symm⟩,by have:=HR12.out;simp only [intOf];omega⟩
            · have hlr' : ¬ (mid:Int) - (x':Int)<(y':Int) - (mid:Int):=by omega
              have hb8:decide ((t8:Int)≤(y':Int) - (mid:Int))=decide (y' - mid ≥ (y' - x') / 8):=decide_eq_decide.2 ⟨fun h=>by omega,fun h=>by omega⟩
              have hpp:=pdq_plain swo64 d4 (mid+1) (y') lm true true (by omega) (by omega) hr5
              have hnx:=(hr7 _ hpp.1 hpp.2).1
              have hg:=FB'.out rfl
              rw [← hE] at hg
              have hg2:=hg ⟨hr1,hr2⟩ hlr
              have hsz:(pdq ltInt d4 (mid+1) (y') lm true true).size=d4.size:=hpp.1.1
              obtain ⟨Q,hQ⟩:∃ Q,Q=pdq ltInt d4 (mid+1) (y') lm true true:=⟨_,rfl⟩
              simp only at hg2
              rw [← hQ] at hnx hg2 hsz
              rw [← hb8] at hg2
              have HG2:=Lib.hid hg2
              have HNX:=Lib.hid hnx
              have HQ:=Lib.hid hQ
              have HSZ:=Lib.hid (And.intro hsz hr3)
              have HH:=Lib.hid (fun (w1:World) (h1:SrtAt w b d4 w1)=>HIH.out b cap L (mid+1) (y') lm d4 w1 (by omega) (by omega) (h1.row HR.out (by omega) hb) (Nat.lt_of_lt_of_le hb h1.hsize) (by omega) (by omega) HZ.out bl hr5)
              have E8:=Lib.hid he8
              have HR12:=Lib.hid (And.intro hr1 hr2)
              clear hg hg2 hnx hQ hpp hsz hr3 hr4 hr5 hr6 hr7 hE hb8 ht8
              have hH:∀ w1:World,SrtAt w b d4 w1→Calls Tryz.prog 100 #[.slice (some ⟨b,0,none⟩) L cap,.int .i64 ((mid:Int)+1),.int .i64 (y':Int),.int .i64 (lm:Int)] w1 fun e w'=>e=.returned (.tuple #[])∧SrtAt w1 b Q w':=by
                intro w1 h1
                have q:=HH.out w1 h1
                rw [← HQ.out] at q
                exact q
              have HH2:=Lib.hid hH
              clear hH HH
              go_wp2_with (first | ((with_reducible refine HC.out.mono ?_);rintro e w3 ⟨rfl,hw3⟩;have HW1:=Lib.hid hw3;clear hw3) | ((with_reducible refine (HH2.out _ HW1.out).mono ?_);rintro e w4 ⟨rfl,hw4⟩;have HW2:=Lib.hid hw4;clear hw4))
              exact ⟨⟨x',mid,lm,decide ((t8:Int)≤(y':Int) - (mid:Int)),ap,Q,rfl,rfl,rfl,rfl,rfl,by have:=HR12.out;omega,by have:=HSZ.out;omega,HNX.out,HW1.out.stepG HSZ.out.1 HW2.out,HG2.out.symm⟩,by have:=HR12.out;simp only [intOf];omega⟩
          · have hx0:0<x'∧ltInt p1[x' - 1]! p1[pv]! = false:=by simpa using HT.out.symm
            obtain ⟨E,hE⟩:∃ E,E=partitionEqual ltInt p1 x' y' pv:=⟨_,rfl⟩
            obtain ⟨mid,d4⟩:=E
            obtain ⟨hr1,hr2,hr3,hr4,_⟩:=round_eq swo64 (partitionEqual_holds _) hx0.1 fpv.1 fpv.2 (by omega:y'≤p1.size) FBB.out.2.2 hx0.2 hE.symm
            have hcall:=s_peq (cap:=cap) HA.out HR.out hL FS.out.2.2 hb fpv.1 fpv.2 (show x'+12<y' by have:=FH12.out;omega) hr.2.1 HZ.out (by rw [← hE];exact hr3)
            have hg:=F9'.out rfl
            rw [← hE] at hcall hg
            have HG2:=Lib.hid (hg ⟨hr1,hr2⟩)
            simp only at hcall
            have HC:=Lib.hid hcall
            have HB4:=Lib.hid hr4
            have HSZ:=Lib.hid hr3
            clear hcall hg hx0 hE hr3 hr4
            go_wp2_with ((with_reducible refine HC.out.mono ?_);rintro e w3 ⟨rfl,hw3⟩;have HW1:=Lib.hid hw3;clear hw3)
            exact ⟨⟨mid,y',lm,wb,wp,d4,rfl,rfl,rfl,rfl,rfl,by omega,by have:=HSZ.out;omega,HB4.out,HW1.out,HG2.out.symm⟩,by simp only [intOf];omega⟩
/-- What slices.Sort makes of keys. -/
theorem sort_plain (l:List Int):((Go.Sort.sort ltInt l.toArray).toList=l.mergeSort (fun x y=>decide (x≤y))):=sortInt_holds (sort_holds pdq_plain) l
theorem sorted64 (b cap L:Nat) (d:Array Int) (w:World) (hL:d.size=L) (hR:R64 w b d) (hb:b<w.heap.size) (hz:L<1152921504606846976) :
    Calls Tryz.prog 72 #[.slice (some ⟨b,0,none⟩) L cap] w fun e w'=>e=.returned (.tuple #[])∧SrtAt w b (Go.Sort.sort ltInt d) w':=by
  have hl62:bitsLen L≤62:=(bitsLen_le_iff L 62).2 (by omega)
  have H:=pdq64 (L+1) b cap L 0 L (bitsLen L) d w (by omega) hL hR hb (by omega) (Nat.le_refl _) hz (by omega) (Or.inl rfl)
  rw [show Go.Sort.sort ltInt d=pdq ltInt d 0 L (bitsLen L) true true by rw [Go.Sort.sort,hL]]
  rw [show ((0:Nat):Int)=0 from rfl] at H
  have HH:=Lib.hid H
  have HB:=Lib.hid (blen2_any L (by omega) w)
  have n0:IntKind.u64.wrap (L:Int)=(L:Int):=by rw [IntKind.wrap_u64];omega
  generalize pdq ltInt d 0 L (bitsLen L) true true=R at *
  generalize bitsLen L=k at *
  clear H hR
  go_enter Tryz.func72,Tryz.ntmps72
  go_wp2_with (first | ((with_reducible refine HB.out.mono ?_);rintro e w3 ⟨rfl,rfl⟩) | ((with_reducible refine HH.out.mono ?_);rintro e w4 ⟨rfl,hw4⟩;have HW:=Lib.hid hw4;clear hw4))
  refine bodyPost_end (results_none rfl _ _ _) rfl ?_
  exact ⟨rfl,HW.out⟩
end Go.Proofs.YticjodhkmidljaaGreatDoor
namespace Go.Proofs.YticjodhkmidljaaGreatDoor
open Go.RowKit Go.Maps Go.Shelf
attribute [local go_sem] Oper.semAt_some
abbrev u64v (x:Int):Value:=.int .u64 x
theorem key_inv {key:Value} {kl:Lit} (h:keyOf Tryz.prog 22 key=some kl):∃ x:Int,key=u64v x∧kl=.int .u64 x∧(Lit.int .u64 x).wf=true:=by
  have hu:=Tryz.underlying22
  cases key <;> simp [keyOf,hu,mapKey] at h
  rename_i q a
  obtain ⟨⟨rfl,hw⟩,rfl⟩:=h
  exact ⟨a,rfl,rfl,hw⟩
/-- The keys that came: each once; all that are not left. -/
def Came (D:DataW Value) (left:Lit→Bool) (ss:List Int):Prop:=ss.Nodup∧∀ x:Int,x ∈ ss ↔ Maps.has D (.int .u64 x)=true∧left (.int .u64 x)=false
theorem came_start (D:DataW Value):Came D (Maps.has D) []:=⟨List.nodup_nil,fun x=>by simp⟩
theorem Came.step {D:DataW Value} {left:Lit→Bool} {ss:List Int} (h:Came D left ss) {x:Int} (hl:left (.int .u64 x)=true) (hD:Maps.has D (.int .u64 x)=true):Came D (fun z=>left z && !z.sameKey (.int .u64 x)) (ss++[x]):=by
  refine ⟨?_,fun y=>?_⟩
  · rw [List.nodup_append]
    refine ⟨h.1,by simp,fun a ha b hb=>?_⟩
    simp at hb
    subst hb
    rintro rfl
    have:=((h.2 a).1 ha).2
    rw [hl] at this
    cases this
  · rw [List.mem_append,List.mem_singleton,h.2 y]
    by_cases e:y=x
    · subst e
      simp [hD,Lit.sameKey]
    · simp [Lit.sameKey,e]
set_option maxRecDepth 100000 in
set_option maxHeartbeats 4000000 in
theorem keys1_in (n l Bm b nn:Nat) (hn:1≤n) (D0:DataW Value) (J Jx:List Int→World→Prop)
    (hY:∀ pre x W,J pre W→pre.length<Maps.size D0→YieldAt Fence.wide (n - 1) Tryz.prog l #[u64v x] W fun e W' =>
      (e=.returned (.bool true)∧J (pre++[x]) W'∧KeepsWalks W W')∨(e=.returned (.bool false)∧Jx (pre++[x]) W'))
    (W:World) (hJ:AbidesFrom W.heap.size J) (hm:W.cell? ⟨Bm,0,none⟩=some (.map (some b))) (hown:W.ownsMap Tryz.prog 22 Rv b nn D0) (h0:J [] W) :
    CallsIn Fence.wide n Tryz.prog 73 #[.func (.yield l) #[] #[],.pointer (some ⟨Bm,0,none⟩)] W fun e W'=>(∃ v,e=.returned v) ∧
      ((∃ ss:List Int,Came D0 (fun _=>false) ss∧J ss W')∨(∃ pre:List Int,Jx pre W')):=by
  refine callsIn_of_wp Tryz.func73 rfl trivial ?_ rfl
  simp only [Tryz.ntmps73,List.size_toArray,List.length_cons,List.length_nil,Nat.reduceAdd,Nat.reduceSub,Array.replicate_succ,Array.replicate_zero,List.push_toArray,List.append_toArray,List.nil_append,List.cons_append]
  gi_wp2_with (first
    | (gi_at_range;refine wpListIn_range_own _ rfl _ 63 rfl 22 26 lawU Tryz.underlying63 Rv b nn _ rfl hown ?_;intro w0 hrg0 hg0 hs0)
    | gi_in)
  go_frame
  gi_loopw [3] (fun _ wr=>∃ (left:Lit→Bool) (cnt:Nat) (ss:List Int),wr.ranges Tryz.prog 22 Rv b W.heap.size nn D0 left cnt∧ss.length+cnt≤Maps.size D0∧Came D0 left ss∧J ss wr)
    (fun _ wr=>wr.rangeLeft b W.heap.size)
  case atStart=>exact ⟨_,_,[],hrg0,by simp,came_start D0,hJ [] W w0 none h0 hg0 (fun r e=>by cases e)⟩
  case round =>
    obtain ⟨left,cnt,ss,hrg,hcs,hC,hJs⟩:=hrel
    gi_wp2_with (first
      | (gi_at_next;refine wpListIn_next_ranges _ rfl _ rfl 22 lawU Rv u64v id (fun key kl hk=>by obtain ⟨x,hx,_⟩:=key_inv hk;exact ⟨x,hx⟩) (fun v _ _=>⟨v,rfl⟩) b W.heap.size nn _ _ _ rfl hrg ?_ ?_)
      | gi_in)
    · intro hc0 hl0
      gi_wp2
      go_end0
      refine ⟨⟨_,rfl⟩,.inl ⟨ss,?_,hJs⟩⟩
      have:left=fun _=>false:=funext hl0
      rw [← this]
      exact hC
    · intro x c kl yd yp w2 cnt2 hkey hlk hv hat hrg2 hlt hg2 hs2 hen
      obtain ⟨x',ex,rfl,_⟩:=key_inv hkey
      obtain rfl:x=x':=by cases ex;rfl
      have hJ2:J ss w2:=hJ ss wr w2 (some W.heap.size) hJs hg2 (fun r e=>by cases e;exact ⟨Nat.le_refl _,hrg.iter_walk⟩)
      obtain ⟨fn,tmps,assign,body,hy,hR⟩:=hY ss x w2 hJ2 (by omega)
      clear hs2
      gi_wp2
      refine hR.mono ?_
      have hhas:Maps.has D0 (.int .u64 x)=true:=Maps.has_true_of_atKey hat
      have hC2:=hC.step hlk hhas
      rintro e W3 (⟨rfl,hJ3,hk3⟩ | ⟨rfl,hJx3⟩)
      · gi_wp2
        have hrg3:=hrg2.of_walks hk3
        go_roundw
        case rel=>exact ⟨_,cnt2,ss++[x],hrg3,by simp;omega,hC2,hJ3⟩
        case measure=>rw [hrg3.left_eq,hrg.left_eq];exact hlt
      · gi_wp2
        refine bodyPost_ret (results_none rfl _ _ _) rfl ?_
        exact ⟨⟨_,rfl⟩,.inr ⟨ss++[x],hJx3⟩⟩
theorem keys_stops (n Bm b nn:Nat) (hn:1≤n) (D0:DataW Value) (w:World) (hBm:Bm<w.heap.size) (hm:w.cell? ⟨Bm,0,none⟩=some (.map (some b))) (hown:w.ownsMap Tryz.prog 22 Rv b nn D0) :
    SeqStops Fence.wide n Tryz.prog 73 #[.pointer (some ⟨Bm,0,none⟩)] u64v (fun ss=>Came D0 (fun _=>false) ss) (fun _=>True) (Maps.size D0) w:=fun l J Jx W hW hJ _ hY h0=>by
  have hown':W.ownsMap Tryz.prog 22 Rv b nn D0:=by
    have hbl:=hown.lt
    obtain ⟨es,clock,hb,Ft,hs,hD⟩:=hown
    exact ⟨es,clock,(hW.block b hbl).trans hb,Ft,hs,hD⟩
  refine (keys1_in n l Bm b nn hn D0 J Jx hY W hJ ((hW.cell (p:=⟨Bm,0,none⟩) hBm).trans hm) hown' h0).mono ?_
  rintro e W' ⟨h1,h2 | ⟨pre,hp⟩⟩
  · exact ⟨h1,.inl h2⟩
  · exact ⟨h1,.inr ⟨pre,trivial,hp⟩⟩
theorem keysU_in (n:Nat) (mb:Option Nat) (w:World) :
    CallsIn Fence.wide n Tryz.prog 37 #[.map mb] w fun e w'=>e=.returned (.func (.func 73) #[] #[.pointer (some ⟨w.heap.size,0,none⟩)])∧w'=w.alloc (.cells #[.map mb] 63):=by
  refine callsIn_of_wp Tryz.func37 rfl trivial ?_ rfl
  simp only [Tryz.ntmps37,List.size_toArray,List.length_cons,List.length_nil,Nat.reduceAdd,Nat.reduceSub,Array.replicate_succ,Array.replicate_zero,List.push_toArray,List.append_toArray,List.nil_append,List.cons_append]
  gi_wp2
  go_ret
  exact ⟨rfl,rfl⟩
end Go.Proofs.YticjodhkmidljaaGreatDoor
namespace Go.Proofs.YticjodhkmidljaaGreatDoor
open Go.RowKit Go.Maps Go.Shelf
attribute [local go_sem] Oper.semAt_some
theorem info64:(Tryz.prog.info? 22).map (fun i=>(i.zero,i.size,i.bytes))=some (some (.int .u64 0),1,8):=by kernel_rfl
theorem own_not {W:World} {base:Nat} {v:Value} {n:Nat} {xs:List Value} (h:W.ownsRow base 22 1 v n xs) {j:Nat} {o:Obj} (hj:W.heap[j]?=some o) (ho:∀ cs,o≠.cells cs 22 (0,0)):some j≠v.ownBlock:=fun e=>by
  rcases h.2 with ⟨rfl,_⟩ | ⟨g,cap,cur,rfl,_,hg,_⟩
  · cases e
  · have e2:j=g:=Option.some.inj e
    subst e2
    rw [hj] at hg
    exact ho _ (Option.some.inj hg)
theorem own_grown {W W':World} {base:Nat} {v:Value} {n:Nat} {xs:List Value} {row:Option Nat} (h:W.ownsRow base 22 1 v n xs) (hg:W.grownBy W' row) (hne:∀ g,v.ownBlock=some g→some g≠row):W'.ownsRow base 22 1 v n xs:=by
  refine ⟨h.1,?_⟩
  rcases h.2 with h2 | ⟨g,cap,cur,e,h3,hgg,h4⟩
  · exact .inl h2
  · subst e
    exact .inr ⟨g,cap,cur,rfl,h3,(hg.block g (Array.getElem?_eq_some_iff.1 hgg).1 (hne g rfl)).trans hgg,h4⟩
/-- Between two rounds: the box holds a slice of what came. -/
structure ApI (w0:World) (B:Nat) (pre:List Int) (W:World):Prop where
  box:∃ v,W.heap[B]?=some (.cells #[v] 79 (0,0))∧W.ownsRow w0.heap.size 22 1 v pre.length (pre.map u64v)∧(v=.slice none 0 0 ↔ pre=[])
  bel:Below w0.heap.size w0 W
theorem ApI.own {w0:World} {B B0:Nat} (hB:w0.heap.size≤B0):OwnFrom B0 (ApI w0 B):=fun s W W' row hs hg hr=>by
  obtain ⟨v,hv,ho,hn⟩:=hs.box
  have hne:∀ g,v.ownBlock=some g→some g≠row:=fun g e e2=>by
    obtain ⟨_,o,h1,h2⟩:=hr g e2.symm
    rcases ho.2 with ⟨rfl,_⟩ | ⟨g',cap,cur,rfl,_,hgg,_⟩
    · cases e
    · cases e
      rw [h1] at hgg
      cases hgg
      cases h2
  have hBr:some B≠row:=fun e=>by
    obtain ⟨_,o,h1,h2⟩:=hr B e.symm
    rw [h1] at hv
    cases hv
    cases h2
  exact ⟨⟨v,(hg.block B (Array.getElem?_eq_some_iff.1 hv).1 hBr).trans hv,own_grown ho hg hne,hn⟩,
    ⟨hg.os.trans hs.bel.os,hg.tape.trans hs.bel.tape,hg.output.trans hs.bel.output,Nat.le_trans hs.bel.size hg.size,fun q hq=>(hg.block q (Nat.lt_of_lt_of_le hq hs.bel.size) (fun e=>by have:=(hr q e.symm).1;omega)).trans (hs.bel.block q hq)⟩⟩
set_option maxRecDepth 100000 in
set_option maxHeartbeats 4000000 in
theorem appendSeq_in (m Bm b nn:Nat) (hm:3≤m) (D0:DataW Value) (hN:Maps.size D0≤1000000) (w:World) (hBm:Bm<w.heap.size) (hc:w.cell? ⟨Bm,0,none⟩=some (.map (some b))) (hown:w.ownsMap Tryz.prog 22 Rv b nn D0) :
    CallsIn Fence.wide m Tryz.prog 99 #[.slice none 0 0,.func (.func 73) #[] #[.pointer (some ⟨Bm,0,none⟩)]] w fun e w' =>
      ∃ v ss,e=.returned v∧Came D0 (fun _=>false) ss∧w'.ownsRow w.heap.size 22 1 v ss.length (ss.map u64v)∧(v=.slice none 0 0 ↔ ss=[])∧Below w.heap.size w w':=by
  refine callsIn_of_wp_marks Tryz.func99 rfl trivial ?_ rfl
  simp only [Tryz.ntmps99,List.size_toArray,List.length_cons,List.length_nil,Nat.reduceAdd,Nat.reduceSub,Array.replicate_succ,Array.replicate_zero,List.push_toArray,List.append_toArray,List.nil_append,List.cons_append]
  gi_wp2
  have hb0:=(Below.refl w.heap.size w).alloc (Nat.le_refl _) (.cells #[.slice none 0 0] 79)
  have hv0:=heap_alloc_new w (.cells #[.slice none 0 0] 79)
  have hs0:(w.alloc (.cells #[.slice none 0 0] 79)).heap.size=w.heap.size+1:=by simp
  generalize w.alloc (.cells #[.slice none 0 0] 79)=w1 at *
  have hown1:w1.ownsMap Tryz.prog 22 Rv b nn D0:=by
    have hbl:=hown.lt
    obtain ⟨es,clock,hb,Ft,hs,hD⟩:=hown
    exact ⟨es,clock,(hb0.block b hbl).trans hb,Ft,hs,hD⟩
  have hc1:=(hb0.cell (p:=⟨Bm,0,none⟩) hBm).trans hc
  have hI0:ApI w w.heap.size [] w1:=⟨⟨_,hv0,⟨rfl,.inl ⟨rfl,rfl⟩⟩,by simp⟩,hb0⟩
  refine wpIn_rangeFunc_ownF (F:=Fence.wide) rfl (by omega) (gf:=73) (lb:=#[.pointer (some ⟨Bm,0,none⟩)]) rfl trivial (enters_of Tryz.func73 (by kernel_rfl) rfl)
    (keys_stops (m - 1) Bm b nn (by omega) D0 w1 (by omega) hc1 hown1) walksK_t walksK_b (Below.refl _ _) (fun _=>rfl)
    (ApI w w.heap.size) (fun _ _ _=>False) (ApI.own (by omega)) (fun _ _ _ _ _ h _ _=>h) hI0
    (fun x=>{ tmps:=#[.slice none 0 0,(.func (.func 73) #[] #[.pointer (some ⟨Bm,0,none⟩)]),.pointer (some ⟨w.heap.size,0,none⟩),undef,.slice none 0 0,u64v x,(.func (.func 73) #[] #[.pointer (some ⟨Bm,0,none⟩)]),u64v x,undef,undef,undef,undef,undef],defers:=[] }) ?assign ?body ?done ?stop
  case assign =>
    intro l x W K hK
    gi_wp2
    exact hK
  case body =>
    rintro l pre x W hI hlen
    obtain ⟨i0,hi,hz0,hz1,hz2⟩:=info_parts info64
    obtain ⟨v,hv,ho,hn⟩:=hI.box
    have f0:W.cell? ⟨w.heap.size,0,none⟩=some v:=cell_of_row _ _ _ _ _ _ hv
    have hb:=hI.bel
    have hBlt:=(Array.getElem?_eq_some_iff.1 hv).1
    have Hlen:=Lib.hid (show pre.length<1000000 from by omega)
    have HI:=Lib.hid (And.intro hv (And.intro ho (And.intro hn hb)))
    clear hv ho hn hb hI hlen
    gi_wp2_with (first
      | (gi_at_builtin;refine wpListIn_append_own _ rfl _ _ 79 rfl w.heap.size 22 i0 (.int .u64 0) 1 8 Tryz.underlying79 hi hz0 hz1 hz2 rfl (by decide) _ _ _ rfl (HI.out.2.1.alloc _) ⟨W.heap.size,0,none⟩ 1 1 [u64v x] rfl rfl (cell_one_new _ _ _) (by simp [Value.oneCell',u64v]) (by have:=Hlen.out;unfold maxLen;omega) (by have:=Hlen.out;omega) (by have:=HI.out.2.2.2.size;simp;omega) ?_;intro v' w3 hown' hg3 hnil3;have H3:=Lib.hid (And.intro hown' hg3);clear hg3 hnil3
         obtain ⟨g',cap',cur',rfl,hr⟩:∃ g' cap' cur',v'=.slice (some ⟨g',0,none⟩) (pre.length+1) cap'∧w3.heap[g']?=some (.cells cur' 22 (0,0)):=by
           rcases hown'.2 with ⟨_,h0⟩ | ⟨g',cap',cur',e,_,h5,_⟩
           · exact absurd h0 (by omega)
           · exact ⟨g',cap',cur',e,h5⟩
         have hv3:w3.heap[w.heap.size]?=some (.cells #[v] 79 (0,0)):=(H3.out.2.block w.heap.size (by simp;omega) (own_not HI.out.2.1 HI.out.1 (fun cs e=>by cases e))).trans ((Below.heap_alloc _ _ _ hBlt).trans HI.out.1)
         have f3:w3.cell? ⟨w.heap.size,0,none⟩=some v:=cell_of_row _ _ _ _ _ _ hv3
         have t3:=thawed_row 0 hv3
         have Hv3:=Lib.hid hv3
         clear hown' hr hv3 f0
         go_frame)
      | gi_in)
    have hg3:(W.alloc (.cells #[u64v x] 22)).grownBy w3 v.ownBlock:=H3.out.2
    have hk3:KeepsOthers W w3:=(KeepsOthers.alloc _ _).trans (KeepsOthers.of_grownBy hg3 (fun j o e hj=>by
      rcases (HI.out.2.1.alloc (.cells #[u64v x] 22)).2 with ⟨rfl,_⟩ | ⟨g5,cap5,cur5,rfl,_,h6,_⟩
      · cases e
      · cases e
        rw [hj] at h6
        cases h6
        rfl))
    have hb3:Below w.heap.size w w3:=by
      have hb:=HI.out.2.2.2
      refine (hb.alloc hb.size (.cells #[u64v x] 22)).trans ⟨hg3.os,hg3.tape,hg3.output,hg3.size,fun q hq=>hg3.block q (by have:=hb.size;simp;omega) (fun e=>?_)⟩
      rcases HI.out.2.1.2 with ⟨e2,_⟩ | ⟨g5,_,_,e2,h5,_⟩
      · rw [e2] at e;cases e
      · rw [e2] at e
        have e3:q=g5:=Option.some.inj e
        omega
    refine ⟨hk3.trans (KeepsOthers.setCell _ _ _),(hk3.trans (KeepsOthers.setCell _ _ _)).walks,⟨⟨.slice (some ⟨g',0,none⟩) (pre.length+1) cap',?_,?_,?_⟩,?_⟩⟩
    · rw [heap_setCell_same _ _ _ _ _ _ Hv3.out]
      rfl
    · have ho:=H3.out.1
      rw [List.map_append,List.length_append]
      refine own_grown ho (row:=some w.heap.size) ⟨rfl,rfl,rfl,by simp,fun k _ hk=>Below.heap_setCell _ _ _ _ (fun e=>hk (by rw [e]))⟩ (fun g e e2=>?_)
      exact own_not ho Hv3.out (fun cs e=>by cases e) (by rw [e,e2])
    · simp
    · exact hb3.trans ⟨rfl,rfl,rfl,by simp,fun k hk=>Below.heap_setCell _ _ _ _ (fun e=>by have:k=w.heap.size:=e;omega)⟩
  case done =>
    rintro D ys W hD hS hI hK
    obtain ⟨v,hv,ho,hn⟩:=hI.box
    have f0:W.cell? ⟨w.heap.size,0,none⟩=some v:=cell_of_row _ _ _ _ _ _ hv
    have HI:=Lib.hid (And.intro hv (And.intro ho (And.intro hn hI.bel)))
    have HK:=Lib.hid hK
    clear hv ho hn hI hK
    gi_wp2
    have hb7:Below w.heap.size w (W.putObj D (.deferred none)):=HI.out.2.2.2.trans (belowK_b (w:=w) (Nat.le_refl _) W D _ _ (by omega) HK.out rfl rfl)
    refine ⟨by simp,.inl ⟨_,_,rfl,run_takeDeferred HK.out,?_⟩⟩
    refine ⟨v,?_,v,ys,rfl,hS,own_grown HI.out.2.1 (grownBy_putObj' W D (.deferred none)) (fun g e e2=>own_not HI.out.2.1 HK.out (fun cs e=>by cases e) (by rw [e,e2])),HI.out.2.2.1,hb7⟩
    simp [results,Tryz.results99,go_sem]
  case stop =>
    rintro D c pre W hD hpre h _
    exact h.elim
end Go.Proofs.YticjodhkmidljaaGreatDoor
namespace Go.Proofs.YticjodhkmidljaaGreatDoor
open Go.RowKit Go.Maps Go.Shelf
theorem collect_any (Bm b nn:Nat) (D0:DataW Value) (hN:Maps.size D0≤1000000) (w:World) (hBm:Bm<w.heap.size) (hc:w.cell? ⟨Bm,0,none⟩=some (.map (some b))) (hown:w.ownsMap Tryz.prog 22 Rv b nn D0) :
    Calls Tryz.prog 71 #[.func (.func 73) #[] #[.pointer (some ⟨Bm,0,none⟩)]] w fun e w' =>
      ∃ v ss,e=.returned v∧Came D0 (fun _=>false) ss∧w'.ownsRow w.heap.size 22 1 v ss.length (ss.map u64v)∧(v=.slice none 0 0 ↔ ss=[])∧Below w.heap.size w w':=by
  have H:=Lib.hid (callsIn_wide.1 (appendSeq_in 5 Bm b nn (by omega) D0 hN w hBm hc hown))
  clear hown hc
  go_enter Tryz.func71,Tryz.ntmps71
  go_wp2_with ((with_reducible refine H.out.mono ?_);rintro e w2 ⟨v,ss,rfl,h1,h2,h3,h4⟩;have H2:=Lib.hid (And.intro h1 (And.intro h2 (And.intro h3 h4)));clear h1 h2 h3 h4)
  go_ret
  exact ⟨v,ss,rfl,H2.out.1,H2.out.2.1,H2.out.2.2.1,H2.out.2.2.2⟩
theorem blen_any (n:Nat) (hn:n<18446744073709551616) (w:World):Calls Tryz.prog 101 #[.int .u64 (n:Int)] w fun e w'=>e=.returned (.int .i64 (Lib.bitLen n:Int))∧w=w':=by
  have H:=Lib.hid (len64_any n hn w)
  go_enter Tryz.func101,Tryz.ntmps101
  go_wp2_with ((with_reducible refine H.out.mono ?_);rintro e w2 ⟨rfl,rfl⟩)
  go_ret
  exact ⟨rfl,rfl⟩
set_option maxRecDepth 100000 in
theorem insert1_any (A:Option Addr) (n c:Nat) (hn:n≤1) (w:World):Calls Tryz.prog 125 #[.slice A n c,.int .i64 0,.int .i64 (n:Int)] w fun e w'=>e=.returned (.tuple #[])∧w=w':=by
  have h1 : ¬ (1:Int)<(n:Int):=by omega
  clear hn
  go_enter Tryz.func125,Tryz.ntmps125
  go_upto_region 1 with fail
  go_loopw [6] (fun s6 wr=>w=wr∧s6=.int .i64 1) (fun _ _=>0)
  case atStart=>exact ⟨rfl,rfl⟩
  case round =>
    obtain ⟨rfl,rfl⟩:=hrel
    go_wp2_with fail
    refine bodyPost_end (results_none rfl _ _ _) rfl ?_
    exact ⟨rfl,rfl⟩
set_option maxRecDepth 100000 in
theorem pdq1_any (A:Option Addr) (n c:Nat) (hn:n≤1) (l:Nat) (w:World):Calls Tryz.prog 100 #[.slice A n c,.int .i64 0,.int .i64 (n:Int),.int .i64 (l:Int)] w fun e w'=>e=.returned (.tuple #[])∧w=w':=by
  have H:=Lib.hid (insert1_any A n c hn w)
  have h1:(n:Int)≤12:=by omega
  have hw:IntKind.i64.wrap (n:Int)=(n:Int):=by rw [IntKind.wrap_i64];omega
  clear hn
  go_enter Tryz.func100,Tryz.ntmps100
  go_upto_region 2 with fail
  go_loopw [1,2,3,8,9] (fun s1 s2 s3 s8 s9 wr=>w=wr∧s1=.int .i64 0∧s2=.int .i64 (n:Int)∧s3=.int .i64 (l:Int)∧s8=.bool true∧s9=.bool true) (fun _ _ _ _ _ _=>0)
  case atStart=>exact ⟨rfl,rfl,rfl,rfl,rfl,rfl⟩
  case round =>
    obtain ⟨rfl,rfl,rfl,rfl,rfl,rfl⟩:=hrel
    go_wp2_with ((with_reducible refine H.out.mono ?_);rintro e w2 ⟨rfl,rfl⟩)
    refine bodyPost_ret (results_none rfl _ _ _) rfl ?_
    exact ⟨rfl,rfl⟩
theorem sort1_any (A:Option Addr) (n c:Nat) (hn:n≤1) (w:World):Calls Tryz.prog 72 #[.slice A n c] w fun e w'=>e=.returned (.tuple #[])∧Below w.heap.size w w':=by
  have Hb:=Lib.hid (fun y:World=>pure_bel (blen_any n (by omega) y))
  have Hp:=Lib.hid (fun y:World=>pure_bel (pdq1_any A n c hn (Lib.bitLen n) y))
  have hw:IntKind.u64.wrap (n:Int)=(n:Int):=by rw [IntKind.wrap_u64];omega
  generalize Lib.bitLen n=l at *
  clear hn
  go_enter Tryz.func72,Tryz.ntmps72
  go_wp2_with (first
    | ((with_reducible refine (Hb.out _).mono ?_);rintro e w2 ⟨rfl,h2⟩;have H2:=Lib.hid h2;clear h2)
    | ((with_reducible refine (Hp.out _).mono ?_);rintro e w3 ⟨rfl,h3⟩;have H3:=Lib.hid h3;clear h3))
  refine bodyPost_end (results_none rfl _ _ _) rfl ?_
  exact ⟨rfl,H2.out.trans (H3.out.mono H2.out.size)⟩
end Go.Proofs.YticjodhkmidljaaGreatDoor
namespace Go.Proofs.YticjodhkmidljaaGreatDoor
open Go.RowKit Go.Maps Go.Shelf
theorem own_r64 {w:World} {g n:Nat} {cur:Array Value} {t:TypeId} {ss:List Int} (hg:w.heap[g]?=some (.cells cur t (0,0))) (hn:ss.length=n) (ht:cur.toList.take n=ss.map u64v):R64 w g ss.toArray:=by
  intro j hj
  have hj':j<ss.length:=by simpa using hj
  constructor
  · unfold World.cell?
    rw [hg,Nat.zero_add]
    have e1:(cur.toList.take n)[j]?=some (u64v ss[j]):=by rw [ht,List.getElem?_map,List.getElem?_eq_getElem hj'];rfl
    rw [List.getElem?_take,if_pos (by omega)] at e1
    have e2:ss.toArray[j]! = ss[j]:=by
      rw [getElem!_pos _ j (by simpa using hj')]
      simp
    rw [e2]
    show cur[j]?=_
    rw [← Array.getElem?_toList]
    exact e1
  · unfold World.frozen?
    rw [hg]
    rfl
theorem srt_row {w w3:World} {g n:Nat} {cur:Array Value} {t:TypeId} {d:Array Int} (hg:w.heap[g]?=some (.cells cur t (0,0))) (hn:d.size=n) (hc:n≤cur.size) (h:SrtAt w g d w3) :
    ∃ cur',w3.heap[g]?=some (.cells cur' t (0,0))∧cur'.size=cur.size∧cur'.toList.take n=d.toList.map u64v:=by
  have hlt:g<w.heap.size:=(Array.getElem?_eq_some_iff.1 hg).1
  have hb:w3.heap[g]?=(rw64 w 0 g d).heap[g]?:=RowKit.Below.block h g hlt
  have hm:(rw64 w 0 g d).heap[g]?=some (.cells (Go.Sort.putCells (Value.int .u64) 0 d cur) t (0,0)):=by
    show (Go.Sort.mapBlock _ _ _).heap[g]?=_
    unfold Go.Sort.mapBlock
    simp only [Array.getElem?_modify]
    rw [if_pos trivial,show (Go.Sort.ahead w 0).heap[g]?=w.heap[g]? from rfl,hg]
    rfl
  refine ⟨_,hb.trans hm,by simp [Go.Sort.putCells],?_⟩
  refine List.ext_getElem? fun i=>?_
  by_cases hi:i<n
  · rw [List.getElem?_take,if_pos hi,Array.getElem?_toList,List.getElem?_map]
    have h1:i<(Go.Sort.putCells (Value.int .u64) 0 d cur).size:=by simp [Go.Sort.putCells];omega
    rw [Array.getElem?_eq_getElem h1,List.getElem?_eq_getElem (by simpa [hn] using hi)]
    simp only [Go.Sort.putCells,Array.getElem_mapIdx,Option.map_some]
    rw [if_pos (by omega),Nat.sub_zero,getElem!_pos d i (by omega)]
    simp
  · rw [List.getElem?_eq_none (by simp;omega),List.getElem?_eq_none (by simp;omega)]
theorem has_key {D:DataW Value} {x:Int} (h:Maps.has D (.int .u64 x)=true):∃ l,D=.map l∧x ∈ l.filterMap (fun p=>match p.1 with | .int _ a=>some a | _=>none):=by
  cases D with
  | map l =>
    refine ⟨l,rfl,?_⟩
    simp only [Maps.has,List.any_eq_true] at h
    obtain ⟨p,hp,hk⟩:=h
    rw [List.mem_filterMap]
    refine ⟨p,hp,?_⟩
    obtain ⟨k,v⟩:=p
    cases k <;> simp [Lit.sameKey] at hk ⊢
    rw [hk.2]
  | _=>simp [Maps.has] at h
theorem nodup_len {ss l:List Int} (hn:ss.Nodup) (hs:∀ x ∈ ss,x ∈ l):ss.length≤l.length:=by
  induction ss generalizing l with
  | nil=>simp
  | cons x r ih =>
    have hx:x ∈ l:=hs x (by simp)
    have h1:=ih (List.nodup_cons.1 hn).2 (l:=l.erase x) (fun y hy=>by
      have hne:y≠x:=fun e=>(List.nodup_cons.1 hn).1 (e ▸ hy)
      exact (List.mem_erase_of_ne hne).2 (hs y (by simp [hy])))
    rw [List.length_erase_of_mem hx] at h1
    have:0<l.length:=List.length_pos_of_mem hx
    simp
    omega
theorem came_size {D:DataW Value} {ss:List Int} (h:Came D (fun _=>false) ss):ss.length≤Maps.size D:=by
  match ss,h with
  | [],_=>exact Nat.zero_le _
  | x::r,h =>
    obtain ⟨l,rfl,_⟩:=has_key ((h.2 x).1 (by simp)).1
    have hsub:∀ y ∈ (x::r),y ∈ l.filterMap (fun p=>match p.1 with | .int _ a=>some a | _=>none):=fun y hy=>by
      obtain ⟨l',e,hm⟩:=has_key ((h.2 y).1 hy).1
      cases e
      exact hm
    have h1:=nodup_len h.1 hsub
    exact Nat.le_trans h1 (List.length_filterMap_le _ _)
/-- The sorted keys. -/
def KeysPostS (D0:DataW Value) (w:World) (e:Ending) (w':World):Prop:=∃ v ss,e=.returned v∧(Came D0 (fun _=>false) ss∧ss.Pairwise (fun x y=>x<y))∧w'.ownsRow w.heap.size 22 1 v ss.length (ss.map u64v)∧(v=.slice none 0 0 ↔ ss=[])∧Below w.heap.size w w'
theorem came_sorted {D0:DataW Value} {ss:List Int} (h:Came D0 (fun _=>false) ss):Came D0 (fun _=>false) (ss.mergeSort (fun x y=>decide (x≤y)))∧(ss.mergeSort (fun x y=>decide (x≤y))).Pairwise (fun x y=>x<y):=by
  have hp:=List.mergeSort_perm ss (fun x y=>decide (x≤y))
  have hs:=List.pairwise_mergeSort (le:=fun x y:Int=>decide (x≤y)) (fun a b c h1 h2=>by simp at *; omega) (fun a b=>by simp;omega) ss
  have hnd:=hp.nodup_iff.2 h.1
  refine ⟨⟨hnd,fun x=>(hp.mem_iff).trans (h.2 x)⟩,?_⟩
  have hnd2:(ss.mergeSort (fun x y=>decide (x≤y))).Pairwise (fun x y=>x≠y):=hnd
  exact (hs.and hnd2).imp fun hh=>by
    have h1:=hh.1
    have h2:=hh.2
    simp at h1
    omega
theorem sortedK_any (Bm b nn:Nat) (D0:DataW Value) (hN:Maps.size D0≤1000000) (w:World) (hBm:Bm<w.heap.size) (hc:w.cell? ⟨Bm,0,none⟩=some (.map (some b))) (hown:w.ownsMap Tryz.prog 22 Rv b nn D0) :
    Calls Tryz.prog 36 #[.func (.func 73) #[] #[.pointer (some ⟨Bm,0,none⟩)]] w (KeysPostS D0 w):=by
  have H:=Lib.hid (collect_any Bm b nn D0 hN w hBm hc hown)
  clear hown hc
  go_enter Tryz.func36,Tryz.ntmps36
  go_upto_region 2 with ((with_reducible refine H.out.mono ?_);rintro e w2 ⟨v,ss,rfl,h1,h2,h3,h4⟩;have H2:=Lib.hid (And.intro h1 (And.intro h2 (And.intro h3 h4)));clear h1 h2 h3 h4)
  rcases H2.out.2.1.2 with ⟨rfl,h0⟩ | ⟨g,cap,cur,rfl,hbase,hg,hnc,hcm,hcs,ht⟩
  · have hss:ss=[]:=List.eq_nil_of_length_eq_zero h0
    subst hss
    have Hs:=Lib.hid (sort1_any none 0 0 (by omega) w2)
    go_wp2_with ((with_reducible refine Hs.out.mono ?_);rintro e w3 ⟨rfl,h3⟩;have H3:=Lib.hid h3;clear h3)
    go_ret
    refine ⟨.slice none 0 0,[],rfl,⟨H2.out.1,List.Pairwise.nil⟩,⟨rfl,.inl ⟨rfl,rfl⟩⟩,⟨fun _=>rfl,fun _=>rfl⟩,H2.out.2.2.2.trans (H3.out.mono H2.out.2.2.2.size)⟩
  · rw [Nat.mul_one] at ht hcs
    have hrow:=own_r64 hg rfl ht
    have hml:=came_size H2.out.1
    have hs:=sorted64 g cap ss.length ss.toArray w2 (by simp) hrow (Array.getElem?_eq_some_iff.1 hg).1 (by omega)
    have hne:ss≠[]:=fun e=>by
      have:=H2.out.2.2.1.2 e
      cases this
    have Hs:=Lib.hid hs
    have HG:=Lib.hid (And.intro hg (And.intro hbase (And.intro hnc (And.intro hcm hcs))))
    clear hs hrow hg hbase hnc hcm hcs ht
    go_wp2_with ((with_reducible refine Hs.out.mono ?_);rintro e w3 ⟨rfl,h3⟩;have H3:=Lib.hid h3;clear h3)
    go_ret
    obtain ⟨hg,hbase,hnc,hcm,hcs⟩:=HG.out
    have hpl:=sort_plain ss
    have hcs2:=came_sorted H2.out.1
    rw [← hpl] at hcs2
    have hlen:(Go.Sort.sort Go.Sort.ltInt ss.toArray).toList.length=ss.length:=by rw [hpl,List.length_mergeSort]
    have hsz:(Go.Sort.sort Go.Sort.ltInt ss.toArray).size=ss.length:=by rw [← Array.length_toList];exact hlen
    obtain ⟨cur',k1,k2,k3⟩:=srt_row hg hsz (by omega) H3.out
    refine ⟨.slice (some ⟨g,0,none⟩) ss.length cap,(Go.Sort.sort Go.Sort.ltInt ss.toArray).toList,rfl,hcs2,⟨by simp [hlen],.inr ⟨g,cap,cur',by rw [hlen],hbase,k1,by omega,hcm,by omega,by rw [hlen,Nat.mul_one];exact k3⟩⟩,⟨(fun e=>by cases e),fun e=>?_⟩,?_⟩
    · exfalso
      have:ss.length=0:=by rw [← hlen,e];rfl
      exact hne (List.eq_nil_of_length_eq_zero this)
    · refine H2.out.2.2.2.trans ?_
      have hb:RowKit.Below g (rw64 w2 0 g (Go.Sort.sort Go.Sort.ltInt ss.toArray)) w3:=RowKit.Below.mono H3.out (Nat.le_of_lt (Array.getElem?_eq_some_iff.1 hg).1)
      have hb2:RowKit.Below g w2 (rw64 w2 0 g (Go.Sort.sort Go.Sort.ltInt ss.toArray)):=⟨rfl,rfl,rfl,by rw [rw_hsize];exact Nat.le_refl _,fun k hk=>rw_heap _ _ _ _ _ (by omega)⟩
      exact (hb2.trans hb).mono hbase
end Go.Proofs.YticjodhkmidljaaGreatDoor
