/- Base: look. Condition: the file is not too long. -/
import Derived.Test.YticjodhkmidljaaGreatDoorZKeepNil3
import Derived.Test.YticjodhkmidljaaGreatDoorZKeepNil5
import Derived.Test.YticjodhkmidljaaGreatDoorZKeepNil9
import Derived.Test.YticjodhkmidljaaGreatDoorZKeepNil8
import Derived.OwnWalkIn
import Derived.Laws.OwnMore
namespace Go.Proofs.YticjodhkmidljaaGreatDoor
open Go.RowKit Go.Shelf
theorem takeF_len (s:Bs):(takeF s).1.length≤s.length:=by
  have h1:(rdF s).2.s.length≤s.length:=by
    unfold rdF
    split
    · rw [fail_s];exact below_len _ _
    · exact below_len _ _
  unfold takeF
  split
  · simp
  · split
    · simp
    · split
      · simp
      · simp only [List.length_take,List.length_drop]
        omega
/-- The reader behind a base's inside. -/
def rdB (x:Bs):RdV:=((RdV.mk 0 x).num.2.str 65536).2.end_
/-- How a base's file is (0 young, 1 good, 2 spoilt), and its text. -/
def lookD (n:Nat) (f:FilV):Nat × Bs :=
  if f.sy=0 then (0,[]) else if (takeF f.by_).2.2≠0∨(takeF f.by_).2.1≠f.by_.length∨f.sy≠(takeF f.by_).2.1 then (2,[])
  else if (rdB (takeF f.by_).1).e≠0∨(RdV.mk 0 (takeF f.by_).1).num.1≠n then (2,[]) else (1,((RdV.mk 0 (takeF f.by_).1).num.2.str 65536).1)
set_option maxRecDepth 100000 in
set_option maxHeartbeats 8000000 in
theorem look_any (n:Nat) (f:FilV) (hl:f.by_.length≤100000000) (_:f.sy≤100000000) (w:World) :
    Calls Tryz.prog 45 #[.int .u64 (n:Int),.agg (filE f).toArray] w fun e w'=>e=.returned (.tuple #[.int .i64 ((lookD n f).1:Int),.string ⟨(lookD n f).2.toArray⟩])∧Below w.heap.size w w':=by
  have hbx:=(Below.refl w.heap.size w).alloc (Nat.le_refl _) (.cells (filE f).toArray 101)
  have hro:(w.alloc (.cells (filE f).toArray 101)).heap[w.heap.size]?=some (.cells (filE f).toArray 101 (0,0)):=heap_alloc_new _ _
  obtain ⟨x,hx⟩:∃ x:ByteArray,x=⟨f.by_.toArray⟩:=⟨_,rfl⟩
  have hxs:x.size=f.by_.length:=by rw [hx];simp [ByteArray.size]
  obtain ⟨nm,hnm⟩:∃ nm:ByteArray,nm=⟨f.nm.toArray⟩:=⟨_,rfl⟩
  have hfe:filE f=[.string nm,.string x,.int .i64 (f.sy:Int)]:=by rw [hx,hnm];rfl
  rw [hfe] at hbx hro ⊢
  have k1:=cell_of_row _ _ 1 _ _ _ hro
  have k2:=cell_of_row _ _ 2 _ _ _ hro
  rw [show ([Value.string nm,.string x,.int .i64 (f.sy:Int)].toArray)[1]?=some (.string x) from rfl] at k1
  rw [show ([Value.string nm,.string x,.int .i64 (f.sy:Int)].toArray)[2]?=some (.int .i64 (f.sy:Int)) from rfl] at k2
  have HB:=Lib.hid hbx
  have HT:=Lib.hid (show ∀ y:World,Calls Tryz.prog 80 #[.string x] y _ from fun y=>by rw [hx];exact ftake_any f.by_ hl y)
  obtain ⟨lk,hlk⟩:∃ lk,lk=lookD n f:=⟨_,rfl⟩
  rw [← hlk]
  unfold lookD at hlk
  clear hbx hro hx hnm hfe
  obtain ⟨T,hT⟩:∃ T,T=takeF f.by_:=⟨_,rfl⟩
  have hTl:T.1.length≤maxLen:=by have h:=takeF_len f.by_;rw [← hT] at h;unfold maxLen;omega
  rw [← hT] at HT hlk
  clear hT
  by_cases h0:f.sy=0
  · rw [if_pos h0] at hlk
    have HL:=Lib.hid hlk
    have hz:((f.sy:Int) == 0)=true:=by rw [h0];rfl
    clear hlk h0
    go_enter Tryz.func45,Tryz.ntmps45
    go_upto_region 1 with fail
    change Code.wp _ _ _ _ (w.alloc (.cells [Value.string nm,.string x,.int .i64 (f.sy:Int)].toArray 101))
    generalize w.alloc (.cells [Value.string nm,.string x,.int .i64 (f.sy:Int)].toArray 101)=w1 at *
    go_wp2
    go_ret2
    rw [HL.out]
    exact ⟨rfl,HB.out⟩
  · rw [if_neg h0] at hlk
    have hz:((f.sy:Int) == 0)=false:=by rw [beq_eq_false_iff_ne];omega
    clear h0
    by_cases h1:T.2.2≠0
    · rw [if_pos (.inl h1)] at hlk
      have HL:=Lib.hid hlk
      have hz1:((T.2.2:Int) != 0)=true:=by rw [bne_iff_ne];omega
      clear hlk h1
      go_enter Tryz.func45,Tryz.ntmps45
      go_upto_region 1 with fail
      change Code.wp _ _ _ _ (w.alloc (.cells [Value.string nm,.string x,.int .i64 (f.sy:Int)].toArray 101))
      generalize w.alloc (.cells [Value.string nm,.string x,.int .i64 (f.sy:Int)].toArray 101)=w1 at *
      go_upto_region 4 with ((with_reducible refine (HT.out _).mono ?_);rintro e w2 ⟨rfl,hb2⟩;have HB2:=Lib.hid hb2;have k1:=(World.cell?_of_block (hb2.block w.heap.size (cell_lt k1))).trans k1;have k2:=(World.cell?_of_block (hb2.block w.heap.size (cell_lt k2))).trans k2;clear hb2)
      go_wp2
      go_ret2
      rw [HL.out]
      exact ⟨rfl,HB.out.trans (HB2.out.mono HB.out.size)⟩
    · have hz1:((T.2.2:Int) != 0)=false:=by rw [bne_eq_false_iff_eq];omega
      by_cases h2:T.2.1≠f.by_.length
      · rw [if_pos (.inr (.inl h2))] at hlk
        have HL:=Lib.hid hlk
        have hz2:((T.2.1:Int) != (f.by_.length:Int))=true:=by rw [bne_iff_ne];omega
        clear hlk h1 h2
        go_enter Tryz.func45,Tryz.ntmps45
        go_upto_region 1 with fail
        change Code.wp _ _ _ _ (w.alloc (.cells [Value.string nm,.string x,.int .i64 (f.sy:Int)].toArray 101))
        generalize w.alloc (.cells [Value.string nm,.string x,.int .i64 (f.sy:Int)].toArray 101)=w1 at *
        go_upto_region 4 with ((with_reducible refine (HT.out _).mono ?_);rintro e w2 ⟨rfl,hb2⟩;have HB2:=Lib.hid hb2;have k1:=(World.cell?_of_block (hb2.block w.heap.size (cell_lt k1))).trans k1;have k2:=(World.cell?_of_block (hb2.block w.heap.size (cell_lt k2))).trans k2;clear hb2)
        go_wp2
        go_ret2
        rw [HL.out]
        exact ⟨rfl,HB.out.trans (HB2.out.mono HB.out.size)⟩
      · have hz2:((T.2.1:Int) != (f.by_.length:Int))=false:=by rw [bne_eq_false_iff_eq];omega
        by_cases h3:f.sy≠T.2.1
        · rw [if_pos (.inr (.inr h3))] at hlk
          have HL:=Lib.hid hlk
          have hz3:((f.sy:Int) != (T.2.1:Int))=true:=by rw [bne_iff_ne];omega
          clear hlk h1 h2 h3
          go_enter Tryz.func45,Tryz.ntmps45
          go_upto_region 1 with fail
          change Code.wp _ _ _ _ (w.alloc (.cells [Value.string nm,.string x,.int .i64 (f.sy:Int)].toArray 101))
          generalize w.alloc (.cells [Value.string nm,.string x,.int .i64 (f.sy:Int)].toArray 101)=w1 at *
          go_upto_region 4 with ((with_reducible refine (HT.out _).mono ?_);rintro e w2 ⟨rfl,hb2⟩;have HB2:=Lib.hid hb2;have k1:=(World.cell?_of_block (hb2.block w.heap.size (cell_lt k1))).trans k1;have k2:=(World.cell?_of_block (hb2.block w.heap.size (cell_lt k2))).trans k2;clear hb2)
          go_wp2
          go_ret2
          rw [HL.out]
          exact ⟨rfl,HB.out.trans (HB2.out.mono HB.out.size)⟩
        · have hz3:((f.sy:Int) != (T.2.1:Int))=false:=by rw [bne_eq_false_iff_eq];omega
          rw [if_neg (by omega)] at hlk
          clear h1 h2 h3
          have hof:=fun y:World=>of_any1 T.1 hTl y
          have Hof:=Lib.hid hof
          have HNum:=Lib.hid (fun (g:Nat) (y:World) (hy:RdAt y g ⟨0,T.1⟩)=>rnumber_any ⟨0,T.1⟩ g y hy)
          obtain ⟨N,hN⟩:∃ N,N=(RdV.mk 0 T.1).num:=⟨_,rfl⟩
          have hNR:RdV.num ⟨0,T.1⟩=N:=hN.symm
          obtain ⟨S,hS⟩:∃ S,S=N.2.str 65536:=⟨_,rfl⟩
          have HStr:=Lib.hid (fun (g:Nat) (y:World) (hy:RdAt y g N.2)=>show Calls Tryz.prog 57 #[.pointer (some ⟨g,0,none⟩),.int .i64 65536] y _ from rstr2_any N.2 65536 g (by decide) y hy)
          have HEnd:=Lib.hid (fun (g:Nat) (y:World) (hy:RdAt y g S.2)=>end_any S.2 g y hy)
          rw [hNR] at HNum
          rw [← hS] at HStr
          rw [show rdB T.1=S.2.end_ by rw [hS,hN];rfl, ← hN, ← hS] at hlk
          have HTL:=Lib.hid hTl
          clear hof hN hNR hS hTl
          by_cases h4:S.2.end_.e≠0
          · rw [if_pos (.inl h4)] at hlk
            have HL:=Lib.hid hlk
            have hz4:((S.2.end_.e:Int) != 0)=true:=by rw [bne_iff_ne];omega
            clear hlk h4
            go_enter Tryz.func45,Tryz.ntmps45
            go_upto_region 1 with fail
            change Code.wp _ _ _ _ (w.alloc (.cells [Value.string nm,.string x,.int .i64 (f.sy:Int)].toArray 101))
            generalize w.alloc (.cells [Value.string nm,.string x,.int .i64 (f.sy:Int)].toArray 101)=w1 at *
            go_upto_region 4 with ((with_reducible refine (HT.out _).mono ?_);rintro e w2 ⟨rfl,hb2⟩;have HB2:=Lib.hid hb2;have k1:=(World.cell?_of_block (hb2.block w.heap.size (cell_lt k1))).trans k1;have k2:=(World.cell?_of_block (hb2.block w.heap.size (cell_lt k2))).trans k2;clear hb2)
            go_wp2_with (first
              | ((with_reducible refine (Hof.out _).mono ?_);rintro e w3 ⟨rfl,hw3⟩
                 have hr3:RdAt w3 w2.heap.size ⟨0,T.1⟩:=⟨by rw [hw3];exact heap_alloc_new _ _,HTL.out⟩
                 have hb3:Below w2.heap.size w2 w3:=by rw [hw3];exact (Below.refl _ _).alloc (Nat.le_refl _) _
                 have hge:w.heap.size≤w2.heap.size:=(HB.out.trans (HB2.out.mono HB.out.size)).size
                 have HW2:=Lib.hid (And.intro (hb3.mono HB2.out.size) (And.intro hr3 hge))
                 clear hr3 hb3 hge hw3
                 generalize w2.heap.size=g2 at *)
              | ((with_reducible refine (HNum.out _ _ HW2.out.2.1).mono ?_);rintro e w4 ⟨rfl,h4⟩;have HW3:=Lib.hid (And.intro trivial h4);clear h4)
              | ((with_reducible refine (HStr.out _ _ HW3.out.2.1).mono ?_);rintro e w5 ⟨rfl,h5⟩;have HW4:=Lib.hid (And.intro trivial h5);clear h5)
              | ((with_reducible refine (HEnd.out _ _ HW4.out.2.1).mono ?_);rintro e w6 ⟨rfl,h6⟩;have HW5:=Lib.hid (And.intro trivial h6);clear h6))
            go_ret2
            rw [HL.out]
            exact ⟨rfl,(HW5.out.2.2.below (HW4.out.2.2.below (HW3.out.2.2.below (HB.out.trans ((HB2.out.trans HW2.out.1).mono HB.out.size)) HW2.out.2.2) HW2.out.2.2) HW2.out.2.2)⟩
          · have hz4:((S.2.end_.e:Int) != 0)=false:=by rw [bne_eq_false_iff_eq];omega
            by_cases h5:N.1≠n
            · rw [if_pos (.inr h5)] at hlk
              have HL:=Lib.hid hlk
              have hz5:((N.1:Int) != (n:Int))=true:=by rw [bne_iff_ne];omega
              clear hlk h4 h5
              go_enter Tryz.func45,Tryz.ntmps45
              go_upto_region 1 with fail
              change Code.wp _ _ _ _ (w.alloc (.cells [Value.string nm,.string x,.int .i64 (f.sy:Int)].toArray 101))
              generalize w.alloc (.cells [Value.string nm,.string x,.int .i64 (f.sy:Int)].toArray 101)=w1 at *
              go_upto_region 4 with ((with_reducible refine (HT.out _).mono ?_);rintro e w2 ⟨rfl,hb2⟩;have HB2:=Lib.hid hb2;have k1:=(World.cell?_of_block (hb2.block w.heap.size (cell_lt k1))).trans k1;have k2:=(World.cell?_of_block (hb2.block w.heap.size (cell_lt k2))).trans k2;clear hb2)
              go_wp2_with (first
                | ((with_reducible refine (Hof.out _).mono ?_);rintro e w3 ⟨rfl,hw3⟩
                   have hr3:RdAt w3 w2.heap.size ⟨0,T.1⟩:=⟨by rw [hw3];exact heap_alloc_new _ _,HTL.out⟩
                   have hb3:Below w2.heap.size w2 w3:=by rw [hw3];exact (Below.refl _ _).alloc (Nat.le_refl _) _
                   have hge:w.heap.size≤w2.heap.size:=(HB.out.trans (HB2.out.mono HB.out.size)).size
                   have HW2:=Lib.hid (And.intro (hb3.mono HB2.out.size) (And.intro hr3 hge))
                   clear hr3 hb3 hge hw3
                   generalize w2.heap.size=g2 at *)
                | ((with_reducible refine (HNum.out _ _ HW2.out.2.1).mono ?_);rintro e w4 ⟨rfl,h4⟩;have HW3:=Lib.hid (And.intro trivial h4);clear h4)
                | ((with_reducible refine (HStr.out _ _ HW3.out.2.1).mono ?_);rintro e w5 ⟨rfl,h5⟩;have HW4:=Lib.hid (And.intro trivial h5);clear h5)
                | ((with_reducible refine (HEnd.out _ _ HW4.out.2.1).mono ?_);rintro e w6 ⟨rfl,h6⟩;have HW5:=Lib.hid (And.intro trivial h6);clear h6))
              go_ret2
              rw [HL.out]
              exact ⟨rfl,(HW5.out.2.2.below (HW4.out.2.2.below (HW3.out.2.2.below (HB.out.trans ((HB2.out.trans HW2.out.1).mono HB.out.size)) HW2.out.2.2) HW2.out.2.2) HW2.out.2.2)⟩
            · rw [if_neg (fun h=>h.elim h4 h5)] at hlk
              have HL:=Lib.hid hlk
              have hz5:((N.1:Int) != (n:Int))=false:=by rw [bne_eq_false_iff_eq];omega
              clear hlk h4 h5
              go_enter Tryz.func45,Tryz.ntmps45
              go_upto_region 1 with fail
              change Code.wp _ _ _ _ (w.alloc (.cells [Value.string nm,.string x,.int .i64 (f.sy:Int)].toArray 101))
              generalize w.alloc (.cells [Value.string nm,.string x,.int .i64 (f.sy:Int)].toArray 101)=w1 at *
              go_upto_region 4 with ((with_reducible refine (HT.out _).mono ?_);rintro e w2 ⟨rfl,hb2⟩;have HB2:=Lib.hid hb2;have k1:=(World.cell?_of_block (hb2.block w.heap.size (cell_lt k1))).trans k1;have k2:=(World.cell?_of_block (hb2.block w.heap.size (cell_lt k2))).trans k2;clear hb2)
              go_wp2_with (first
                | ((with_reducible refine (Hof.out _).mono ?_);rintro e w3 ⟨rfl,hw3⟩
                   have hr3:RdAt w3 w2.heap.size ⟨0,T.1⟩:=⟨by rw [hw3];exact heap_alloc_new _ _,HTL.out⟩
                   have hb3:Below w2.heap.size w2 w3:=by rw [hw3];exact (Below.refl _ _).alloc (Nat.le_refl _) _
                   have hge:w.heap.size≤w2.heap.size:=(HB.out.trans (HB2.out.mono HB.out.size)).size
                   have HW2:=Lib.hid (And.intro (hb3.mono HB2.out.size) (And.intro hr3 hge))
                   clear hr3 hb3 hge hw3
                   generalize w2.heap.size=g2 at *)
                | ((with_reducible refine (HNum.out _ _ HW2.out.2.1).mono ?_);rintro e w4 ⟨rfl,h4⟩;have HW3:=Lib.hid (And.intro trivial h4);clear h4)
                | ((with_reducible refine (HStr.out _ _ HW3.out.2.1).mono ?_);rintro e w5 ⟨rfl,h5⟩;have HW4:=Lib.hid (And.intro trivial h5);clear h5)
                | ((with_reducible refine (HEnd.out _ _ HW4.out.2.1).mono ?_);rintro e w6 ⟨rfl,h6⟩;have HW5:=Lib.hid (And.intro trivial h6);clear h6))
              go_ret2
              rw [HL.out]
              exact ⟨rfl,(HW5.out.2.2.below (HW4.out.2.2.below (HW3.out.2.2.below (HB.out.trans ((HB2.out.trans HW2.out.1).mono HB.out.size)) HW2.out.2.2) HW2.out.2.2) HW2.out.2.2)⟩
end Go.Proofs.YticjodhkmidljaaGreatDoor
namespace Go.Proofs.YticjodhkmidljaaGreatDoor
open Go.RowKit Go.Shelf
attribute [local go_sem] Oper.semAt_some
def encB (x:Nat × FilV):Array Value:=#[.int .u64 (x.1:Int),.agg (filE x.2).toArray]
def baseF (f:FilV):Option (Nat × FilV):=(slotD f.nm).map (fun n=>(n,f))
/-- The base files, by their slots. -/
def baseL (fs:List FilV):List (Nat × FilV):=fs.filterMap baseF
theorem baseL_snoc (l:List FilV) (f:FilV):baseL (l++[f])=baseL l++(baseF f).toList:=by
  unfold baseL
  rw [List.filterMap_append]
  cases h:baseF f <;> simp [h]
theorem baseL_pre {a b:List FilV} (h:a <+: b):baseL a <+: baseL b:=by
  obtain ⟨c,rfl⟩:=h
  unfold baseL
  rw [List.filterMap_append]
  exact List.prefix_append _ _
set_option maxRecDepth 100000 in
theorem bfiles_any (p:Nat) (w:World) :
    Calls Tryz.prog 44 #[.pointer (some ⟨p,0,none⟩)] w fun e w'=>e=.returned (.func (.func 77) #[] #[.pointer (some ⟨w.heap.size,0,none⟩)])∧w'.heap[w.heap.size]?=some (.cells #[.pointer (some ⟨p,0,none⟩)] 46 (0,0))∧Below w.heap.size w w':=by
  go_enter Tryz.func44,Tryz.ntmps44
  go_wp2
  go_ret
  exact ⟨rfl,heap_alloc_new _ _,(Below.refl _ w).alloc (Nat.le_refl _) _⟩
/-- A row of files, as an iterator reads it. -/
theorem files_row {w:World} {base N:Nat} {v:Value} {l:List FilV} (hN:l.length=N) (h:w.ownsRow base 101 3 v N (flat filE l)):∃ A c,v=.slice A N c∧∃ Y:Nat→Prop,(∀ r,Y r→base≤r∧r<w.heap.size) ∧
    ∀ i f,l[i]?=some f→∃ g,A=some ⟨g,0,none⟩∧∀ y,KeptZ Y w y→y.cell? ⟨g,i*3,none⟩=some (.string ⟨f.nm.toArray⟩)∧y.cell? ⟨g,i*3+1,none⟩=some (.string ⟨f.by_.toArray⟩)∧y.cell? ⟨g,i*3+2,none⟩=some (.int .i64 (f.sy:Int)):=by
  rcases h.2 with ⟨rfl,h0⟩ | ⟨g,cap,cur,rfl,hb,hg,hc1,_,hcs,ht⟩
  · have hl:l=[]:=List.length_eq_zero_iff.1 (by omega)
    subst hl
    exact ⟨none,0,by rw [h0],fun _=>False,fun _ h=>h.elim,fun i x hx=>by simp at hx⟩
  · refine ⟨_,_,rfl,fun r=>r=g,fun r hr=>by subst hr;exact ⟨hb,(Array.getElem?_eq_some_iff.1 hg).1⟩,fun i f hf=>⟨g,rfl,fun y hy=>?_⟩⟩
    have hi:i<l.length:=(List.getElem?_eq_some_iff.1 hf).1
    have one:∀ r u,(filE f)[r]?=some u→r<3→y.cell? ⟨g,i*3+r,none⟩=some u:=fun r u hu hr=>by
      have e1:(cur.toList.take (N*3))[i*3+r]?=some u:=by
        rw [ht]
        exact flat_at filE_len l i r f u hf hu
      rw [List.getElem?_take,if_pos (by omega)] at e1
      unfold World.cell?
      rw [hy g _ rfl hg]
      show cur[i*3+r]?=_
      rw [← Array.getElem?_toList]
      exact e1
    exact ⟨one 0 _ rfl (by decide),one 1 _ rfl (by decide),one 2 _ rfl (by decide)⟩
set_option maxRecDepth 100000 in
set_option maxHeartbeats 4000000 in
theorem bfiles_stops (m g0 p b n:Nat) (C:Bs→Nat) (L:List Nat) (D:DskV) (hlen:D.fs.length≤1000000) (hnl:∀ f ∈ D.fs,f.nm.length≤maxLen) (w:World) (h:DskAt w p b n C L D) (hbx:w.heap[g0]?=some (.cells #[.pointer (some ⟨p,0,none⟩)] 46 (0,0))) :
    SeqY Fence.wide m Tryz.prog 77 #[.pointer (some ⟨g0,0,none⟩)] encB (fun ys=>ys=baseL D.fs) (fun pre=>pre <+: baseL D.fs) PV w:=by
  intro l J Jx W hW hJ hJx hRd hY h0
  have hd:=h.below hW
  have cbx:W.cell? ⟨g0,0,none⟩=some (.pointer (some ⟨p,0,none⟩)):=cell_of_row _ _ _ _ _ _ ((hW.block g0 (Array.getElem?_eq_some_iff.1 hbx).1).trans hbx)
  have HF:=Lib.hid (callsIn_wide.1 (files_in p b n C L D hlen W hd))
  have HA:=Lib.hid (And.intro hJ (And.intro hJx (And.intro hRd (And.intro hY h0))))
  have HS:=Lib.hid (And.intro hlen hnl)
  clear h hbx hJ hJx hRd hY h0 hlen hd hW hnl
  refine callsIn_of_wp Tryz.func77 rfl trivial ?_ rfl
  simp only [Tryz.ntmps77,List.size_toArray,List.length_cons,List.length_nil,Nat.reduceAdd,Nat.reduceSub,Array.replicate_succ,Array.replicate_zero,List.push_toArray,List.append_toArray,List.nil_append,List.cons_append]
  gi_wp2_with (first
    | (refine ⟨trivial,(fun h=>(by cases h)),?_⟩;(with_reducible refine (callsIn_wide.2 HF.out).mono ?_);rintro e w1 ⟨v,rfl,k1,k2⟩
       obtain ⟨A,c,rfl,Y,hY1,hY2⟩:=files_row rfl k1
       have HR:=Lib.hid (And.intro hY1 (And.intro hY2 k2));clear k1 k2 hY1 hY2;dsimp only)
    | gi_in)
  have HY:=Lib.hid (show NewY Y W from fun r hr=>(HR.out.1 r hr).1)
  have HYl:=Lib.hid (show ∀ r,Y r→r<w1.heap.size from fun r hr=>(HR.out.1 r hr).2)
  have hbW:=HR.out.2.2
  have HJ1:=Lib.hid (show J Y [] w1 from HA.out.1 Y HY.out [] W w1 none (HA.out.2.2.2.2 Y HY.out) ⟨hbW.os,hbW.tape,hbW.output,hbW.size,fun q hq _=>hbW.block q hq⟩ (fun r e=>by cases e))
  obtain ⟨N,hN⟩:∃ N,N=D.fs.length:=⟨_,rfl⟩
  rw [← hN]
  have HN:=Lib.hid hN
  have hN6:N≤1000000:=by rw [hN];exact HS.out.1
  clear hbW hN
  gi_loopw [10] (fun s10 wr=>∃ i:Nat,s10=.int .i64 (i:Int)∧i≤N∧J Y (baseL (D.fs.take i)) wr∧KeptZ Y w1 wr) (fun s10 _=>N - (intOf s10).toNat)
  case atStart=>exact ⟨0,rfl,Nat.zero_le _,HJ1.out,KeptZ.refl _ _⟩
  case round =>
    obtain ⟨i,rfl,hi,hj,hk⟩:=hrel
    have hpv:=HA.out.2.2.1 Y _ _ hj
    by_cases hiN:i<N
    · have hiI:(i:Int)<(N:Int):=by omega
      have hif:i<D.fs.length:=by rw [← HN.out];exact hiN
      obtain ⟨f,hf⟩:∃ f,f=D.fs[i]:=⟨_,rfl⟩
      have hfm:f ∈ D.fs:=by rw [hf];exact List.getElem_mem hif
      obtain ⟨gk,rfl,hck⟩:=HR.out.2.1 i f (by rw [List.getElem?_eq_getElem hif,hf])
      obtain ⟨q0,q1,q2⟩:=hck wr hk
      have htake:D.fs.take (i+1)=D.fs.take i++[f]:=by rw [List.take_add_one,List.getElem?_eq_getElem hif,hf];rfl
      have hsz:(⟨f.nm.toArray⟩:ByteArray).size≤maxLen:=by simpa [ByteArray.size] using HS.out.2 f hfm
      have HSO:=Lib.hid (fun (y:World) (hy:Below wr.heap.size wr y)=>show Calls Tryz.prog 79 #[.string ⟨f.nm.toArray⟩] y (fun e w'=>e=.returned (.tuple #[.int .u64 (((slotD f.nm).getD 0:Nat):Int),.bool (slotD f.nm).isSome])∧Below y.heap.size y w') from slotOf_any ⟨f.nm.toArray⟩ hsz y (hpv.below hy))
      have HK:=Lib.hid (And.intro hk hj)
      have HT:=Lib.hid (And.intro htake hfm)
      have hw1:wrap64 ((i:Int)+1)=((i+1:Nat):Int):=by unfold wrap64;omega
      clear hk hj hpv hck hf hif hfm htake hsz
      have HB0:=Lib.hid (fun (o:Obj)=>(Below.refl wr.heap.size wr).alloc (Nat.le_refl _) o)
      cases hsl:slotD f.nm with
      | none =>
        rw [hsl] at HSO
        have HBF:=Lib.hid (show baseL (D.fs.take (i+1))=baseL (D.fs.take i) from by rw [HT.out.1,baseL_snoc];unfold baseF;rw [hsl];simp)
        clear hsl
        gi_wp2_with (first
        | (refine ⟨trivial,(fun h=>(by cases h)),?_⟩;(with_reducible refine (callsIn_wide.2 (HSO.out _ (HB0.out _))).mono ?_);rintro e w3 ⟨rfl,hb3⟩
           have hb4:=(HB0.out (.cells (filE f).toArray 101)).trans (hb3.mono (by simp))
           have hr3:w3.heap[wr.heap.size]?=some (.cells (filE f).toArray 101 (0,0)):=(hb3.block wr.heap.size (by simp)).trans (heap_alloc_new wr _)
           have d0:w3.cell? ⟨wr.heap.size,0,none⟩=some (.string ⟨f.nm.toArray⟩):=cell_of_row _ _ 0 _ _ _ hr3
           have d1:w3.cell? ⟨wr.heap.size,1,none⟩=some (.string ⟨f.by_.toArray⟩):=cell_of_row _ _ 1 _ _ _ hr3
           have d2:w3.cell? ⟨wr.heap.size,2,none⟩=some (.int .i64 (f.sy:Int)):=cell_of_row _ _ 2 _ _ _ hr3
           have hj3:J Y (baseL (D.fs.take i)) w3:=HA.out.1 Y HY.out _ wr w3 none HK.out.2 ⟨hb4.os,hb4.tape,hb4.output,hb4.size,fun q hq _=>hb4.block q hq⟩ (fun r e=>by cases e)
           have hk3:KeptZ Y w1 w3:=HK.out.1.trans (fun r o hr ho=>(hb4.block r (Array.getElem?_eq_some_iff.1 ho).1).trans ho)
           have H3:=Lib.hid (And.intro hj3 hk3)
           clear hb3 hb4 hr3 hj3 hk3
           dsimp only)
        | gi_in)
        refine ⟨fun _ h=>(by cases h),?_⟩
        gi_wp2
        exact ⟨⟨i+1,by rw [Int.natCast_add];rfl,by omega,by rw [HBF.out];exact H3.out.1,H3.out.2⟩,by simp only [intOf];omega⟩
      | some sn =>
        rw [hsl] at HSO
        have HBF:=Lib.hid (show baseL (D.fs.take (i+1))=baseL (D.fs.take i)++[(sn,f)] from by rw [HT.out.1,baseL_snoc];unfold baseF;rw [hsl];rfl)
        have HYF:=Lib.hid (fun (y:World) (hj:J Y (baseL (D.fs.take i)) y) (hk:KeptZ Y w1 y)=>HA.out.2.2.2.1 Y (baseL (D.fs.take i)) (sn,f) y HY.out hj (fun r hr=>hk.lt hr (HYl.out r hr)) (by rw [← HBF.out];exact baseL_pre (List.take_prefix _ _)))
        clear hsl
        gi_wp2_with (first
        | (refine ⟨trivial,(fun h=>(by cases h)),?_⟩;(with_reducible refine (callsIn_wide.2 (HSO.out _ (HB0.out _))).mono ?_);rintro e w3 ⟨rfl,hb3⟩
           have hb4:=(HB0.out (.cells (filE f).toArray 101)).trans (hb3.mono (by simp))
           have hr3:w3.heap[wr.heap.size]?=some (.cells (filE f).toArray 101 (0,0)):=(hb3.block wr.heap.size (by simp)).trans (heap_alloc_new wr _)
           have d0:w3.cell? ⟨wr.heap.size,0,none⟩=some (.string ⟨f.nm.toArray⟩):=cell_of_row _ _ 0 _ _ _ hr3
           have d1:w3.cell? ⟨wr.heap.size,1,none⟩=some (.string ⟨f.by_.toArray⟩):=cell_of_row _ _ 1 _ _ _ hr3
           have d2:w3.cell? ⟨wr.heap.size,2,none⟩=some (.int .i64 (f.sy:Int)):=cell_of_row _ _ 2 _ _ _ hr3
           have hj3:J Y (baseL (D.fs.take i)) w3:=HA.out.1 Y HY.out _ wr w3 none HK.out.2 ⟨hb4.os,hb4.tape,hb4.output,hb4.size,fun q hq _=>hb4.block q hq⟩ (fun r e=>by cases e)
           have hk3:KeptZ Y w1 w3:=HK.out.1.trans (fun r o hr ho=>(hb4.block r (Array.getElem?_eq_some_iff.1 ho).1).trans ho)
           have H3:=Lib.hid (And.intro hj3 hk3)
           clear hb3 hb4 hr3 hj3 hk3
           obtain ⟨fn,tmps,assign,body,hy,hR⟩:=HYF.out w3 H3.out.1 H3.out.2
           have HRn:=Lib.hid hR
           clear hR
           rw [show encB (sn,f)=#[.int .u64 (sn:Int),.agg #[.string ⟨f.nm.toArray⟩,.string ⟨f.by_.toArray⟩,.int .i64 (f.sy:Int)]] from rfl] at hy
           dsimp only)
        | gi_in)
        refine ⟨fun h=>(by cases h),HRn.out.mono ?_⟩
        rintro e W3 (⟨rfl,hJ3,hk4⟩ | ⟨rfl,hJ3,_⟩)
        · have H5:=Lib.hid (And.intro hJ3 (H3.out.2.trans hk4))
          clear hJ3 hk4
          dsimp only
          gi_wp2
          exact ⟨⟨i+1,by rw [Int.natCast_add];rfl,by omega,by rw [HBF.out];exact H5.out.1,H5.out.2⟩,by simp only [intOf];omega⟩
        · have H5:=Lib.hid hJ3
          clear hJ3
          dsimp only
          gi_wp2
          refine bodyPost_ret (results_none rfl _ _ _) rfl ?_
          exact ⟨⟨_,rfl⟩,Y,HY.out,.inr ⟨_,by rw [← HBF.out];exact baseL_pre (List.take_prefix _ _),H5.out⟩⟩
    · have hiI : ¬ (i:Int)<(N:Int):=by omega
      have hie:i=N:=by omega
      have hjN:J Y (baseL D.fs) wr:=by rw [hie,HN.out,List.take_length] at hj;exact hj
      have H3:=Lib.hid hjN
      clear hj hpv hk hjN hie
      gi_wp2
      go_end0
      exact ⟨⟨_,rfl⟩,Y,HY.out,.inl H3.out⟩
end Go.Proofs.YticjodhkmidljaaGreatDoor
namespace Go.Proofs.YticjodhkmidljaaGreatDoor
abbrev BsF:=List (Nat × FilV)
def lkN (x:Nat × FilV):Nat:=(lookD x.1 x.2).1
theorem lk_cases (n:Nat) (f:FilV):((lookD n f).1=0∧(lookD n f).2=[])∨(lookD n f).1=1∨((lookD n f).1=2∧(lookD n f).2=[]):=by
  unfold lookD
  split
  · exact .inl ⟨rfl,rfl⟩
  · split
    · exact .inr (.inr ⟨rfl,rfl⟩)
    · split
      · exact .inr (.inr ⟨rfl,rfl⟩)
      · exact .inr (.inl rfl)
def youngN (B:BsF):List Bs:=(B.filter (fun x=>decide (lkN x=0))).map (fun x=>x.2.nm)
def goodN (B:BsF):List Bs:=(B.filter (fun x=>decide (lkN x=1))).map (fun x=>x.2.nm)
/-- The slot and the text of the last good base. -/
def lastG (B:BsF):Nat × Bs:=B.foldl (fun a x=>if lkN x=1 then (x.1,(lookD x.1 x.2).2) else a) (0,[])
def spoilt (B:BsF):Prop:=∃ x ∈ B,lkN x=2
def rmN (B:BsF):List Bs:=youngN B++(goodN B).dropLast
def rems (D:DskV) (l:List Bs):DskV:=l.foldl (fun D nm=>(remD D nm).1) D
theorem lastG_snoc (B:BsF) (x:Nat × FilV):lastG (B++[x])=if lkN x=1 then (x.1,(lookD x.1 x.2).2) else lastG B:=by
  unfold lastG
  rw [List.foldl_append]
  rfl
theorem youngN_snoc (B:BsF) (x:Nat × FilV):youngN (B++[x])=if lkN x=0 then youngN B++[x.2.nm] else youngN B:=by
  unfold youngN
  rw [List.filter_append]
  by_cases h:lkN x=0 <;> simp [h]
theorem goodN_snoc (B:BsF) (x:Nat × FilV):goodN (B++[x])=if lkN x=1 then goodN B++[x.2.nm] else goodN B:=by
  unfold goodN
  rw [List.filter_append]
  by_cases h:lkN x=1 <;> simp [h]
theorem youngN_len (B:BsF):(youngN B).length≤B.length:=by unfold youngN;rw [List.length_map];exact List.length_filter_le _ _
theorem goodN_len (B:BsF):(goodN B).length≤B.length:=by unfold goodN;rw [List.length_map];exact List.length_filter_le _ _
theorem base_mem {fs:List FilV} {x:Nat × FilV} (h:x ∈ baseL fs):x.2 ∈ fs∧slotD x.2.nm=some x.1:=by
  obtain ⟨f,hf,he⟩:=List.mem_filterMap.1 h
  unfold baseF at he
  cases hs:slotD f.nm with
  | none=>rw [hs] at he;cases he
  | some n=>rw [hs] at he;cases he;exact ⟨hf,hs⟩
theorem base_rise {fs:List FilV} (h:Rise fs):(baseL fs).Pairwise (fun x y=>x.2.nm<y.2.nm):=by
  unfold baseL
  refine List.Pairwise.filterMap baseF ?_ h
  intro a b hab x hx y hy
  unfold baseF at hx hy
  cases ha:slotD a.nm with
  | none=>rw [ha] at hx;cases hx
  | some n =>
    cases hb:slotD b.nm with
    | none=>rw [hb] at hy;cases hy
    | some m =>
      rw [ha] at hx
      rw [hb] at hy
      cases hx
      cases hy
      exact hab
theorem base_uniq:∀ {B:BsF},B.Pairwise (fun x y=>x.2.nm<y.2.nm)→∀ {x y:Nat × FilV},x ∈ B→y ∈ B→x.2.nm=y.2.nm→x=y
  | z::r,h,x,y,hx,hy,e=>by
    obtain ⟨h1,h2⟩:=List.pairwise_cons.1 h
    rcases List.mem_cons.1 hx with rfl | hx2 <;> rcases List.mem_cons.1 hy with rfl | hy2
    · rfl
    · have:=h1 y hy2
      rw [e] at this
      exact (List.lt_irrefl _ this).elim
    · have:=h1 x hx2
      rw [← e] at this
      exact (List.lt_irrefl _ this).elim
    · exact base_uniq h2 hx2 hy2 e
theorem nms_nodup {B:BsF} (h:B.Pairwise (fun x y=>x.2.nm<y.2.nm)):(youngN B).Nodup∧(goodN B).Nodup∧∀ a ∈ youngN B,a ∉ goodN B:=by
  have ne:∀ {x y:Nat × FilV},x ∈ B→y ∈ B→x.2.nm=y.2.nm→x=y:=fun hx hy e=>base_uniq h hx hy e
  have nd:∀ q:Nat × FilV→Bool,((B.filter q).map (fun x=>x.2.nm)).Nodup:=fun q=>by
    refine List.pairwise_map.2 ((h.filter q).imp (fun {a b} (hab:a.2.nm<b.2.nm) (e:a.2.nm=b.2.nm)=>by rw [e] at hab;exact List.lt_irrefl _ hab))
  refine ⟨nd _,nd _,fun a ha hb=>?_⟩
  obtain ⟨x,hx,rfl⟩:=List.mem_map.1 ha
  obtain ⟨y,hy,e⟩:=List.mem_map.1 hb
  obtain ⟨x1,x2⟩:=List.mem_filter.1 hx
  obtain ⟨y1,y2⟩:=List.mem_filter.1 hy
  have:=ne y1 x1 e
  subst this
  simp only [decide_eq_true_eq] at x2 y2
  omega
theorem rmN_nodup {B:BsF} (h:B.Pairwise (fun x y=>x.2.nm<y.2.nm)):(rmN B).Nodup:=by
  obtain ⟨h1,h2,h3⟩:=nms_nodup h
  unfold rmN
  exact List.nodup_append.2 ⟨h1,h2.sublist (List.dropLast_sublist _),fun a ha b hb e=>h3 a ha (e ▸ List.dropLast_subset _ hb)⟩
theorem rmN_mem {fs:List FilV} {nm:Bs} (h:nm ∈ rmN (baseL fs)):∃ f ∈ fs,f.nm=nm:=by
  unfold rmN at h
  have key:∀ q:Nat × FilV→Bool,nm ∈ ((baseL fs).filter q).map (fun x=>x.2.nm)→∃ f ∈ fs,f.nm=nm:=fun q hq=>by
    obtain ⟨x,hx,rfl⟩:=List.mem_map.1 hq
    exact ⟨x.2,(base_mem (List.mem_filter.1 hx).1).1,rfl⟩
  rcases List.mem_append.1 h with h | h
  · exact key _ h
  · exact key _ (List.dropLast_subset _ h)
theorem rems_cons (D:DskV) (nm:Bs) (l:List Bs):rems D (nm::l)=rems (remD D nm).1 l:=rfl
theorem rems_snoc (D:DskV) (l:List Bs) (nm:Bs):rems D (l++[nm])=(remD (rems D l) nm).1:=by unfold rems;rw [List.foldl_append];rfl
theorem rem_one {D:DskV} {nm:Bs} {f:FilV} (hd:D.dead=false) (hf:findF nm D.fs=some f):remD D nm=({ D with fs:=delF nm D.fs,room:=D.room+f.by_.length },0):=by
  unfold remD
  rw [with_some hd hf]
theorem rems_spec (l:List Bs):∀ (D:DskV),D.dead=false→l.Nodup→(∀ nm ∈ l,∃ f ∈ D.fs,f.nm=nm) →
    (rems D l).dead=false∧(rems D l).fuse=D.fuse∧(rems D l).fs=D.fs.filter (fun f=>decide (f.nm ∉ l)):=by
  induction l with
  | nil =>
    intro D hd _ _
    refine ⟨hd,rfl,?_⟩
    show D.fs=_
    rw [List.filter_eq_self.2]
    simp
  | cons nm l ih =>
    intro D hd hn hm
    obtain ⟨hn1,hn2⟩:=List.nodup_cons.1 hn
    obtain ⟨f,hf,rfl⟩:=hm nm (List.mem_cons_self ..)
    have hs:(findF f.nm D.fs).isSome=true:=find_some.2 (List.mem_map.2 ⟨f,hf,rfl⟩)
    obtain ⟨g,hg⟩:=Option.isSome_iff_exists.1 hs
    rw [rems_cons,rem_one hd hg]
    obtain ⟨i1,i2,i3⟩:=ih { D with fs:=delF f.nm D.fs,room:=D.room+g.by_.length } hd hn2 (fun q hq=>by
      obtain ⟨x,hx,rfl⟩:=hm q (List.mem_cons_of_mem _ hq)
      exact ⟨x,List.mem_filter.2 ⟨hx,by simpa using fun e=>hn1 (by rw [← e];exact hq)⟩,rfl⟩)
    refine ⟨i1,i2,?_⟩
    rw [i3]
    show (delF f.nm D.fs).filter _=_
    unfold delF
    rw [List.filter_filter]
    congr 1
    funext x
    simp [Bool.and_comm]
theorem rems_find {D:DskV} {l:List Bs} {nm:Bs} {k:Nat} (hd:D.dead=false) (hn:l.Nodup) (hm:∀ nm ∈ l,∃ f ∈ D.fs,f.nm=nm) (hk:k<l.length) (hnm:nm=l[k]):∃ f,findF nm (rems D (l.take k)).fs=some f∧(rems D (l.take k)).dead=false:=by
  obtain ⟨h1,_,h3⟩:=rems_spec (l.take k) D hd (hn.sublist (List.take_sublist _ _)) (fun q hq=>hm q (List.take_subset _ _ hq))
  obtain ⟨f,hf,hfn⟩:=hm nm (by rw [hnm];exact List.getElem_mem hk)
  have hnot:nm ∉ l.take k:=by
    have h2:l=l.take k++l.drop k:=(List.take_append_drop k l).symm
    rw [h2] at hn
    intro hq
    exact (List.nodup_append.1 hn).2.2 nm hq nm (by rw [hnm,List.drop_eq_getElem_cons hk];exact List.mem_cons_self ..) rfl
  have hs:(findF nm (rems D (l.take k)).fs).isSome=true:=find_some.2 (by
    rw [h3]
    exact List.mem_map.2 ⟨f,List.mem_filter.2 ⟨hf,by simpa [hfn] using hnot⟩,hfn⟩)
  obtain ⟨g,hg⟩:=Option.isSome_iff_exists.1 hs
  exact ⟨g,hg,h1⟩
end Go.Proofs.YticjodhkmidljaaGreatDoor
namespace Go.Proofs.YticjodhkmidljaaGreatDoor
open Go Go.RowKit
variable {F : Fence} {n : Nat} {P : Program}
theorem wpIn_rangeYB {α:Type} {g:Operand} {ps:Array Tmp} {assign body:Code} {Q:Exit→Act→World→Prop} {a:Act} {w:World}
    (hro:F.round=none) (h1:1≤n) {gf:Nat} {lb:Array Value} (hg:a.eval g=.func (.func gf) #[] lb) (hFg:F.fn gf) (eg:∀ args w,(callFunc gf args).run P w=.ok (.enter gf args) w)
    {encs:α→Array Value} {S Sp:List α→Prop} {Rd:World→Prop} {w0:World} (hseq:SeqY F (n - 1) P gf lb encs S Sp Rd w0) (hb0:Below w0.heap.size w0 w) (hps:∀ x,(encs x).size=ps.size)
    (I:(Nat→Prop)→List α→World→Prop) (Ix:(Nat→Prop)→Code→List α→World→Prop) (hI:∀ Y,NewY Y w→AbidesZ Y (I Y)) (hIx:∀ Y,NewY Y w→∀ c,AbidesZ Y (Ix Y c)) (hRd:∀ Y pre W,I Y pre W→Rd W)
    (h0:∀ Y,NewY Y w→I Y [] w)
    (hround:∀ (l:Nat) (Y:Nat→Prop) (pre:List α) (x:α) (W:World),NewY Y w→Y (w.heap.size+1)→(∀ r,Y r→r<W.heap.size)→I Y pre W→Sp (pre++[x]) →
      assign.wpIn (F.inRound l) (n - 1 - 1) P (Exit.then (fun a W1=>KeptZ Y W W1∧∀ o,body.wpIn (F.inRound l) (n - 1 - 1) P (ownPostZ Y (I Y) (Ix Y) (pre++[x]) (W1.putObj (w.heap.size+1) o)) a (W1.putObj (w.heap.size+1) o)) (fun _ _ _=>False)) { tmps:=(ps.zip (encs x)).foldl (fun t (p,v)=>t.setIfInBounds p v) a.tmps,defers:=[] } W)
    (hdone:∀ (Y:Nat→Prop) (xs:List α) (W:World),NewY Y w→Y w.heap.size→S xs→I Y xs W→W.heap[w.heap.size]?=some (.deferred (some []))→Q .normal { a with defers:={ target:=.collected w.heap.size,args:=#[] }::a.defers } W)
    (hstop:∀ (Y:Nat→Prop) (c:Code) (pre:List α) (W:World),NewY Y w→Y w.heap.size→Sp pre→Ix Y c pre W→W.heap[w.heap.size]?=some (.deferred (some []))→c.wpIn F n P Q { a with defers:={ target:=.collected w.heap.size,args:=#[] }::a.defers } W) :
    (Code.rangeFunc g ps assign body).wpIn F n P Q a w:=by
  refine wpIn_rangeFunc (fun fn hfn=>?_)
  rw [hro]
  have hDd:∀ {X:Nat→Prop},NewY X w→∀ r,X r→w.heap.size≤r:=fun h r hr=>h r hr
  generalize hD:w.heap.size=D at *
  let rec0:LoopState→Option Code→Obj:=fun st pe=>.loop { state:=st,pending:=pe,fn,tmps:=a.tmps,params:=ps,assign,body,defers:=D }
  let V:=(w.alloc (.deferred (some []))).alloc (rec0 .ready none)
  have sV:V.heap.size=D+2:=by simp [V,hD]
  have rV:V.heap[D+1]?=some (rec0 .ready none):=by
    have h:=World.alloc_heap_new (w.alloc (.deferred (some []))) (rec0 .ready none)
    rwa [World.size_alloc,hD] at h
  have dV:V.heap[D]?=some (.deferred (some [])):=by
    have h:=World.alloc_heap_new w (.deferred (some []))
    rw [hD] at h
    exact (Below.heap_alloc _ _ _ (by rw [World.size_alloc];omega)).trans h
  have bw:Below w.heap.size w V:=((Below.refl _ w).alloc (Nat.le_refl _) _).alloc (by simp) _
  have bV:Below w0.heap.size w0 V:=hb0.trans (bw.mono hb0.size)
  let Zo:(Nat→Prop)→Nat→Prop:=fun Y r=>Y r∨r=D∨r=D+1
  have zN:∀ Y,NewY Y V→NewY (Zo Y) w:=fun Y hY r hr=>by
    rcases hr with h | h | h
    · have:=hY r h;omega
    · omega
    · omega
  have iV:∀ Y,NewY Y V→I (Zo Y) [] V:=fun Y hY=>hI _ (zN Y hY) _ _ _ none (h0 _ (zN Y hY)) ⟨bw.os,bw.tape,bw.output,bw.size,fun q hq _=>bw.block q hq⟩ (fun r e=>by cases e)
  have turn:∀ {β:Type} {Y:Nat→Prop} {J:β→World→Prop} (_:AbidesZ (Zo Y) J) {s:β} {A:World} (o:Obj),J s A→J s (A.putObj (D+1) o):=@fun β Y J hJ s A o h=>hJ s A _ (some (D+1)) h (grownBy_putObj' A (D+1) o) (fun r e=>by cases e;exact .inr (.inr rfl))
  refine ⟨D+1,[{ target:=.collected D,args:=#[] }],V,{ target:=.fn (.func gf) lb,args:=#[.func (.yield (D+1)) #[] #[]] },V,gf,#[.func (.yield (D+1)) #[] #[]]++lb,V,?_,?_,?_,?_,fun _=>h1,?_⟩
  · subst hD;exact run_enterLoop_outer _ _ _ _ _
  · simp only [resolve,hg];simp [go_sem]
  · intro f' hf';simp [Target.leads] at hf';subst hf';exact hFg
  · simp [invoke,go_sem,eg]
  have yD:∀ {Y:Nat→Prop},NewY Y V → ¬ Y D:=fun hY h=>by have:=hY _ h;omega
  have yL:∀ {Y:Nat→Prop},NewY Y V → ¬ Y (D+1):=fun hY h=>by have:=hY _ h;omega
  have abide:∀ {Y:Nat→Prop} {A B:World} {row:Option Nat} {q:Nat} {o:Obj},A.grownBy B row→(∀ r,row=some r→Y r) → ¬ Y q→A.heap[q]?=some o→B.heap[q]?=some o:=fun hg hr hq h =>
    (hg.block _ (Array.getElem?_eq_some_iff.1 h).1 (fun e=>hq (hr _ e.symm))).trans h
  refine (hseq (D+1) (fun Y pre W=>I (Zo Y) pre W∧W.heap[D+1]?=some (rec0 .ready none)∧W.heap[D]?=some (.deferred (some [])))
    (fun Y pre W=>∃ c,Ix (Zo Y) c pre W∧W.heap[D+1]?=some (rec0 .done (some c))∧W.heap[D]?=some (.deferred (some []))) V bV
    (fun Y hY s A B row hs hg' hr=>⟨hI _ (zN Y hY) s A B row hs.1 hg' (fun r e=>.inl (hr r e)),abide hg' hr (yL hY) hs.2.1,abide hg' hr (yD hY) hs.2.2⟩)
    (fun Y hY s A B row hs hg' hr=>hs.elim fun c hc=>⟨c,hIx _ (zN Y hY) c s A B row hc.1 hg' (fun r e=>.inl (hr r e)),abide hg' hr (yL hY) hc.2.1,abide hg' hr (yD hY) hc.2.2⟩)
    (fun Y pre W1 h=>hRd _ _ _ h.1) ?_ (fun Y hY=>⟨iV Y hY,rV,dV⟩)).mono ?_
  · rintro Y pre x W hY ⟨hi,hl,hk⟩ hsz hSp
    have hlt:D+1<W.heap.size:=(Array.getElem?_eq_some_iff.1 hl).1
    have hItu:=hI _ (zN Y hY)
    have hIxu:=hIx _ (zN Y hY)
    have zD:Zo Y D:=.inr (.inl rfl)
    have zL:Zo Y (D+1):=.inr (.inr rfl)
    have hzz:∀ r,Zo Y r→r<W.heap.size:=fun r hr=>by
      rcases hr with h | h | h
      · exact hsz r h
      · omega
      · omega
    refine ⟨fn,_,assign,body,run_yield (P:=P) (args:=encs x) hl (hps x),roundIn_of_wpIn hfn (wpIn_mono (hround (D+1) (Zo Y) pre x W (zN Y hY) zL hzz hi hSp) (fun e a1 W1 he=>?_))⟩
    cases e with
    | normal =>
      obtain ⟨k1,hbd⟩:=he
      have hl1:=k1 _ _ zL hl
      have hk1:=k1 _ _ zD hk
      have hlt1:D+1<W1.heap.size:=(Array.getElem?_eq_some_iff.1 hl1).1
      refine ⟨_,run_beginRound hl1 rfl,wpIn_mono (hbd _) ?_⟩
      generalize hW2:W1.putObj (D+1) _=W2
      have hl2:W2.heap[D+1]?=some (rec0 .busy none):=by rw [← hW2];exact World.putObj_heap_same hlt1
      have hk2:W2.heap[D]?=some (.deferred (some [])):=by rw [← hW2];exact (World.putObj_heap_other (by omega)).trans hk1
      have ky:KeptZ Y W W2:=by rw [← hW2];exact (k1.sub (fun r hr=>.inl hr)).trans (KeptZ.put (yL hY) _)
      have yZ:∀ r,Y r→Zo Y r:=fun r hr=>.inl hr
      have fin:∀ (jump:Option Code) (W3:World),KeptZ (Zo Y) W2 W3→W3.heap[D+1]?=some (rec0 .busy none)∧W3.heap[D]?=some (.deferred (some [])) ∧
          (Instr.endRound (D+1) jump).run P W3=.ok (.bool jump.isNone) (W3.putObj (D+1) (rec0 (if jump.isNone then .ready else .done) jump)):=fun jump W3 k3 =>
        ⟨k3 _ _ zL hl2,k3 _ _ zD hk2,run_endRound (P:=P) jump (k3 _ _ zL hl2)⟩
      have rest:∀ (st:LoopState) (pe:Option Code) (W3:World),W3.heap[D+1]?=some (rec0 .busy none)→W3.heap[D]?=some (.deferred (some [])) →
          (W3.putObj (D+1) (rec0 st pe)).heap[D+1]?=some (rec0 st pe)∧(W3.putObj (D+1) (rec0 st pe)).heap[D]?=some (.deferred (some [])):=fun st pe W3 h2 h3 =>
        ⟨World.putObj_heap_same (Array.getElem?_eq_some_iff.1 h2).1,(World.putObj_heap_other (by omega)).trans h3⟩
      intro e2 a3 W3 hp
      cases e2 with
      | normal =>
        obtain ⟨k3,i3⟩:=hp
        obtain ⟨h2,h3,hrun⟩:=fin none W3 k3
        exact ⟨_,_,hrun,.inl ⟨rfl,⟨turn hItu _ i3,rest _ _ _ h2 h3⟩,(ky.trans (k3.sub yZ)).trans (KeptZ.put (yL hY) _)⟩⟩
      | ret =>
        obtain ⟨h2,h3,hrun⟩:=fin (some .ret) W3 hp.1
        exact ⟨_,_,hrun,.inr ⟨rfl,⟨.ret,turn (hIxu _) _ hp.2,rest _ _ _ h2 h3⟩,(ky.trans (hp.1.sub yZ)).trans (KeptZ.put (yL hY) _)⟩⟩
      | exit id =>
        obtain ⟨h2,h3,hrun⟩:=fin (some (.exit id)) W3 hp.1
        exact ⟨_,_,hrun,.inr ⟨rfl,⟨.exit id,turn (hIxu _) _ hp.2,rest _ _ _ h2 h3⟩,(ky.trans (hp.1.sub yZ)).trans (KeptZ.put (yL hY) _)⟩⟩
      | goto t =>
        obtain ⟨h2,h3,hrun⟩:=fin (some (.goto t)) W3 hp.1
        exact ⟨_,_,hrun,.inr ⟨rfl,⟨.goto t,turn (hIxu _) _ hp.2,rest _ _ _ h2 h3⟩,(ky.trans (hp.1.sub yZ)).trans (KeptZ.put (yL hY) _)⟩⟩
      | panic ch=>exact hp.elim
      | outgrown=>exact hp.elim
    | exit id=>exact he.elim
    | goto t=>exact he.elim
    | ret=>exact he.elim
    | panic ch=>exact he.elim
    | outgrown=>exact he.elim
  · rintro e W2 ⟨⟨v,rfl⟩,Y,hY,(⟨xs,hS,hi,hl,hk⟩ | ⟨pre,hSp,c,hi,hl,hk⟩)⟩
    · exact ⟨none,_,run_endLoop (P:=P) hl (by simp),hdone (Zo Y) xs _ (zN Y hY) (.inr (.inl rfl)) hS (turn (hI _ (zN Y hY)) _ hi) ((World.putObj_heap_other (by omega)).trans hk)⟩
    · exact ⟨some c,_,run_endLoop (P:=P) hl (by simp),hstop (Zo Y) c pre _ (zN Y hY) (.inr (.inl rfl)) hSp (turn (hIx _ (zN Y hY) c) _ hi) ((World.putObj_heap_other (by omega)).trans hk)⟩
end Go.Proofs.YticjodhkmidljaaGreatDoor
namespace Go.Proofs.YticjodhkmidljaaGreatDoor
open Go Go.RowKit
theorem append_where {P:Program} (w:World) (base:Nat) (t ty e:TypeId) (i:TypeInfo) (z:Value) (size bytes:Nat) (ht:P.underlying t=some (.slice e)) (hi:P.info? e=some i) (hz:i.zero=some z)
    (hsize:i.size=size) (hby:i.bytes=bytes) (hzs:z.cells.size=size) (hsz:0<size) (v:Value) (n:Nat) (xs:List Value) (hown:w.ownsRow base e size v n xs)
    (a:Addr) (m c:Nat) (news:List Value) (hl:news.length=m*size) (hnews:∀ j u,news[j]?=some u→w.cell? (a.add j)=some u) (h1:∀ u ∈ news,u.oneCell'=true)
    (h63:n+m≤maxLen) (hbytes:(n+m)*bytes≤140737488355328) {v':Value} {w':World} (hr:(Builtin.append_ #[t,t] ty #[v,.slice (some a) m c]).run P w=.ok v' w') :
    ∀ k,v'.ownBlock=some k→v.ownBlock=some k∨w.heap.size≤k:=by
  intro k hk
  have h63':=h63
  simp only [maxLen] at h63'
  rcases hown.2 with ⟨rfl,rfl⟩ | ⟨g,cap,cur,rfl,hbg,hg,hnc,hcm,hcs,htake⟩
  · have hx:xs=[]:=List.eq_nil_of_length_eq_zero (by simpa using hown.1)
    subst hx
    obtain ⟨v2,w2,hr2,ho2,_,_⟩:=run_append_own (P:=P) w w.heap.size t ty e i z size bytes ht hi hz hsize hby hzs hsz (.slice none 0 0) 0 [] (World.ownsRow_nil _ _ _ _) a m c news hl hnews h1 h63 hbytes (Nat.le_refl _)
    rw [hr] at hr2
    injection hr2 with e1 e2
    subst e1
    exact .inr (ho2.lt k hk).1
  · subst hsize
    by_cases hroom:n+m≤cap
    · have hfit:n*i.size+news.length≤cur.size:=by rw [hl,hcs, ← Nat.add_mul];exact Nat.mul_le_mul_right _ hroom
      have h2:=run_append_room (P:=P) w t ty e i ht hi g n cap cur hg a m c news hl hnews h1 hroom hfit
      rw [hr] at h2
      injection h2 with e1 e2
      subst e1
      exact .inl hk
    · have holds:∀ j u,xs[j]?=some u→w.cell? ((⟨g,0,none⟩:Addr).add j)=some u:=hown.cells (g:=g) rfl
      subst hby
      have h2:=run_append_grow (P:=P) w t ty e i z ht hi hz ⟨g,0,none⟩ n cap xs hown.1 holds a m c news hl hnews (by omega) (by omega) (growslice_fits (by omega) hbytes)
      rw [hr] at h2
      injection h2 with e1 e2
      subst e1
      simp [Value.ownBlock] at hk
      exact .inr (by omega)
theorem opIn_append2 {F:Fence} {n:Nat} {P:Program} (w:World) {o:Oper} {a:Act} {K:Act→World→Prop} {Q:Exit→Act→World→Prop}
    (s x:Operand) (t:TypeId) (hop:o.op=Op.call { callee:=Callee.builtin Builtin.append,args:=#[s,x],argTypes:=#[t,t] })
    (base:Nat) (e:TypeId) (i:TypeInfo) (z:Value) (size bytes:Nat) (h1:P.underlying t=some (.slice e)) (h2:P.info? e=some i) (h3:i.zero=some z) (h4:i.size=size) (h5:i.bytes=bytes) (h6:z.cells.size=size) (h7:0<size)
    (v:Value) (k:Nat) (xs:List Value) (hs:a.eval s=v) (hown:w.ownsRow base e size v k xs) (ad:Addr) (m c:Nat) (news:List Value) (hx:a.eval x=.slice (some ad) m c) (hn:news.length=m*size)
    (hc:∀ j u,news[j]?=some u→w.cell? (ad.add j)=some u) (h1c:∀ u ∈ news,u.oneCell'=true) (b1:k+m≤maxLen) (b2:(k+m)*bytes≤140737488355328) (b3:base≤w.heap.size)
    (hK:∀ v' w',w'.ownsRow base e size v' (k+m) (xs++news)→w.grownBy w' v.ownBlock→(∀ q,v'.ownBlock=some q→v.ownBlock=some q∨w.heap.size≤q)→K (a.put o.dst v') w') :
    o.wpIn F n P a w K Q:=by
  obtain ⟨v',w',hrun,r1,r2,r3⟩:=run_append_own (P:=P) w base t o.type e i z size bytes h1 h2 h3 h4 h5 h6 h7 v k xs hown ad m c news hn hc h1c b1 b2 b3
  have r4:=append_where (P:=P) w base t o.type e i z size bytes h1 h2 h3 h4 h5 h6 h7 v k xs hown ad m c news hn hc h1c b1 b2 hrun
  unfold Oper.wpIn
  refine ⟨?_,?_⟩
  · simp [Oper.about,hop,resolve,Target.leads,Sem.run_pure]
  · rw [Oper.semAt_plain F _ _ (by rw [hop];intro c hc';cases hc')]
    simp [execOp,hop,resolve,invoke,builtin,hs,hx,hrun,Result.andThen]
    exact hK v' w' r1 r2 r4
theorem wpListIn_append2 {F:Fence} {n:Nat} {P:Program} (w:World) {ops:Array Oper} {rest:List Oper} {o:Oper} {a:Act} {Q:Exit→Act→World→Prop} (hg:o.guard=none)
    (s x:Operand) (t:TypeId) (hop:o.op=Op.call { callee:=Callee.builtin Builtin.append,args:=#[s,x],argTypes:=#[t,t] })
    (base:Nat) (e:TypeId) (i:TypeInfo) (z:Value) (size bytes:Nat) (h1:P.underlying t=some (.slice e)) (h2:P.info? e=some i) (h3:i.zero=some z) (h4:i.size=size) (h5:i.bytes=bytes) (h6:z.cells.size=size) (h7:0<size)
    (v:Value) (k:Nat) (xs:List Value) (hs:a.eval s=v) (hown:w.ownsRow base e size v k xs) (ad:Addr) (m c:Nat) (news:List Value) (hx:a.eval x=.slice (some ad) m c) (hn:news.length=m*size)
    (hc:∀ j u,news[j]?=some u→w.cell? (ad.add j)=some u) (h1c:∀ u ∈ news,u.oneCell'=true) (b1:k+m≤maxLen) (b2:(k+m)*bytes≤140737488355328) (b3:base≤w.heap.size)
    (hK:∀ v' w',w'.ownsRow base e size v' (k+m) (xs++news)→w.grownBy w' v.ownBlock→(∀ q,v'.ownBlock=some q→v.ownBlock=some q∨w.heap.size≤q)→wpListIn F n P ops Q rest (a.put o.dst v') w') :
    wpListIn F n P ops Q (o::rest) a w :=
  wpListIn_plain hg fun _ hK'=>opIn_append2 w s x t hop base e i z size bytes h1 h2 h3 h4 h5 h6 h7 v k xs hs hown ad m c news hx hn hc h1c b1 b2 b3 (fun v' w' q1 q2 q3=>hK' _ _ (hK v' w' q1 q2 q3))
theorem wpListIn_append0 {F:Fence} {n:Nat} {P:Program} (w:World) {ops:Array Oper} {rest:List Oper} {o:Oper} {a:Act} {Q:Exit→Act→World→Prop} (hg:o.guard=none)
    (s x:Operand) (t:TypeId) (hop:o.op=Op.call { callee:=Callee.builtin Builtin.append,args:=#[s,x],argTypes:=#[t,t] })
    (base:Nat) (e:TypeId) (i:TypeInfo) (size:Nat) (h1:P.underlying t=some (.slice e)) (h2:P.info? e=some i) (v:Value) (k:Nat) (xs:List Value) (hs:a.eval s=v) (hown:w.ownsRow base e size v k xs) (hx:a.eval x=.slice none 0 0)
    (hK:wpListIn F n P ops Q rest (a.put o.dst v) w):wpListIn F n P ops Q (o::rest) a w:=by
  refine wpListIn_plain hg fun K hK'=>?_
  have hrun:=run_append_owned_none (P:=P) (w:=w) base t o.type e i size h1 h2 v k xs hown
  unfold Oper.wpIn
  refine ⟨?_,?_⟩
  · simp [Oper.about,hop,resolve,Target.leads,Sem.run_pure]
  · rw [Oper.semAt_plain F _ _ (by rw [hop];intro c hc';cases hc')]
    simp [execOp,hop,resolve,invoke,builtin,hs,hx,hrun,Result.andThen]
    exact hK' _ _ hK
/-- 'append(s, x...)', x nil or a row that can be read. -/
theorem wpListIn_append3 {F:Fence} {n:Nat} {P:Program} (w:World) {ops:Array Oper} {rest:List Oper} {o:Oper} {a:Act} {Q:Exit→Act→World→Prop} (hg:o.guard=none)
    (s x:Operand) (t:TypeId) (hop:o.op=Op.call { callee:=Callee.builtin Builtin.append,args:=#[s,x],argTypes:=#[t,t] })
    (base:Nat) (e:TypeId) (i:TypeInfo) (z:Value) (size bytes:Nat) (h1:P.underlying t=some (.slice e)) (h2:P.info? e=some i) (h3:i.zero=some z) (h4:i.size=size) (h5:i.bytes=bytes) (h6:z.cells.size=size) (h7:0<size)
    (v:Value) (k:Nat) (xs:List Value) (hs:a.eval s=v) (hown:w.ownsRow base e size v k xs) (V:Value) (m:Nat) (news:List Value) (hx:a.eval x=V) (hn:news.length=m*size)
    (hV:(V=.slice none 0 0∧m=0)∨∃ ad c,V=.slice (some ad) m c∧∀ j u,news[j]?=some u→w.cell? (ad.add j)=some u) (h1c:∀ u ∈ news,u.oneCell'=true) (b1:k+m≤maxLen) (b2:(k+m)*bytes≤140737488355328) (b3:base≤w.heap.size)
    (hK:∀ v' w',w'.ownsRow base e size v' (k+m) (xs++news)→w.grownBy w' v.ownBlock→wpListIn F n P ops Q rest (a.put o.dst v') w') :
    wpListIn F n P ops Q (o::rest) a w:=by
  rcases hV with ⟨rfl,rfl⟩ | ⟨ad,c,rfl,hc⟩
  · have h0:news=[]:=List.length_eq_zero_iff.1 (by omega)
    subst h0
    refine wpListIn_append0 w hg s x t hop base e i size h1 h2 v k xs hs hown hx (hK v w (by simpa using hown) ⟨rfl,rfl,rfl,Nat.le_refl _,fun _ _ _=>rfl⟩)
  · exact wpListIn_append2 w hg s x t hop base e i z size bytes h1 h2 h3 h4 h5 h6 h7 v k xs hs hown ad m c news hx hn hc h1c b1 b2 b3 (fun v' w' q1 q2 _=>hK v' w' q1 q2)
end Go.Proofs.YticjodhkmidljaaGreatDoor
