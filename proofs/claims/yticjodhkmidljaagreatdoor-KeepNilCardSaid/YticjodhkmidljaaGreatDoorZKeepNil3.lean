/- Readers: Num, Below, Str. Condition: the reader lies there. -/
import Derived.Test.YticjodhkmidljaaGreatDoorZKeepNil2
import Derived.Deep.DeepCutAuto
import Derived.Test.YticjodhkmidljaaGreatDoorZKeepNil1
import Derived.Test.YticjodhkmidljaaGreatDoorZKeepNil0
import Derived.Laws.EntriesVeiled
import Derived.WalkKit
import Derived.Laws.IdiomStrings
import Derived.Test.YticjodhkmidljaaGreatDoorRows
import Derived.IntWalk
import Derived.OwnWalk
namespace Go.Proofs.YticjodhkmidljaaGreatDoor
open Go.RowKit
theorem bigN_take {l:List UInt8} {i:Nat} (hi:i<l.length):bigN (l.take (i+1))=bigN (l.take i)*256+(l.getD i 0).toNat:=by
  rw [List.take_succ_eq_append_getElem hi,bigN_snoc]
  simp [List.getD,List.getElem?_eq_getElem hi]
theorem bigN_small {l:List UInt8} {i:Nat} (hl:l.length≤8) (hi:i<l.length):bigN (l.take i)<72057594037927936:=by
  have h:=bigN_lt (l.take i)
  rw [List.length_take] at h
  have h2:(256:Nat) ^ min i l.length≤256 ^ 7:=Nat.pow_le_pow_right (by omega) (by omega)
  have h3:(256:Nat) ^ 7=72057594037927936:=by decide
  omega
theorem bigN_most {l:List UInt8} (hl:l.length≤8):bigN l<18446744073709551616:=by
  have h:=bigN_lt l
  have h2:(256:Nat) ^ l.length≤256 ^ 8:=Nat.pow_le_pow_right (by omega) (by omega)
  have h3:(256:Nat) ^ 8=18446744073709551616:=by decide
  omega
theorem take_cases (R:RdV) (n:Nat):((R.take n).2.1=true∧(R.take n).1.length=n)∨((R.take n).2.1=false∧(R.take n).1=[]):=by
  unfold RdV.take
  split
  · split
    · exact .inl ⟨rfl,by simp;omega⟩
    · exact .inr ⟨rfl,rfl⟩
  · exact .inr ⟨rfl,rfl⟩
theorem or_bv (x y:BitVec 64):bits .or .u64 (x.toNat:Int) (y.toNat:Int)=((x ||| y).toNat:Int):=by
  have h:∀ z:BitVec 64,BitVec.ofInt 64 (z.toNat:Int)=z:=fun z=>by rw [BitVec.ofInt_natCast];simp
  show IntKind.u64.wrap ((BitVec.ofInt 64 (x.toNat:Int) ||| BitVec.ofInt 64 (y.toNat:Int)).toNat:Int)=_
  rw [h,h,IntKind.wrap_u64]
  have:=(x ||| y).isLt
  omega
theorem or_add (n b:Nat) (hn:n<72057594037927936) (hb:b<256):bits BinOp.or IntKind.u64 ((n:Int)*256) (IntKind.u64.wrap (b:Int))=((n*256+b:Nat):Int):=by
  have h:=or_bv (BitVec.ofNat 64 (n*256)) (BitVec.ofNat 64 b)
  have e1:(BitVec.ofNat 64 (n*256)).toNat=n*256:=by simp;omega
  have e2:(BitVec.ofNat 64 b).toNat=b:=by simp;omega
  rw [BitVec.toNat_or,e1,e2] at h
  rw [IntKind.wrap_u64,show ((n:Int)*256)=((n*256:Nat):Int) by omega,show (b:Int) % 18446744073709551616=(b:Int) by omega,h]
  congr 1
  rw [show n*256=2 ^ 8*n by omega]
  exact (Nat.two_pow_add_eq_or_of_lt hb n).symm
set_option maxRecDepth 100000 in
set_option maxHeartbeats 16000000 in
theorem rnumber_any (R:RdV) (g:Nat) (w:World) (h:RdAt w g R) :
    Calls Tryz.prog 54 #[.pointer (some ⟨g,0,none⟩)] w fun e w'=>e=.returned (.int .u64 (R.num.1:Int))∧RdAt w' g R.num.2∧Only g w w':=by
  have hb:=byte_any R g w h
  unfold RdV.num
  clear h
  obtain ⟨⟨b,R1⟩,hB⟩:∃ x,R.byte=x:=⟨_,rfl⟩
  rw [hB] at hb ⊢
  simp only at hb ⊢
  clear hB
  have hb8:=b.toNat_lt
  obtain ⟨n,hn⟩:∃ n,b.toNat=n:=⟨_,rfl⟩
  rw [hn] at hb hb8 ⊢
  clear hn
  have Hb:=Lib.hid hb;clear hb
  by_cases h248:n<248
  · rw [if_pos h248]
    have hlt':(n:Int)<248:=by omega
    have hwrap:IntKind.u64.wrap (n:Int)=(n:Int):=by rw [IntKind.wrap_u64];omega
    clear hb8 h248
    go_enter Tryz.func54,Tryz.ntmps54
    go_wp2_with ((with_reducible refine Hb.out.mono ?_);rintro e w2 ⟨rfl,h2⟩;have H2:=Lib.hid h2;clear h2)
    go_ret
    exact ⟨rfl,H2.out⟩
  · rw [if_neg h248]
    have hlt' : ¬ (n:Int)<248:=by omega
    obtain ⟨k,hk⟩:∃ k,n=k+247:=⟨n - 247,by omega⟩
    subst hk
    rw [show k+247 - 247=k by omega]
    have hk8:k≤8:=by omega
    have hsub:IntKind.i64.wrap (((k+247:Nat):Int) - 247)=(k:Int):=by rw [IntKind.wrap_i64];omega
    have hwr1:IntKind.i64.wrap ((k+247:Nat):Int)=((k+247:Nat):Int):=by rw [IntKind.wrap_i64];omega
    have hwr2:IntKind.u64.wrap (k:Int)=(k:Int):=by rw [IntKind.wrap_u64];omega
    have Ht:=Lib.hid (fun (y:World) (hy:RdAt y g R1)=>take_any R1 k (by omega) g y hy)
    unfold RdV.wide
    have hcase:=take_cases R1 k
    generalize R1.take k=X at *
    obtain ⟨t,ok,R2⟩:=X
    simp only at Ht hcase ⊢
    clear hb8 h248
    obtain ⟨m,hm⟩:∃ m:Int,((k+247:Nat):Int)=m:=⟨_,rfl⟩
    rw [hm] at Hb hlt' hsub hwr1
    clear hm
    rcases hcase with ⟨rfl,hl⟩ | ⟨rfl,rfl⟩
    · simp only [if_true]
      obtain ⟨⟨rn,RR⟩,hres⟩:∃ x,(if bigN t<248∨wid (bigN t)≠k then (0,R2.fail 4) else (bigN t,R2))=x:=⟨_,rfl⟩
      rw [hres]
      have Hres:=Lib.hid hres;clear hres
      have hk1:(k:Int)≤8:=by omega
      go_enter Tryz.func54,Tryz.ntmps54
      go_upto_region 9 with (first
        | ((with_reducible refine Hb.out.mono ?_);rintro e w2 ⟨rfl,h2⟩;have H2:=Lib.hid h2;clear h2 Hb)
        | ((with_reducible refine (Ht.out _ H2.out.1).mono ?_);rintro e w3 ⟨rfl,h3⟩;have H3:=Lib.hid (And.intro h3.1 (H2.out.2.trans h3.2));clear h3 H2 Ht))
      go_wp2_with fail
      go_loopw [7,28] (fun s7 s28 wr=>∃ i:Nat,i≤k∧s28=.int .i64 (i:Int)∧s7=.int .u64 (bigN (t.take i):Int)∧w3=wr) (fun _ s28 _=>k - (intOf s28).toNat)
      case atStart=>exact ⟨0,by omega,rfl,rfl,rfl⟩
      case round =>
        obtain ⟨i,hi,rfl,rfl,rfl⟩:=hrel
        by_cases hlt:i<k
        · have hlt2:(i:Int)<(k:Int):=by omega
          have hsucc:=tsucc (n:=i) (by omega)
          have hst:=bigN_take (l:=t) (i:=i) (by omega)
          have hsm:=bigN_small (l:=t) (i:=i) (by omega) (by omega)
          have hch:(⟨t.toArray⟩:ByteArray).size=k:=by rw [bs_size];exact hl
          have hor:=or_add (bigN (t.take i)) (t.getD i 0).toNat hsm (t.getD i 0).toNat_lt
          have hix:(⟨t.toArray⟩:ByteArray)[i]'(by rw [hch];exact hlt)=t.getD i 0:=by
            show t.toArray[i]'(by simp;omega)=_
            simp [List.getD,List.getElem?_eq_getElem (show i<t.length by omega)]
          rw [← hst] at hor
          rw [← hix] at hor
          clear hst hix
          go_wp2_with fail
          refine ⟨⟨i+1,hlt,by simp,?_,trivial⟩,by simp [intOf];omega⟩
          rw [← hor]
        · have hlt2 : ¬ (i:Int)<(k:Int):=by omega
          have hall:t.take i=t:=List.take_of_length_le (by omega)
          rw [hall]
          have hb64:=bigN_most (l:=t) (by omega)
          obtain ⟨N,hN⟩:∃ N,bigN t=N:=⟨_,rfl⟩
          have hq:=Hres.out
          rw [hN] at hb64 hq
          have Hwd:=Lib.hid (fun y:World=>width_any N (by omega) y)
          have Hfl:=Lib.hid (fun (y:World) (hy:RdAt y g R2)=>fail_form R2 g y hy)
          obtain ⟨v,hv⟩:∃ v,wid N=v:=⟨_,rfl⟩
          rw [hv] at Hwd hq
          clear hb64 hall hv
          have HN:=Lib.hid hN;clear hN
          by_cases c1:N<248
          · have c1':(N:Int)<248:=by omega
            rw [if_pos (.inl c1)] at hq
            cases hq
            rw [HN.out]
            clear c1
            go_wp2_with (first
              | ((with_reducible refine (Hwd.out _).mono ?_);rintro e w' ⟨rfl,rfl⟩)
              | ((with_reducible refine (Hfl.out _ H3.out.1).mono ?_);rintro e w4 ⟨rfl,h4⟩;have H4:=Lib.hid (And.intro h4.1 (H3.out.2.trans h4.2));clear h4))
            go_ret
            exact ⟨rfl,H4.out⟩
          · have c1' : ¬ (N:Int)<248:=by omega
            by_cases c2:v=k
            · subst c2
              rw [if_neg (by omega)] at hq
              cases hq
              rw [HN.out]
              clear c1
              go_wp2_with ((with_reducible refine (Hwd.out _).mono ?_);rintro e w' ⟨rfl,rfl⟩)
              go_ret
              exact ⟨rfl,H3.out⟩
            · have c2':((v:Int) != (k:Int))=true:=by rw [bne_iff_ne];omega
              rw [if_pos (.inr c2)] at hq
              cases hq
              rw [HN.out]
              have C2:=Lib.hid c2;clear c1 c2
              go_wp2_with (first
                | ((with_reducible refine (Hwd.out _).mono ?_);rintro e w' ⟨rfl,rfl⟩)
                | ((with_reducible refine (Hfl.out _ H3.out.1).mono ?_);rintro e w4 ⟨rfl,h4⟩;have H4:=Lib.hid (And.intro h4.1 (H3.out.2.trans h4.2));clear h4))
              go_ret
              exact ⟨rfl,H4.out⟩
    · simp only [Bool.false_eq_true,if_false]
      go_enter Tryz.func54,Tryz.ntmps54
      go_wp2_with (first
        | ((with_reducible refine Hb.out.mono ?_);rintro e w2 ⟨rfl,h2⟩;have H2:=Lib.hid h2;clear h2 Hb)
        | ((with_reducible refine (Ht.out _ H2.out.1).mono ?_);rintro e w3 ⟨rfl,h3⟩;have H3:=Lib.hid (And.intro h3.1 (H2.out.2.trans h3.2));clear h3 H2 Ht))
      go_ret
      exact ⟨rfl,H3.out⟩
theorem rnum_lt (R:RdV):R.num.1<18446744073709551616:=by
  unfold RdV.num
  have hb:=R.byte.1.toNat_lt
  split
  · show R.byte.1.toNat<_
    omega
  · unfold RdV.wide
    rcases take_cases R.byte.2 (R.byte.1.toNat - 247) with ⟨h1,h2⟩ | ⟨h1,h2⟩
    · rw [if_pos h1]
      split
      · show 0<_
        omega
      · exact bigN_most (by omega)
    · rw [h1]
      simp
theorem below_lt (R:RdV) (n:Nat) (hn:0<n):(R.below n).1<n:=by
  unfold RdV.below
  split
  · split
    · assumption
    · exact hn
  · exact hn
set_option maxRecDepth 100000 in
set_option maxHeartbeats 8000000 in
theorem below_any (R:RdV) (n g:Nat) (w:World) (h:RdAt w g R) :
    Calls Tryz.prog 90 #[.pointer (some ⟨g,0,none⟩),.int .u64 (n:Int)] w fun e w'=>e=.returned (.int .u64 ((R.below n).1:Int))∧RdAt w' g (R.below n).2∧Only g w w':=by
  have hb:=rnumber_any R g w h
  have hlt:=rnum_lt R
  unfold RdV.below
  clear h
  generalize R.num=X at *
  obtain ⟨v,R1⟩:=X
  simp only at hb hlt ⊢
  have hwrap:IntKind.u64.wrap (v:Int)=(v:Int):=by rw [IntKind.wrap_u64];omega
  clear hlt
  have Hb:=Lib.hid hb;clear hb
  obtain ⟨b,hbe⟩:∃ b,decide (R1.e≠0)=b:=⟨_,rfl⟩
  have Hfd:=Lib.hid (fun (y:World) (hy:RdAt y g R1)=>(show Calls Tryz.prog 111 #[.pointer (some ⟨g,0,none⟩)] y fun e w'=>e=.returned (.bool b)∧y=w' by rw [← hbe];exact failed_any R1 g y hy))
  have Hfl:=Lib.hid (fun (y:World) (hy:RdAt y g R1)=>fail_form R1 g y hy)
  by_cases he:R1.e=0
  · rw [if_pos he]
    have hb0:b=false:=by rw [← hbe];simp [he]
    subst hb0
    clear hbe he
    by_cases hv:v<n
    · have hv' : ¬ (n:Int)≤(v:Int):=by omega
      rw [if_pos hv]
      go_enter Tryz.func90,Tryz.ntmps90
      go_wp2_with (first
        | ((with_reducible refine Hb.out.mono ?_);rintro e w2 ⟨rfl,h2⟩;have H2:=Lib.hid h2;clear h2 Hb)
        | ((with_reducible refine (Hfd.out _ H2.out.1).mono ?_);rintro e w' ⟨rfl,rfl⟩))
      go_ret
      exact ⟨rfl,H2.out⟩
    · have hv':(n:Int)≤(v:Int):=by omega
      rw [if_neg hv]
      go_enter Tryz.func90,Tryz.ntmps90
      go_wp2_with (first
        | ((with_reducible refine Hb.out.mono ?_);rintro e w2 ⟨rfl,h2⟩;have H2:=Lib.hid h2;clear h2 Hb)
        | ((with_reducible refine (Hfd.out _ H2.out.1).mono ?_);rintro e w' ⟨rfl,rfl⟩)
        | ((with_reducible refine (Hfl.out _ H2.out.1).mono ?_);rintro e w4 ⟨rfl,h4⟩;have H4:=Lib.hid (And.intro h4.1 (H2.out.2.trans h4.2));clear h4))
      go_ret
      exact ⟨rfl,H4.out⟩
  · rw [if_neg he]
    have hb0:b=true:=by rw [← hbe];simp [he]
    subst hb0
    clear hbe he
    go_enter Tryz.func90,Tryz.ntmps90
    go_wp2_with (first
      | ((with_reducible refine Hb.out.mono ?_);rintro e w2 ⟨rfl,h2⟩;have H2:=Lib.hid h2;clear h2 Hb)
      | ((with_reducible refine (Hfd.out _ H2.out.1).mono ?_);rintro e w' ⟨rfl,rfl⟩))
    go_ret
    exact ⟨rfl,H2.out⟩
set_option maxHeartbeats 4000000 in
theorem rbelow_any (R:RdV) (n g:Nat) (w:World) (h:RdAt w g R) :
    Calls Tryz.prog 106 #[.pointer (some ⟨g,0,none⟩),.int .u64 (n:Int)] w fun e w'=>e=.returned (.int .u64 ((R.below n).1:Int))∧RdAt w' g (R.below n).2∧Only g w w':=by
  have Hb:=Lib.hid (below_any R n g w h);clear h
  go_enter Tryz.func106,Tryz.ntmps106
  go_wp2_with ((with_reducible refine Hb.out.mono ?_);rintro e w2 ⟨rfl,h2⟩;have H2:=Lib.hid h2;clear h2 Hb)
  go_ret
  exact ⟨rfl,H2.out⟩
set_option maxHeartbeats 4000000 in
theorem rstr2_any (R:RdV) (m g:Nat) (hm:m<1000000) (w:World) (h:RdAt w g R) :
    Calls Tryz.prog 57 #[.pointer (some ⟨g,0,none⟩),.int .i64 (m:Int)] w fun e w'=>e=.returned (.string ⟨(R.str m).1.toArray⟩)∧RdAt w' g (R.str m).2∧Only g w w':=by
  have hb:Calls Tryz.prog 90 #[.pointer (some ⟨g,0,none⟩),.int .u64 ((m:Int)+1)] w fun e w'=>e=.returned (.int .u64 ((R.below (m+1)).1:Int))∧RdAt w' g (R.below (m+1)).2∧Only g w w':=below_any R (m+1) g w h
  have hlt:=below_lt R (m+1) (by omega)
  clear h
  unfold RdV.str
  generalize R.below (m+1)=X at *
  obtain ⟨n,R1⟩:=X
  simp only at hb hlt ⊢
  have Ht:=Lib.hid (fun (y:World) (hy:RdAt y g R1)=>take_any R1 n (by omega) g y hy)
  generalize R1.take n=Y at *
  obtain ⟨t,ok,R2⟩:=Y
  simp only at Ht ⊢
  have hw1:IntKind.u64.wrap (m:Int)=(m:Int):=by rw [IntKind.wrap_u64];omega
  have hw2:IntKind.u64.wrap ((m:Int)+1)=((m+1:Nat):Int):=by rw [IntKind.wrap_u64];omega
  have hmx:max (m:Int) 0=(m:Int):=by omega
  have Hb:=Lib.hid hb;clear hb hlt
  go_enter Tryz.func57,Tryz.ntmps57
  go_wp2_with (first
    | ((with_reducible refine Hb.out.mono ?_);rintro e w2 ⟨rfl,h2⟩;have H2:=Lib.hid h2;clear h2 Hb)
    | ((with_reducible refine (Ht.out _ H2.out.1).mono ?_);rintro e w3 ⟨rfl,h3⟩;have H3:=Lib.hid (And.intro h3.1 (H2.out.2.trans h3.2));clear h3 H2 Ht))
  go_ret
  exact ⟨rfl,H3.out⟩
end Go.Proofs.YticjodhkmidljaaGreatDoor
namespace Go.Proofs.YticjodhkmidljaaGreatDoor
open Go.RowKit
/-- A client's last command, as it is read: without the word that it is bad. -/
def RdV.lastP (R:RdV):LastV × RdV :=
  if (R.below 4294967296).1=0 then (lastNone,(R.below 4294967296).2)
  else (⟨BitVec.ofNat 32 (R.below 4294967296).1,(R.below 4294967296).2.byte.1.toNat,⟨((R.below 4294967296).2.byte.2.str 64).1.toArray⟩⟩,((R.below 4294967296).2.byte.2.str 64).2)
def RdV.last (R:RdV):LastV × RdV:=(R.lastP.1,if 3<R.lastP.1.code then R.lastP.2.fail 4 else R.lastP.2)
theorem RdAt.set {w:World} {g q i:Nat} {R:RdV} {v:Value} (h:RdAt w g R) (hq:g≠q):RdAt (w.setCell ⟨q,i,none⟩ v) g R:=h.other hq (Only.set q i w v)
end Go.Proofs.YticjodhkmidljaaGreatDoor
namespace Go.Proofs.YticjodhkmidljaaGreatDoor
open Go.RowKit
theorem of_any1 (s:List UInt8) (_:s.length≤maxLen) (w:World) :
    Calls Tryz.prog 52 #[.string ⟨s.toArray⟩] w fun e w'=>e=.returned (.pointer (some ⟨w.heap.size,0,none⟩))∧w'=w.alloc (.cells (rdCells ⟨0,s⟩).toArray 153):=by
  go_enter Tryz.func52,Tryz.ntmps52
  go_wp2_with fail
  go_ret
  exact ⟨rfl,rfl⟩
end Go.Proofs.YticjodhkmidljaaGreatDoor
namespace Go.Proofs.YticjodhkmidljaaGreatDoor.RegJ
open Go RegK
/-- A plan: operations by their numbers. -/
inductive Plan where
  | nil:Plan
  | step (k e:Nat) (r:Plan):Plan
  | fork (k:Nat) (r:Plan) (j:Nat) (s:Plan):Plan
/-- A plan with its operations. -/
inductive PlanO where
  | nil:PlanO
  | bad:PlanO
  | step (o:Oper) (e:Nat) (r:PlanO):PlanO
  | fork (o:Oper) (r:PlanO) (u:Oper) (s:PlanO):PlanO
def Plan.len:Plan→Nat
  | .nil=>0
  | .step _ _ r=>r.len+1
  | .fork _ r _ _=>r.len+1
def pickJ (l:List Oper):Plan→PlanO
  | .nil=>.nil
  | .step k e r=>match l[k]? with | some o=>.step o e (pickJ l r) | none=>.bad
  | .fork k r j s=>match l[k]?,l[j]? with | some o,some u=>.fork o (pickJ l r) u (pickJ l s) | _,_=>.bad
section
variable {F : Fence} {n : Nat} {P : Program} {ops : Array Oper} {Q : Exit → Act → World → Prop} {md : Region.Mode}
/-- The walk: 0 reads only, 1 turns the world within R; at a fork both ways. -/
def canJ (F:Fence) (n:Nat) (P:Program) (ops:Array Oper) (Q:Exit→Act→World→Prop):PlanO→(World→Prop)→Act→World→Prop
  | .nil,_,a,w=>Q .normal a w
  | .bad,_,_,_=>False
  | .step o 0 r,R,a,w =>
    if Region.wanted o (yielded ops a.tmps) then ∃ v,(∀ x,R x→(execOp a.eval o).run P x=.ok (.value v) x)∧canJ F n P ops Q r R (a.put o.dst v) w
    else canJ F n P ops Q r R (a.put o.dst undef) w
  | .step o (_+1) r,R,a,w =>
    if Region.wanted o (yielded ops a.tmps) then o.wpIn F n P a w (fun a' w'=>∃ R':World→Prop,(∀ x,R' x→R x)∧R' w'∧canJ F n P ops Q r R' a' w') Q
    else (∀ f,o.about P w a.eval=some f→F.fn f)∧canJ F n P ops Q r R (a.put o.dst undef) w
  | .fork o r u s,R,a,w =>
    (if Region.wanted o (yielded ops a.tmps) then o.wpIn F n P a w (fun a' w'=>∃ R':World→Prop,(∀ x,R' x→R x)∧R' w'∧canJ F n P ops Q r R' a' w') Q
      else (∀ f,o.about P w a.eval=some f→F.fn f)∧canJ F n P ops Q r R (a.put o.dst undef) w) ∧
    (if Region.wanted u (yielded ops a.tmps) then u.wpIn F n P a w (fun a' w'=>∃ R':World→Prop,(∀ x,R' x→R x)∧R' w'∧canJ F n P ops Q s R' a' w') Q
      else (∀ f,u.about P w a.eval=some f→F.fn f)∧canJ F n P ops Q s R (a.put u.dst undef) w)
def canJB (md:Region.Mode) (ops:Array Oper):Plan→Array Bool→Bool
  | .nil,listed=>(Region.ready md ops listed).isEmpty
  | .step k 0 r,listed=>decide (k<ops.size) && (Region.ready md ops listed).contains k && Region.free md ops listed k && (match ops[k]? with | some o=>noCall o | none=>false) && canJB md ops r (listed.setIfInBounds k true)
  | .step k (_+1) r,listed=>decide (k<ops.size) && Region.ready md ops listed == [k] && canJB md ops r (listed.setIfInBounds k true)
  | .fork k r j s,listed=>decide (k<ops.size) && decide (j<ops.size) && Region.ready md ops listed == [k,j] && r.len == s.len && canJB md ops r (listed.setIfInBounds k true) && canJB md ops s (listed.setIfInBounds j true)
theorem any_canJ (hro:∀ o ∈ ops,noDefer o=true) (hs:Region.noSelect ops=true) (hQ:∀ c a d v w,Q (.panic c) (Act.put a d v) w→Q (.panic c) a w):∀ (r:Plan) (listed:Array Bool) (R:World→Prop) (a:Act) (w:World),
    listed.size=ops.size→Closed md ops listed→canJB md ops r listed=true→R w→canJ F n P ops Q (pickJ ops.toList r) R a w→anyR (fun _=>false) F n P md ops Q r.len listed R a w
  | .nil,_,_,_,_,_,_,hB,_,h=>⟨by simpa [canJB] using hB,h⟩
  | .step k 0 r,listed,R,a,w,hsz,hcl,hB,hR,h=>by
    simp only [canJB,Bool.and_eq_true,decide_eq_true_eq] at hB
    obtain ⟨⟨⟨⟨hk,hr⟩,hf⟩,hc⟩,hB'⟩:=hB
    have h0:ops[k]?=some ops[k]:=Array.getElem?_eq_getElem hk
    have h0':ops.toList[k]?=some ops[k]:=by simp [hk]
    simp only [h0] at hc
    have hsz':(listed.setIfInBounds k true).size=ops.size:=by simpa using hsz
    have hcl':=hcl.set (i:=k) (by simpa using hr)
    simp only [pickJ,h0',canJ] at h
    have hbs:∀ j,listed.getD j true=false→j≠k→(fun _=>false) j=true→k ∈ back md ops ops.size (onsOf md ops j):=fun j _ _ h3=>by cases h3
    by_cases hw:Region.wanted ops[k] (yielded ops a.tmps)=true
    · simp only [hw,if_true] at h
      obtain ⟨v,hv,hK⟩:=h
      exact first hro h0 hc (Region.noSelect_spec hs) (fun c a w=>hQ c a _ _ w) r.len listed R a w (Region.free_spec h0 hf) hbs hcl (by simpa using hr) hR (.inl ⟨hw,hv⟩) (any_canJ hro hs hQ r _ R _ w hsz' hcl' hB' hR hK)
    · simp only [hw] at h
      exact first hro h0 hc (Region.noSelect_spec hs) (fun c a w=>hQ c a _ _ w) r.len listed R a w (Region.free_spec h0 hf) hbs hcl (by simpa using hr) hR (.inr ⟨by simpa using hw,rfl⟩) (any_canJ hro hs hQ r _ R _ w hsz' hcl' hB' hR h)
  | .step k (m+1) r,listed,R,a,w,hsz,hcl,hB,hR,h=>by
    simp only [canJB,Bool.and_eq_true,beq_iff_eq,decide_eq_true_eq] at hB
    obtain ⟨⟨hk,hr⟩,hB'⟩:=hB
    have h0:ops[k]?=some ops[k]:=Array.getElem?_eq_getElem hk
    have h0':ops.toList[k]?=some ops[k]:=by simp [hk]
    have hsz':(listed.setIfInBounds k true).size=ops.size:=by simpa using hsz
    have hcl':=hcl.set (i:=k) (by rw [hr];simp)
    simp only [pickJ,h0',canJ] at h
    refine ⟨fun h=>(by rw [hr] at h;cases h),fun j hj=>?_⟩
    rw [hr] at hj
    obtain rfl:j=k:=by simpa using hj
    unfold wpOpIn
    simp only [h0]
    by_cases hw:Region.wanted ops[j] (yielded ops a.tmps)=true
    · simp only [hw,if_true] at h ⊢
      exact Oper.wpIn_mono (fun a' w' ⟨R',g0,g1,g2⟩=>⟨R',g1,.inr g0,any_canJ hro hs hQ r _ R' a' w' hsz' hcl' hB' g1 g2⟩) h
    · simp only [hw] at h ⊢
      exact ⟨h.1,R,hR,.inr fun _ h=>h,any_canJ hro hs hQ r _ R _ w hsz' hcl' hB' hR h.2⟩
  | .fork k r j s,listed,R,a,w,hsz,hcl,hB,hR,h=>by
    simp only [canJB,Bool.and_eq_true,beq_iff_eq,decide_eq_true_eq] at hB
    obtain ⟨⟨⟨⟨⟨hk,hj⟩,hr⟩,hlen⟩,hB1⟩,hB2⟩:=hB
    have h0:ops[k]?=some ops[k]:=Array.getElem?_eq_getElem hk
    have h0':ops.toList[k]?=some ops[k]:=by simp [hk]
    have g0:ops[j]?=some ops[j]:=Array.getElem?_eq_getElem hj
    have g0':ops.toList[j]?=some ops[j]:=by simp [hj]
    have hcl1:=hcl.set (i:=k) (by rw [hr];simp)
    have hcl2:=hcl.set (i:=j) (by rw [hr];simp)
    simp only [pickJ,h0',g0',canJ] at h
    obtain ⟨h1,h2⟩:=h
    refine ⟨fun h=>(by rw [hr] at h;cases h),fun i hi=>?_⟩
    rw [hr] at hi
    have hi':i=k∨i=j:=by simpa using hi
    rcases hi' with rfl | rfl
    · unfold wpOpIn
      simp only [h0]
      by_cases hw:Region.wanted ops[i] (yielded ops a.tmps)=true
      · simp only [hw,if_true] at h1 ⊢
        exact Oper.wpIn_mono (fun a' w' ⟨R',g0,g1,g2⟩=>⟨R',g1,.inr g0,any_canJ hro hs hQ r _ R' a' w' (by simpa using hsz) hcl1 hB1 g1 g2⟩) h1
      · simp only [hw] at h1 ⊢
        exact ⟨h1.1,R,hR,.inr fun _ h=>h,any_canJ hro hs hQ r _ R _ w (by simpa using hsz) hcl1 hB1 hR h1.2⟩
    · unfold wpOpIn
      simp only [g0]
      by_cases hw:Region.wanted ops[i] (yielded ops a.tmps)=true
      · simp only [hw,if_true] at h2 ⊢
        exact Oper.wpIn_mono (fun a' w' ⟨R',g0,g1,g2⟩=>⟨R',g1,.inr g0,by
          have:=any_canJ hro hs hQ s _ R' a' w' (by simpa using hsz) hcl2 hB2 g1 g2
          show anyR (fun _=>false) F n P md ops Q r.len _ _ _ _
          rw [hlen]
          exact this⟩) h2
      · simp only [hw] at h2 ⊢
        exact ⟨h2.1,R,hR,.inr fun _ h=>h,by
          have:=any_canJ hro hs hQ s _ R _ w (by simpa using hsz) hcl2 hB2 hR h2.2
          show anyR (fun _=>false) F n P md ops Q r.len _ _ _ _
          rw [hlen]
          exact this⟩
/-- The walk, behind a name that nothing opens. -/
structure Can (F:Fence) (n:Nat) (P:Program) (ops:Array Oper) (Q:Exit→Act→World→Prop) (l:PlanO) (R:World→Prop) (a:Act) (w:World):Prop where
  out:canJ F n P ops Q l R a w
theorem wpIn_region_plan (R:World→Prop) (π:Plan) {id:Nat} {a:Act} {w:World} {l:List Oper} (hro:l.all noDefer=true) (hm:P.follows .mixedOrders=true)
    (hB:(Region.noSelect l.toArray && canJB .any l.toArray π (Array.replicate l.length false) && (π.len == l.length))=true)
    (hQ:∀ c a d v w,Q (.panic c) (Act.put a d v) w→Q (.panic c) a w) (hR:R { w with drawn:=w.drawn+1 })
    (h:Can F n P l.toArray Q (pickJ l π) R a { w with drawn:=w.drawn+1 }):(Code.region id l.toArray true).wpIn F n P Q a w:=by
  simp only [Bool.and_eq_true,beq_iff_eq] at hB
  obtain ⟨⟨h1,h2⟩,h4⟩:=hB
  refine wpIn_region_any hm (any_of (bar:=fun _=>false) _ _ R _ _ ?_)
  have:=any_canJ (F:=F) (n:=n) (P:=P) (ops:=l.toArray) (md:=.any) (Q:=Q) (fun o ho=>List.all_eq_true.1 hro o (by simpa using ho)) h1 hQ π (Array.replicate l.length false) R a _ (by simp) (Closed.none _) h2 hR (by simpa using h.out)
  simpa [h4] using this
theorem reads {R:World→Prop} {a:Act} {w:World} {o:Oper} {r:PlanO}
    (h:∀ K:Act→Prop,(∀ a,Can F n P ops Q r R a w→K a)→if Region.wanted o (yielded ops a.tmps) then ∃ v,(∀ x,R x→(execOp a.eval o).run P x=.ok (.value v) x)∧K (a.put o.dst v) else K (a.put o.dst undef)) :
    Can F n P ops Q (.step o 0 r) R a w:=⟨h _ (fun _ h=>h.out)⟩
theorem turns (hfn:∀ f,F.fn f) {R:World→Prop} {a:Act} {w:World} {o:Oper} {r:PlanO}
    (h:∀ (K:Act→World→Prop) (K0:Act→Prop),(∀ (R':World→Prop) a w,(∀ x,R' x→R x)→R' w→Can F n P ops Q r R' a w→K a w)→(∀ a,Can F n P ops Q r R a w→K0 a) →
      if Region.wanted o (yielded ops a.tmps) then o.wpIn F n P a w K Q else K0 (a.put o.dst undef)) :
    Can F n P ops Q (.step o 1 r) R a w:=by
  have h':=h (fun a' w'=>∃ R':World→Prop,(∀ x,R' x→R x)∧R' w'∧canJ F n P ops Q r R' a' w') (fun a=>canJ F n P ops Q r R a w) (fun R' _ _ h0 h1 h2=>⟨R',h0,h1,h2.out⟩) (fun _ h=>h.out)
  refine ⟨?_⟩
  simp only [canJ]
  split
  · rename_i hw;rw [if_pos hw] at h';exact h'
  · rename_i hw;rw [if_neg hw] at h';exact ⟨fun f _=>hfn f,h'⟩
theorem forks {R:World→Prop} {a:Act} {w:World} {o u:Oper} {r s:PlanO} (h1:Can F n P ops Q (.step o 1 r) R a w) (h2:Can F n P ops Q (.step u 1 s) R a w):Can F n P ops Q (.fork o r u s) R a w:=⟨⟨h1.out,h2.out⟩⟩
theorem nil {R:World→Prop} {a:Act} {w:World} (h:Q .normal a w):Can F n P ops Q .nil R a w:=⟨h⟩
end
end Go.Proofs.YticjodhkmidljaaGreatDoor.RegJ
namespace Go.Proofs.YticjodhkmidljaaGreatDoor
open Go.RowKit
namespace Crc
def flip (l:List UInt8) (p:Nat):List UInt8:=l.set (p / 8) (l.getD (p / 8) 0 ^^^ UInt8.ofNat (2 ^ (p % 8)))
def fl (a:List UInt8) (m:BitVec 64) (bit:Nat):Nat→List UInt8
  | 0=>a
  | k+1=>if m.getLsbD k then flip (fl a m bit k) (bit+k) else fl a m bit k
/-- The first k of n bytes put over one another. -/
def ov (A B:List UInt8) (n k:Nat):List UInt8:=(List.range n).map fun j=>if j<k then A.getD j 0 ^^^ B.getD j 0 else 0
end Crc
end Go.Proofs.YticjodhkmidljaaGreatDoor
namespace Go.Proofs.YticjodhkmidljaaGreatDoor
open Go.RowKit
/-- Bytes of a number, the lowest first. -/
def leB (x:Nat):Nat→List UInt8
  | 0=>[]
  | i+1=>leB x i++[UInt8.ofNat (x / 256 ^ i)]
theorem leB_len (x:Nat):∀ i,(leB x i).length=i
  | 0=>rfl
  | i+1=>by rw [leB,List.length_append,leB_len x i];rfl
theorem OwnB.block {w:World} {base:Nat} {t:TypeId} {v:Value} {l:List UInt8} (h:OwnB w base t v l):∀ k,v.ownBlock=some k→base≤k:=by
  intro k hk
  unfold OwnB at h
  obtain ⟨-, h⟩:=h
  rcases h with ⟨rfl, -⟩ | ⟨g,cap,cur,rfl,h3, -⟩
  · cases hk
  · cases hk;exact h3
theorem OwnB.nil (w:World) (base:Nat) (t:TypeId):OwnB w base t (.slice none 0 0) []:=⟨rfl,.inl ⟨rfl,rfl⟩⟩
theorem OwnB.alloc {w:World} {base:Nat} {t:TypeId} {v:Value} {l:List UInt8} (h:OwnB w base t v l) (o:Obj):OwnB (w.alloc o) base t v l:=h.below ((Below.refl _ _).alloc (Nat.le_refl _) _)
end Go.Proofs.YticjodhkmidljaaGreatDoor
namespace Go.Proofs.YticjodhkmidljaaGreatDoor
abbrev Bs:=List UInt8
end Go.Proofs.YticjodhkmidljaaGreatDoor
namespace Go.Proofs.YticjodhkmidljaaGreatDoor
open Go.RowKit
/-- A text's checksum. -/
def crcN (x:Bs):Nat:=(Crc.sum 0#64 x).toNat
theorem crcN_lt (x:Bs):crcN x<18446744073709551616:=(Crc.sum 0#64 x).isLt
def frT (x:Bs):Bs:=leB (crcN x) 8++x
def frL (x:Bs):Bs:=numL x.length++frT x
theorem frT_len (x:Bs):(frT x).length=8+x.length:=by unfold frT;rw [List.length_append,leB_len]
theorem frL_len (x:Bs):(frL x).length=(numL x.length).length+8+x.length:=by unfold frL;rw [List.length_append,frT_len];omega
/-- A number, its low bytes first. -/
def leN:Bs→Nat
  | []=>0
  | b::r=>b.toNat+256*leN r
theorem leN_app:∀ (l:Bs) (b:UInt8),leN (l++[b])=leN l+b.toNat*256 ^ l.length
  | [],b=>by simp [leN]
  | c::r,b=>by
    show c.toNat+256*leN (r++[b])=c.toNat+256*leN r+b.toNat*256 ^ (r.length+1)
    rw [leN_app r b,Nat.pow_succ,Nat.mul_add]
    generalize 256 ^ r.length=P
    have e:256*(b.toNat*P)=b.toNat*(P*256):=by rw [← Nat.mul_assoc b.toNat,Nat.mul_comm]
    omega
theorem leN_leB (x:Nat):∀ n,leN (leB x n)=x % 256 ^ n
  | 0=>by simp [leB,leN,Nat.mod_one]
  | n+1=>by
    rw [leB,leN_app,leN_leB x n,leB_len]
    have h:(UInt8.ofNat (x / 256 ^ n)).toNat=x / 256 ^ n % 256:=by simp
    rw [h,Nat.pow_succ,Nat.mod_mul,Nat.mul_comm]
theorem leN_8 {x:Nat} (h:x<18446744073709551616):leN (leB x 8)=x:=by rw [leN_leB];exact Nat.mod_eq_of_lt h
/-- The reader behind a frame's length. -/
def rdF (s:Bs):Nat × RdV:=if ((RdV.mk 0 s).below 65537).1=0 then (0,((RdV.mk 0 s).below 65537).2.fail 4) else (RdV.mk 0 s).below 65537
/-- What Take tells: the inside, how many bytes, the error. -/
def takeF (s:Bs):Bs × Nat × Nat :=
  if (rdF s).2.e≠0 then ([],0,(rdF s).2.e) else if (rdF s).2.s.length<8+(rdF s).1 then ([],0,3)
  else if crcN (((rdF s).2.s.drop 8).take (rdF s).1)≠leN ((rdF s).2.s.take 8) then ([],0,5)
  else (((rdF s).2.s.drop 8).take (rdF s).1,s.length - (rdF s).2.s.length+8+(rdF s).1,0)
theorem rdF_app {n:Nat} (h0:1≤n) (h1:n≤65536) (r:Bs):rdF (numL n++r)=(n,⟨0,r⟩):=by
  unfold rdF
  rw [below_app (by omega) (by omega)]
  rw [if_neg (by show ¬ n=0;omega)]
theorem take_any' {n c:Nat} {t x:Bs} (h0:1≤n) (h1:n≤65536) (ht:t.length=8) (hx:x.length=n) (hc:leN t=c) (r:Bs) :
    takeF (numL n++(t++x++r))=if crcN x≠c then ([],0,5) else (x,(numL n).length+8+n,0):=by
  unfold takeF
  rw [rdF_app h0 h1]
  have e1:((t++x++r).drop 8).take n=x:=by
    rw [List.append_assoc, ← ht,List.drop_left, ← hx,List.take_left]
  have e2:(t++x++r).take 8=t:=by rw [List.append_assoc, ← ht,List.take_left]
  simp only
  rw [if_neg (by omega),if_neg (by simp;omega),e1,e2,hc]
  split
  · rfl
  · congr 2
    simp only [List.length_append]
    omega
theorem take_fr {x:Bs} (h0:1≤x.length) (h1:x.length≤65536) (r:Bs):takeF (frL x++r)=(x,(frL x).length,0):=by
  have h:=take_any' h0 h1 (leB_len (crcN x) 8) rfl (leN_8 (crcN_lt x)) r
  rw [if_neg (by simp)] at h
  rw [frL_len,show frL x++r=numL x.length++(leB (crcN x) 8++x++r) by simp [frL,frT]]
  exact h
theorem take_lt {s:Bs} {n:Nat} (h:s.length<n):(RdV.mk 0 s).take n=([],false,⟨3,s⟩):=by
  unfold RdV.take
  rw [if_pos rfl,if_neg (by show ¬ n≤s.length;omega)]
/-- A number of which the end lacks. -/
theorem num_torn {n:Nat} {s:Bs} (h:s <+: numL n) (hl:s.length<(numL n).length):(RdV.mk 0 s).num.1=0∧(RdV.mk 0 s).num.2.e=3:=by
  cases s with
  | nil =>
    have e:(RdV.mk 0 []).byte=(0,⟨3,[]⟩):=by unfold RdV.byte;rw [take_lt (by decide)];rfl
    unfold RdV.num
    rw [e]
    exact ⟨rfl,rfl⟩
  | cons b r =>
    unfold numL at h hl
    split at h
    · next h8 =>
      rw [if_pos h8] at hl
      simp at hl
    · next h8 =>
      rw [if_neg h8] at hl
      obtain ⟨rfl,hr⟩:=List.cons_prefix_cons.1 h
      have hw:=wid_le n
      have hp:=wid_pos (n:=n) (by omega)
      have e:(UInt8.ofNat (247+wid n)).toNat=247+wid n:=by simp;omega
      have hrl:r.length<wid n:=by simpa [bigB_len] using hl
      unfold RdV.num
      rw [byte_app]
      simp only [e]
      rw [if_neg (by omega),show 247+wid n - 247=wid n by omega]
      unfold RdV.wide
      rw [take_lt hrl]
      exact ⟨rfl,rfl⟩
theorem rdF_torn {n:Nat} {s:Bs} (h:s <+: numL n) (hl:s.length<(numL n).length):(rdF s).2.e=3:=by
  obtain ⟨h1,h2⟩:=num_torn h hl
  have h3:(RdV.mk 0 s).below 65537=(0,(RdV.mk 0 s).num.2):=by
    unfold RdV.below
    rw [if_neg (by rw [h2];decide)]
  unfold rdF
  rw [h3,if_pos rfl]
  unfold RdV.fail
  rw [if_neg (by rw [h2];decide)]
  exact h2
/-- A frame of which the end lacks. -/
theorem take_torn {x s:Bs} (h0:1≤x.length) (h1:x.length≤65536) (h:s <+: frL x) (hl:s.length<(frL x).length):takeF s=([],0,3):=by
  by_cases hn:s.length<(numL x.length).length
  · have hp:s <+: numL x.length:=by
      have:=List.prefix_of_prefix_length_le h (List.prefix_append (numL x.length) (frT x)) (by omega)
      exact this
    have e:=rdF_torn hp hn
    unfold takeF
    rw [if_pos (by rw [e];decide),e]
  · obtain ⟨r,rfl⟩:=List.prefix_of_prefix_length_le (List.prefix_append (numL x.length) (frT x)) h (by omega)
    have hlen:=frL_len x
    unfold takeF
    rw [rdF_app h0 h1]
    simp only
    rw [if_neg (by omega),if_pos (by simp at hl;omega)]
end Go.Proofs.YticjodhkmidljaaGreatDoor
namespace Go.Proofs.YticjodhkmidljaaGreatDoor
open Go.RowKit
/-- May a text be a frame's inside? -/
def frOk (x:Bs):Prop:=1≤x.length∧x.length≤65536
instance (x:Bs):Decidable (frOk x):=inferInstanceAs (Decidable (_∧_))
def putF3 (l x:Bs):Bs × Nat:=if frOk x then (l++frL x,0) else (l,6)
set_option maxRecDepth 100000 in
set_option maxHeartbeats 8000000 in
theorem fput_any (v:Value) (l:Bs) (x:ByteArray) (hl:l.length≤3000000) (hxm:x.size≤maxLen) (w:World) (h:ReadB w v l) :
    Calls Tryz.prog 63 #[v,.string x] w fun e w'=>∃ v',e=.returned (.tuple #[v',.int .i64 ((putF3 l x.data.toList).2:Int)])∧OwnB w' w.heap.size 5 v' (putF3 l x.data.toList).1∧Below w.heap.size w w':=by
  obtain ⟨i0,hi0,hz0,hs0,hb0⟩:=info_parts info8
  have hlen:=str_len x
  by_cases hf:frOk x.data.toList
  · rw [show putF3 l x.data.toList=(l++frL x.data.toList,0) by unfold putF3;rw [if_pos hf]]
    have hq:1≤x.size∧x.size≤65536:=by unfold frOk at hf;rw [hlen] at hf;exact hf
    have hf1:((x.size:Int) == 0)=false:=by rw [beq_eq_false_iff_ne];omega
    have hf2:decide ((65536:Int)<(x.size:Int))=false:=decide_eq_false (by omega)
    have hn9:=(numL_len x.size).1
    have Hn:=Lib.hid (num_any v l x.size (by omega) (by omega) w h)
    obtain ⟨c,hc⟩:∃ c,c=crcN x.data.toList:=⟨_,rfl⟩
    have hcl:c<18446744073709551616:=by rw [hc];exact crcN_lt _
    have Hs:=Lib.hid (show ∀ y,Calls Tryz.prog 94 #[.string x] y fun e w'=>e=.returned (.int .u64 (c:Int))∧y=w' from fun y=>by rw [hc];exact sum_any x hxm y)
    have HX:=Lib.hid (And.intro hc (And.intro hlen hq))
    have Hw64:=Lib.hid (show IntKind.u64.wrap (x.size:Int)=(x.size:Int) by rw [IntKind.wrap_u64];omega)
    have hw64:=Hw64.out
    clear h hc hlen hf hq hxm
    go_enter Tryz.func63,Tryz.ntmps63
    go_wp2_with (first
      | ((with_reducible refine Hn.out.mono ?_);rintro e w1 ⟨v1,rfl,ho1,hb1⟩;have Ho:=Lib.hid ho1;have Hb:=Lib.hid hb1;clear ho1 hb1)
      | ((with_reducible refine (Hs.out _).mono ?_);rintro e w' ⟨rfl,rfl⟩))
    clear Hn Hs hf1 hf2
    go_loopw [6,26] (fun s6 s26 wr=>∃ (i:Nat),i≤8∧s26=.int .i64 (i:Int)∧OwnB wr w.heap.size 5 s6 (l++numL x.size++leB c i)∧Below w.heap.size w wr) (fun _ s26 _=>8 - (intOf s26).toNat)
    case atStart=>exact ⟨0,by omega,rfl,by rw [leB,List.append_nil];exact Ho.out,Hb.out⟩
    case round =>
      clear Ho Hb
      obtain ⟨i,hi,rfl,ho,hbel⟩:=hrel
      obtain ⟨a,n,cc,rfl⟩:=ho.read.slice
      have Hbel:=Lib.hid hbel;clear hbel
      have Ho:=Lib.hid ho;clear ho
      have Hlen:=Lib.hid (show (l++numL x.size++leB c i).length≤3000100 by rw [List.length_append,List.length_append,leB_len];omega)
      by_cases hi8:i<8
      · have hi8':(i:Int)<8:=by omega
        have hsucc:wrap64 ((i:Int)+1)=((i+1:Nat):Int):=by unfold wrap64;omega
        have hi0':(0:Int)≤(i:Int):=by omega
        have hi7:(i:Int)≤7:=by omega
        have hnews:bcells [UInt8.ofNat (c / 256 ^ i)]=[.int .u8 ((c:Int) / 2 ^ (8*i) % 256)]:=by
          have e:(2:Nat) ^ (8*i)=256 ^ i:=by rw [Nat.pow_mul]
          simp [bcells, ← e]
        have Hnews:=Lib.hid hnews;clear hnews
        have Hle:=Lib.hid (show w.heap.size≤wr.heap.size from Hbel.out.size)
        go_wp2_with (at_builtin;refine wpList_append_own_at _ rfl _ _ 121 rfl w.heap.size 5 i0 (.int .u8 0) 1 1 Tryz.underlying121 hi0 hz0 hs0 hb0 rfl (by decide) _ _ _ rfl (World.ownsRow.alloc Ho.out _) ⟨wr.heap.size,0,none⟩ 1 1 (bcells [UInt8.ofNat (c / 256 ^ i)]) rfl rfl (by rw [Hnews.out];exact cells_one _ _ _) (bcells_one _) (by have:=Hlen.out;unfold maxLen;omega) (by have:=Hlen.out;omega) (by have:=Hle.out;simp;omega) ?_;intro v4 w4 ho4 hg4 _ _;have Hg4:=Lib.hid hg4;clear hg4;have Ho4:=Lib.hid ho4;clear ho4)
        go_roundw
        case rel =>
          refine ⟨i+1,by omega,by first | rfl | (rw [Int.natCast_add];rfl),?_,below_grown Hg4.out ((Hbel.out.alloc Hle.out _)) (by have:=Hle.out;simp;omega) Ho.out.block⟩
          rw [leB, ← List.append_assoc]
          exact OwnB.of Ho4.out rfl rfl
        case measure=>simp [intOf];omega
      · have hi8' : ¬ (i:Int)<8:=by omega
        obtain rfl:i=8:=by omega
        clear hi8 hi
        go_wp2_with (at_builtin;refine Lib.wpList_append_own_string _ rfl _ _ 121 9 rfl w.heap.size 5 i0 Tryz.underlying121 Tryz.underlying9 hi0 hz0 hs0 hb0 _ _ _ rfl Ho.out x rfl (by have:=Hlen.out;have:=HX.out;unfold maxLen;omega) (by have:=Hlen.out;have:=HX.out;omega) Hbel.out.size ?_;intro v2 w2 ho2 hg2 hn2;have Ho2:=Lib.hid ho2;clear ho2;have Hg2:=Lib.hid hg2;clear hg2 hn2)
        go_ret2
        refine ⟨_,rfl,?_,?_⟩
        · have e:l++frL x.data.toList=l++numL x.size++leB c 8++x.data.toList:=by
            unfold frL frT
            rw [HX.out.2.1, ← HX.out.1]
            simp
          rw [e]
          exact OwnB.of Ho2.out (by rw [HX.out.2.1]) (by rw [bcells_str])
        · exact below_grown Hg2.out Hbel.out Hbel.out.size (fun k hk=>(World.ownsRow.lt Ho.out k hk).1)
  · rw [show putF3 l x.data.toList=(l,6) by unfold putF3;rw [if_neg hf]]
    have H:=Lib.hid h
    obtain ⟨aa,nn,cc,rfl⟩:=h.slice
    clear h
    by_cases h0:x.size=0
    · have hf1:((x.size:Int) == 0)=true:=by rw [h0];rfl
      clear hf hlen h0
      go_enter Tryz.func63,Tryz.ntmps63
      go_wp2_with (at_builtin;refine wpList_append_read rfl _ _ 121 rfl w.heap.size 5 i0 _ Tryz.underlying121 hi0 hz0 hs0 hb0 rfl (.slice none 0 0) 0 [] rfl (World.ownsRow_nil _ _ _ _) _ l rfl H.out (by omega) (Nat.le_refl _) ?_;intro v2 w2 ho2 hg2;have Ho2:=Lib.hid ho2;clear ho2;have Hg2:=Lib.hid hg2;clear hg2)
      go_ret2
      refine ⟨_,rfl,OwnB.of (l:=[]) Ho2.out (by simp) (by simp [bcells]),below_grown Hg2.out (Below.refl _ _) (Nat.le_refl _) (fun k hk=>by cases hk)⟩
    · have hf1:((x.size:Int) == 0)=false:=by rw [beq_eq_false_iff_ne];omega
      have hf2:decide ((65536:Int)<(x.size:Int))=true:=by
        refine decide_eq_true ?_
        unfold frOk at hf
        rw [hlen] at hf
        omega
      clear hf hlen h0
      go_enter Tryz.func63,Tryz.ntmps63
      go_wp2_with (at_builtin;refine wpList_append_read rfl _ _ 121 rfl w.heap.size 5 i0 _ Tryz.underlying121 hi0 hz0 hs0 hb0 rfl (.slice none 0 0) 0 [] rfl (World.ownsRow_nil _ _ _ _) _ l rfl H.out (by omega) (Nat.le_refl _) ?_;intro v2 w2 ho2 hg2;have Ho2:=Lib.hid ho2;clear ho2;have Hg2:=Lib.hid hg2;clear hg2)
      go_ret2
      refine ⟨_,rfl,OwnB.of (l:=[]) Ho2.out (by simp) (by simp [bcells]),below_grown Hg2.out (Below.refl _ _) (Nat.le_refl _) (fun k hk=>by cases hk)⟩
end Go.Proofs.YticjodhkmidljaaGreatDoor
namespace Go.Proofs.YticjodhkmidljaaGreatDoor
open Go.RowKit
def RdV.sumP (R:RdV):Nat→Nat × RdV
  | 0=>(0,R)
  | i+1=>((R.sumP i).1+(R.sumP i).2.byte.1.toNat*2 ^ (8*i),(R.sumP i).2.byte.2)
theorem sumP_lt (R:RdV):∀ i,(R.sumP i).1<2 ^ (8*i)
  | 0=>by simp [RdV.sumP]
  | i+1=>by
    have h:=sumP_lt R i
    have hb:=(R.sumP i).2.byte.1.toNat_lt
    unfold RdV.sumP
    rw [show 8*(i+1)=8*i+8 by omega,Nat.pow_add]
    generalize 2 ^ (8*i)=q at *
    have:(R.sumP i).2.byte.1.toNat*q+q≤256*q:=by
      have:=Nat.mul_le_mul_right q (show (R.sumP i).2.byte.1.toNat+1≤256 by omega)
      rw [Nat.add_mul,Nat.one_mul] at this
      exact this
    rw [Nat.mul_comm q]
    show _<256*q
    omega
theorem or_shift (n b i:Nat) (hn:n<2 ^ (8*i)) (hb:b<256) (hi:i<8) :
    bits BinOp.or IntKind.u64 (n:Int) (IntKind.u64.wrap (IntKind.u64.wrap (b:Int)*2 ^ (8*i)))=((n+b*2 ^ (8*i):Nat):Int):=by
  have h1:b*2 ^ (8*i)<18446744073709551616:=by
    have h2:(2:Nat) ^ (8*i)≤2 ^ 56:=Nat.pow_le_pow_right (by omega) (by omega)
    have h3:=Nat.mul_le_mul (show b≤255 by omega) h2
    have h4:255*(2:Nat) ^ 56<18446744073709551616:=by decide
    omega
  have h5:n<18446744073709551616:=by
    have h2:(2:Nat) ^ (8*i)≤2 ^ 56:=Nat.pow_le_pow_right (by omega) (by omega)
    have h4:(2:Nat) ^ 56<18446744073709551616:=by decide
    omega
  have hw1:IntKind.u64.wrap (b:Int)=(b:Int):=by rw [IntKind.wrap_u64];omega
  have hc:((b:Int)*2 ^ (8*i))=((b*2 ^ (8*i):Nat):Int):=by rw [Int.natCast_mul,Int.natCast_pow];rfl
  have hw2:IntKind.u64.wrap ((b*2 ^ (8*i):Nat):Int)=((b*2 ^ (8*i):Nat):Int):=by
    generalize b*2 ^ (8*i)=q at *
    rw [IntKind.wrap_u64]
    omega
  rw [hw1,hc,hw2]
  have h:=or_bv (BitVec.ofNat 64 n) (BitVec.ofNat 64 (b*2 ^ (8*i)))
  have e1:(BitVec.ofNat 64 n).toNat=n:=by simp;omega
  have e2:(BitVec.ofNat 64 (b*2 ^ (8*i))).toNat=b*2 ^ (8*i):=by
    generalize b*2 ^ (8*i)=q at *
    simp
    omega
  rw [BitVec.toNat_or,e1,e2] at h
  rw [h]
  congr 1
  have hk:=Nat.two_pow_add_eq_or_of_lt hn b
  rw [Nat.or_comm,Nat.mul_comm b, ← hk,Nat.add_comm]
theorem sumP_at (s:Bs):∀ i,i≤s.length→(RdV.mk 0 s).sumP i=(leN (s.take i),⟨0,s.drop i⟩)
  | 0,_=>rfl
  | i+1,h=>by
    have hi:i<s.length:=by omega
    have ht:s.take (i+1)=s.take i++[s[i]]:=by rw [List.take_add_one,List.getElem?_eq_getElem hi];rfl
    have hd:s.drop i=s[i]::s.drop (i+1):=List.drop_eq_getElem_cons hi
    rw [RdV.sumP,sumP_at s i (by omega)]
    simp only
    rw [hd,byte_app,ht,leN_app,List.length_take,Nat.min_eq_left (by omega),show (2:Nat) ^ (8*i)=256 ^ i by rw [Nat.pow_mul]]
set_option maxRecDepth 100000 in
theorem left_any (R:RdV) (g:Nat) (w:World) (h:RdAt w g R) :
    Calls Tryz.prog 107 #[.pointer (some ⟨g,0,none⟩)] w fun e w'=>e=.returned (.int .i64 ((if R.e=0 then R.s.length else 0:Nat):Int))∧w=w':=by
  have hz:=bs_size R.s
  obtain ⟨c0,c1⟩:=h.cells
  by_cases he:R.e=0
  · rw [if_pos he]
    have Hf:=Lib.hid (show Calls Tryz.prog 111 #[.pointer (some ⟨g,0,none⟩)] w fun e w'=>e=.returned (.bool false)∧w=w' from by have h2:=failed_any R g w h;rw [decide_eq_false (by rw [he];decide)] at h2;exact h2)
    clear h he
    go_enter Tryz.func107,Tryz.ntmps107
    go_wp2_with (go_at_call 111;refine Hf.out.mono ?_;rintro e w' ⟨rfl,rfl⟩)
    go_ret
    exact ⟨rfl,rfl⟩
  · rw [if_neg he]
    have Hf:=Lib.hid (show Calls Tryz.prog 111 #[.pointer (some ⟨g,0,none⟩)] w fun e w'=>e=.returned (.bool true)∧w=w' from by have h2:=failed_any R g w h;rw [decide_eq_true he] at h2;exact h2)
    clear h he
    go_enter Tryz.func107,Tryz.ntmps107
    go_wp2_with (go_at_call 111;refine Hf.out.mono ?_;rintro e w' ⟨rfl,rfl⟩)
    go_ret
    exact ⟨rfl,rfl⟩
theorem below_pos {R:RdV} {m:Nat} (h:(R.below m).1≠0):(R.below m).2.e=0:=by
  unfold RdV.below at h ⊢
  split
  · next h1 =>
    rw [if_pos h1] at h
    split
    · exact h1
    · next h2=>rw [if_neg h2] at h;exact (h rfl).elim
  · next h1=>rw [if_neg h1] at h;exact (h rfl).elim
theorem rdF_zero {s:Bs} (h:((RdV.mk 0 s).below 65537).1=0):rdF s=(0,((RdV.mk 0 s).below 65537).2.fail 4):=by unfold rdF;rw [if_pos h]
/-- A length that may be read: how the text goes on. -/
theorem rdF_pos {s:Bs} (h:((RdV.mk 0 s).below 65537).1≠0):∃ n r,1≤n∧n≤65536∧s=numL n++r∧(RdV.mk 0 s).below 65537=(n,⟨0,r⟩):=by
  have h1:=below_pos h
  have h2:=below_inv (R:=RdV.mk 0 s) (R2:=((RdV.mk 0 s).below 65537).2) (n:=((RdV.mk 0 s).below 65537).1) (m:=65537) rfl h1
  refine ⟨((RdV.mk 0 s).below 65537).1,((RdV.mk 0 s).below 65537).2.s,by omega,by have:=h2.2.1;omega,h2.2.2,?_⟩
  refine Prod.ext rfl ?_
  show ((RdV.mk 0 s).below 65537).2=⟨0,((RdV.mk 0 s).below 65537).2.s⟩
  generalize ((RdV.mk 0 s).below 65537).2=R at h1
  cases R
  cases h1
  rfl
theorem takeF_pos {n:Nat} (h0:1≤n) (h1:n≤65536) (r:Bs):takeF (numL n++r)=if r.length<8+n then ([],0,3) else if crcN ((r.drop 8).take n)≠leN (r.take 8) then ([],0,5) else ((r.drop 8).take n,(numL n).length+8+n,0):=by
  unfold takeF
  rw [rdF_app h0 h1]
  simp only
  rw [if_neg (by omega)]
  split
  · rfl
  · split
    · rfl
    · congr 2
      simp only [List.length_append]
      omega
set_option maxRecDepth 100000 in
set_option maxHeartbeats 16000000 in
theorem ftake_any (s:Bs) (hs:s.length≤100000000) (w:World) :
    Calls Tryz.prog 80 #[.string ⟨s.toArray⟩] w fun e w'=>e=.returned (.tuple #[.string ⟨(takeF s).1.toArray⟩,.int .i64 ((takeF s).2.1:Int),.int .i64 ((takeF s).2.2:Int)])∧Below w.heap.size w w':=by
  have hof:=of_any1 s (by unfold maxLen;omega) w
  have hb1:=(Below.refl w.heap.size w).alloc (Nat.le_refl _) (.cells (rdCells ⟨0,s⟩).toArray 153)
  have hr1:RdAt (w.alloc (.cells (rdCells ⟨0,s⟩).toArray 153)) w.heap.size ⟨0,s⟩:=⟨heap_alloc_new _ _,by show s.length≤_;unfold maxLen;omega⟩
  obtain ⟨w1,hw1⟩:∃ w1,w1=w.alloc (.cells (rdCells ⟨0,s⟩).toArray 153):=⟨_,rfl⟩
  rw [← hw1] at hof hb1 hr1
  have hbl:Calls Tryz.prog 106 #[.pointer (some ⟨w.heap.size,0,none⟩),.int .u64 65537] w1 _:=rbelow_any ⟨0,s⟩ 65537 w.heap.size w1 hr1
  have Hof:=Lib.hid hof
  have HB1:=Lib.hid hb1
  obtain ⟨x,hx⟩:∃ x:ByteArray,x=⟨s.toArray⟩:=⟨_,rfl⟩
  have hxs:x.size=s.length:=by rw [hx];simp [ByteArray.size]
  rw [← hx] at Hof ⊢
  by_cases h0:((RdV.mk 0 s).below 65537).1=0
  · have ht:takeF s=([],0,(((RdV.mk 0 s).below 65537).2.fail 4).e):=by
      unfold takeF
      rw [rdF_zero h0]
      simp only
      rw [if_pos (fail_e (by decide))]
    rw [ht]
    have hne:=fail_e (R:=((RdV.mk 0 s).below 65537).2) (c:=4) (by decide)
    rw [show ((RdV.mk 0 s).below 65537).1=0 from h0] at hbl
    generalize ((RdV.mk 0 s).below 65537).2=R at *
    obtain ⟨R4,hR4⟩:∃ R4,R4=R.fail 4:=⟨_,rfl⟩
    have hneq:((R4.e:Int) != 0)=true:=by rw [bne_iff_ne,hR4];exact fun e=>hne (by omega)
    have HBad:=Lib.hid (fun (y:World) (hy:RdAt y w.heap.size R)=>bad_any R w.heap.size y hy)
    have Herr:=Lib.hid (fun (y:World) (hy:RdAt y w.heap.size (R.fail 4))=>err_any (R.fail 4) w.heap.size y hy)
    rw [← hR4] at HBad Herr ⊢
    have Hbl:=Lib.hid hbl
    clear hof hb1 hr1 hw1 hx hxs hs ht h0 hbl hne hR4
    go_enter Tryz.func80,Tryz.ntmps80
    go_wp2_with (first
      | ((with_reducible refine Hof.out.mono ?_);rintro e w2 ⟨rfl,rfl⟩)
      | ((with_reducible refine Hbl.out.mono ?_);rintro e w2 ⟨rfl,h2⟩;have H2:=Lib.hid h2;clear h2)
      | ((with_reducible refine (HBad.out _ H2.out.1).mono ?_);rintro e w3 ⟨rfl,h3⟩;have H3:=Lib.hid h3;clear h3)
      | ((with_reducible refine (Herr.out _ H3.out.1).mono ?_);rintro e w' ⟨rfl,rfl⟩))
    go_ret3
    exact ⟨rfl,(H2.out.2.trans H3.out.2).below HB1.out (Nat.le_refl _)⟩
  · obtain ⟨n,r,h1,h2,hsr,hB⟩:=rdF_pos h0
    have hn9:=numL_len n
    have hsl:s.length=(numL n).length+r.length:=by rw [hsr,List.length_append]
    have htk0:takeF s=_:=(show takeF s=takeF (numL n++r) by rw [← hsr]).trans (takeF_pos h1 h2 r)
    obtain ⟨tk,htk⟩:∃ tk,tk=takeF s:=⟨_,rfl⟩
    rw [← htk] at htk0 ⊢
    clear htk
    rw [show RdV.below ⟨0,s⟩ 65537=(n,⟨0,r⟩) from hB] at hbl
    have Hbl:=Lib.hid hbl
    have Herr:=Lib.hid (fun (y:World) (hy:RdAt y w.heap.size ⟨0,r⟩)=>show Calls Tryz.prog 89 #[.pointer (some ⟨w.heap.size,0,none⟩)] y (fun e w'=>e=.returned (.int .i64 0)∧y=w') from err_any ⟨0,r⟩ w.heap.size y hy)
    have Hlf:=Lib.hid (fun (q:Bs) (y:World) (hy:RdAt y w.heap.size ⟨0,q⟩)=>show Calls Tryz.prog 107 #[.pointer (some ⟨w.heap.size,0,none⟩)] y (fun e w'=>e=.returned (.int .i64 (q.length:Int))∧y=w') from left_any ⟨0,q⟩ w.heap.size y hy)
    have hcv:IntKind.i64.wrap (n:Int)=(n:Int):=IntWalk.i64_in _ (by omega)
    have hneq:((n:Int) == 0)=false:=by rw [beq_eq_false_iff_ne];omega
    have hwa:wrap64 (8+(n:Int))=((8+n:Nat):Int):=by unfold wrap64;omega
    have HX:=Lib.hid (And.intro hx (And.intro hxs (And.intro hsl (And.intro hsr (And.intro hs (And.intro h1 h2))))))
    clear hof hb1 hr1 hw1 hx hxs hs h0 hbl hB hsl hsr h1 h2
    by_cases hsh:r.length<8+n
    · rw [if_pos hsh] at htk0
      have HTK:=Lib.hid htk0
      have hdc:(r.length:Int)<8+(n:Int):=by omega
      clear hsh htk0
      go_enter Tryz.func80,Tryz.ntmps80
      go_wp2_with (first
        | ((with_reducible refine Hof.out.mono ?_);rintro e w2 ⟨rfl,rfl⟩)
        | ((with_reducible refine Hbl.out.mono ?_);rintro e w2 ⟨rfl,h2⟩;have H2:=Lib.hid h2;clear h2)
        | ((with_reducible refine (Herr.out _ H2.out.1).mono ?_);rintro e w' ⟨rfl,rfl⟩)
        | ((with_reducible refine (Hlf.out _ _ H2.out.1).mono ?_);rintro e w' ⟨rfl,rfl⟩))
      go_ret3
      rw [HTK.out]
      exact ⟨rfl,H2.out.2.below HB1.out (Nat.le_refl _)⟩
    · rw [if_neg hsh] at htk0
      have HTK:=Lib.hid htk0
      have hdc : ¬ (r.length:Int)<8+(n:Int):=by omega
      clear htk0
      go_enter Tryz.func80,Tryz.ntmps80
      go_wp2_with (first
        | ((with_reducible refine Hof.out.mono ?_);rintro e w2 ⟨rfl,rfl⟩)
        | ((with_reducible refine Hbl.out.mono ?_);rintro e w2 ⟨rfl,h2⟩;have H2:=Lib.hid h2;clear h2)
        | ((with_reducible refine (Herr.out _ H2.out.1).mono ?_);rintro e w' ⟨rfl,rfl⟩)
        | ((with_reducible refine (Hlf.out _ _ H2.out.1).mono ?_);rintro e w' ⟨rfl,rfl⟩))
      clear Hbl Hof Herr hcv hneq hwa hdc
      have HB2:=Lib.hid (H2.out.2.below HB1.out (Nat.le_refl _))
      go_loopw [8,31] (fun s8 s31 wr=>∃ i:Nat,i≤8∧s31=.int .i64 (i:Int)∧s8=.int .u64 (((RdV.mk 0 r).sumP i).1:Int)∧RdAt wr w.heap.size ((RdV.mk 0 r).sumP i).2∧Below w.heap.size w wr) (fun _ s31 _=>8 - (intOf s31).toNat)
      case atStart=>exact ⟨0,by omega,rfl,rfl,H2.out.1,HB2.out⟩
      case round =>
        obtain ⟨i,hi,rfl,rfl,hr,ho⟩:=hrel
        clear H2 HB2
        have Ho:=Lib.hid ho;clear ho
        by_cases hlt:i<8
        · have hlt':(i:Int)<8:=by omega
          have hsucc:wrap64 ((i:Int)+1)=((i+1:Nat):Int):=by unfold wrap64;omega
          have Hb:=Lib.hid (byte_any ((RdV.mk 0 r).sumP i).2 w.heap.size wr hr);clear hr
          go_wp2_with ((with_reducible refine Hb.out.mono ?_);rintro e w2 ⟨rfl,h2⟩;have H2:=Lib.hid h2;clear h2 Hb)
          have hor:=or_shift ((RdV.mk 0 r).sumP i).1 ((RdV.mk 0 r).sumP i).2.byte.1.toNat i (sumP_lt _ i) ((RdV.mk 0 r).sumP i).2.byte.1.toNat_lt hlt
          refine ⟨⟨i+1,hlt,by simp,?_,H2.out.1,H2.out.2.below Ho.out (Nat.le_refl _)⟩,by simp [intOf];omega⟩
          rw [hor]
          rfl
        · have hlt' : ¬ (i:Int)<8:=by omega
          have he:i=8:=by omega
          subst he
          rw [sumP_at r 8 (by omega)] at hr ⊢
          simp only at hr ⊢
          obtain ⟨r8,hr8⟩:∃ r8,r8=r.drop 8:=⟨_,rfl⟩
          rw [← hr8] at hr
          have Hr:=Lib.hid hr
          obtain ⟨at_,hat⟩:∃ at_,at_=(numL n).length+8:=⟨_,rfl⟩
          have hx1:=HX.out
          have hdl:r8.length=r.length - 8:=by rw [hr8];exact List.length_drop ..
          have ha1:wrap64 ((x.size:Int) - (r8.length:Int))=(at_:Int):=by unfold wrap64;omega
          have ha2:wrap64 ((at_:Int)+(n:Int))=((at_+n:Nat):Int):=by unfold wrap64;omega
          have ha3:at_≤at_+n:=by omega
          have ha4:at_+n≤x.size:=by omega
          obtain ⟨X,hX⟩:∃ X,X=x.extract at_ (at_+n):=⟨_,rfl⟩
          have hXl:X.data.toList=(r.drop 8).take n:=by
            rw [hX,hx1.1,bs_extract,hx1.2.2.2.1]
            show ((numL n++r).take (at_+n)).drop at_=_
            rw [List.drop_take,show at_+n - at_=n by omega,hat, ← List.drop_drop,List.drop_left]
          have hXs:X.size≤maxLen:=by
            have h:=congrArg List.length hXl
            rw [str_len,List.length_take] at h
            unfold maxLen
            omega
          obtain ⟨c,hc⟩:∃ c,c=crcN ((r.drop 8).take n):=⟨_,rfl⟩
          have HSum:=Lib.hid (show ∀ y,Calls Tryz.prog 94 #[.string X] y fun e w'=>e=.returned (.int .u64 (c:Int))∧y=w' from fun y=>by
            have h:=sum_any X hXs y
            rw [hXl] at h
            rw [hc]
            exact h)
          have HXX:=Lib.hid (And.intro hX (And.intro hXl (And.intro hc hat)))
          obtain ⟨l8,hl8⟩:∃ l8,l8=leN (r.take 8):=⟨_,rfl⟩
          have HTK2:=Lib.hid (show tk=if c≠l8 then ([],0,5) else ((r.drop 8).take n,(numL n).length+8+n,0) from by rw [hc,hl8];exact HTK.out)
          rw [← hl8]
          clear hr hx1 hdl hX hXl hXs hc hat hl8 hi hlt hr8
          by_cases hcc:c=l8
          · have hne:((c:Int) != (l8:Int))=false:=by rw [hcc];simp
            have HT3:=Lib.hid (show tk=((r.drop 8).take n,(numL n).length+8+n,0) from by rw [HTK2.out,if_neg (fun h=>h hcc)])
            clear hcc
            go_wp2_with (first
              | ((with_reducible refine (Hlf.out _ _ Hr.out).mono ?_);rintro e w' ⟨rfl,rfl⟩)
              | (rw [← HXX.out.1];(with_reducible refine (HSum.out _).mono ?_);rintro e w' ⟨rfl,rfl⟩))
            go_ret3
            rw [HT3.out]
            refine ⟨?_,Ho.out⟩
            have hXe:X=⟨((r.drop 8).take n).toArray⟩:=by
              apply ByteArray.ext
              apply Array.toList_inj.1
              rw [HXX.out.2.1]
            rw [ha2,hXe,show at_+n=(numL n).length+8+n by rw [HXX.out.2.2.2]]
            rfl
          · have hne:((c:Int) != (l8:Int))=true:=by rw [bne_iff_ne];omega
            have HT3:=Lib.hid (show tk=([],0,5) from by rw [HTK2.out,if_pos hcc])
            clear hcc
            go_wp2_with (first
              | ((with_reducible refine (Hlf.out _ _ Hr.out).mono ?_);rintro e w' ⟨rfl,rfl⟩)
              | (rw [← HXX.out.1];(with_reducible refine (HSum.out _).mono ?_);rintro e w' ⟨rfl,rfl⟩))
            go_ret3
            rw [HT3.out]
            exact ⟨rfl,Ho.out⟩
end Go.Proofs.YticjodhkmidljaaGreatDoor
