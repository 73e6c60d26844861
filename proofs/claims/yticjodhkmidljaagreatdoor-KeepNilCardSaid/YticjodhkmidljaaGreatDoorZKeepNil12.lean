/- Log: names of segments. Condition: the library's variables hold what the program's text lays. -/
import Derived.Lib.ParseIntBCases
import Derived.Test.YticjodhkmidljaaGreatDoorZKeepNil11
import Derived.Test.YticjodhkmidljaaGreatDoorZKeepNil8
import Derived.Test.YticjodhkmidljaaGreatDoorZKeepNil4
namespace Go.Proofs.YticjodhkmidljaaGreatDoor
open Go.RowKit Go.Shelf
/-- A segment's name. -/
def sname (n:Nat):Bs:=115::(List.replicate (8 - (Lib.itoa (n:Int)).length) 48++Lib.itoa (n:Int))
theorem rep48:∀ k,Lib.repeatL [48] k=List.replicate k 48
  | 0=>rfl
  | k+1=>by rw [Lib.repeatL,rep48 k,List.replicate_succ];rfl
set_option maxRecDepth 100000 in
theorem lname_any (n:Nat) (hn:n≤9223372036854775807) (hl:(Lib.itoa (n:Int)).length≤8) (w:World) (hv:PV w) :
    Calls Tryz.prog 70 #[.int .i64 (n:Int)] w fun e w'=>e=.returned (.string ⟨(sname n).toArray⟩)∧Below w.heap.size w w':=by
  have H:=Lib.hid (itoa_any (n:Int) (by omega) (by omega) w hv)
  have HR:=Lib.hid (fun (c:Nat) (hc:c≤1000) (y:World)=>show Calls Tryz.prog 97 #[.string ⟨#[48]⟩,.int .i64 (c:Int)] y fun e w'=>e=.returned (.string ⟨(Lib.repeatL [48] c).toArray⟩)∧Below y.heap.size y w' from rep_any ⟨#[48]⟩ c y hc (by decide))
  clear hv hn
  obtain ⟨x,hx⟩:∃ x:ByteArray,x=⟨(Lib.itoa (n:Int)).toArray⟩:=⟨_,rfl⟩
  rw [← hx] at H
  have hxs:x.size=(Lib.itoa (n:Int)).length:=by rw [hx];simp [ByteArray.size]
  have hx16:x.size≤8:=by omega
  have HX0:=Lib.hid (And.intro hx hxs)
  clear hx hxs hl
  go_enter Tryz.func70,Tryz.ntmps70
  go_upto_region 2 with ((with_reducible refine H.out.mono ?_);rintro e w1 ⟨rfl,hb⟩;have HM:=Lib.hid hb;clear hb)
  obtain ⟨c,hc⟩:∃ c,c=8 - x.size:=⟨_,rfl⟩
  obtain ⟨Z,hZ⟩:∃ Z:ByteArray,Z=⟨(Lib.repeatL [48] c).toArray⟩:=⟨_,rfl⟩
  have hZs:Z.size=c:=by rw [hZ];simp [ByteArray.size,Lib.repeatL_length]
  have hc1:=HR.out c (by omega) w1
  have hw:wrap64 (8 - (x.size:Int))=(c:Int):=by unfold wrap64;omega
  rw [← hZ] at hc1
  have HC:=Lib.hid hc1
  have HC2:=Lib.hid (by have h2:=hc1;rw [show ((c:Nat):Int)=8 - (x.size:Int) by omega] at h2;exact h2)
  have hZ16:Z.size≤8:=by omega
  have HX:=Lib.hid (And.intro hc hZ)
  have hn1:(9223372036854775807<1+Z.size)=False:=by simp;omega
  have hn2:(9223372036854775807<1+Z.size+x.size)=False:=by simp;omega
  clear hc hZ hZs hc1
  go_wp2_with (first
    | ((with_reducible refine HC.out.mono ?_);rintro e w2 ⟨rfl,hb⟩;have HB:=Lib.hid hb;clear hb)
    | ((with_reducible refine HC2.out.mono ?_);rintro e w2 ⟨rfl,hb⟩;have HB:=Lib.hid hb;clear hb))
  go_ret
  refine ⟨?_,HM.out.trans (HB.out.mono HM.out.size)⟩
  show Ending.returned (Value.string (({ data:=#[115] }:ByteArray)++Z++x))=_
  congr 2
  apply ByteArray.ext
  apply Array.toList_inj.1
  rw [ByteArray.data_append,ByteArray.data_append,Array.toList_append,Array.toList_append,HX0.out.1,HX.out.2,rep48,HX.out.1,HX0.out.2]
  show [115]++List.replicate (8 - (Lib.itoa (n:Int)).length) 48++Lib.itoa (n:Int)=sname n
  unfold sname
  simp
/-- A segment's number, of a name. -/
def numN (nm:Bs):Option Nat:=if nm.length=9∧nm.headD 0=115 then (okOf (Lib.parseUintB 32 (nm.drop 1))).bind (fun n=>if n=0 then none else some n) else none
theorem okOf_le {l:Bs} {u:Nat} (h:okOf (Lib.parseUintB 32 l)=some u):u≤4294967295:=by
  cases hp:Lib.parseUintB 32 l with
  | ok v =>
    rw [hp] at h
    have h2:=Lib.parseUintB_le hp
    cases h
    exact h2
  | _=>rw [hp] at h;cases h
set_option maxRecDepth 100000 in
set_option maxHeartbeats 4000000 in
theorem lnum_any (x:ByteArray) (w:World) (hv:PV w) :
    Calls Tryz.prog 83 #[.string x] w fun e w'=>e=.returned (.tuple #[.int .i64 (((numN x.data.toList).getD 0:Nat):Int),.bool (numN x.data.toList).isSome])∧Below w.heap.size w w':=by
  have hxl:x.data.toList.length=x.size:=Array.length_toList
  by_cases h9:x.size=9
  · have h9i:((x.size:Int) != 9)=false:=by rw [h9];rfl
    obtain ⟨y,hy⟩:∃ y,y=x.extract 1 9:=⟨_,rfl⟩
    have hyl:y.data.toList=x.data.toList.drop 1:=by
      rw [hy,ByteArray.data_extract,Array.toList_extract,List.extract_eq_take_drop,List.take_of_length_le (by rw [List.length_drop];omega)]
    have hys:y.size=8:=by
      have h:=congrArg List.length hyl
      rw [List.length_drop,hxl] at h
      have h2:y.data.toList.length=y.size:=Array.length_toList
      omega
    have h0:0<x.size:=by omega
    have hhd:x.data.toList.headD 0=x[0]'h0:=by
      have e:x.data.toList[0]?=some (x[0]'h0):=by
        rw [List.getElem?_eq_getElem (by omega)]
        rfl
      cases hd:x.data.toList with
      | nil=>rw [hd] at hxl;simp at hxl;omega
      | cons b r=>rw [hd] at e;simpa using e
    by_cases hb:x.data.toList.headD 0=115
    · have hbi:(((x[0]'h0).toNat:Int) != 115)=false:=by rw [← hhd,hb];rfl
      have hN:numN x.data.toList=(okOf (Lib.parseUintB 32 y.data.toList)).bind (fun n=>if n=0 then none else some n):=by
        unfold numN
        rw [if_pos ⟨by omega,hb⟩,hyl]
      have HP:=Lib.hid (puint_any y (by omega) w hv)
      have hle:=fun u=>okOf_le (l:=y.data.toList) (u:=u)
      rw [hN]
      generalize okOf (Lib.parseUintB 32 y.data.toList)=R at *
      have Hy:=Lib.hid hy
      clear hN hy hyl hys hxl hv hb hhd
      cases R with
      | none =>
        clear hle
        go_enter Tryz.func83,Tryz.ntmps83
        go_wp2_with (rw [← Hy.out];go_at_call 105;refine HP.out.mono ?_;rintro e w1 ⟨hb,q,t,p,hq,rfl⟩;have HB:=Lib.hid hb;clear hb hq)
        go_ret2
        exact ⟨rfl,HB.out⟩
      | some n =>
        have hn:=hle n rfl
        clear hle
        by_cases hz:n=0
        · subst hz
          go_enter Tryz.func83,Tryz.ntmps83
          go_wp2_with (rw [← Hy.out];go_at_call 105;refine HP.out.mono ?_;rintro e w1 ⟨hb,rfl⟩;have HB:=Lib.hid hb;clear hb)
          go_ret2
          exact ⟨rfl,HB.out⟩
        · rw [show (some n).bind (fun n=>if n=0 then none else some n)=some n by rw [Option.bind_some,if_neg hz]]
          have hn0:((n:Int) == 0)=false:=by rw [beq_eq_false_iff_ne];omega
          have hw:wrap64 (n:Int)=(n:Int):=by unfold wrap64;omega
          have HW:=Lib.hid hw
          clear hz hn hw
          go_enter Tryz.func83,Tryz.ntmps83
          go_wp2_with (rw [← Hy.out];go_at_call 105;refine HP.out.mono ?_;rintro e w1 ⟨hb,rfl⟩;have HB:=Lib.hid hb;clear hb)
          go_ret2
          refine ⟨?_,HB.out⟩
          show Ending.returned (.tuple #[.int .i64 (wrap64 (n:Int)),.bool true])=_
          rw [HW.out]
          rfl
    · have hbi:(((x[0]'h0).toNat:Int) != 115)=true:=by
        rw [← hhd,bne_iff_ne]
        intro q
        apply hb
        apply UInt8.toNat_inj.1
        show _=115
        omega
      rw [show numN x.data.toList=none by unfold numN;rw [if_neg (fun h=>hb h.2)]]
      clear hv hxl hy hyl hys hhd hb
      go_enter Tryz.func83,Tryz.ntmps83
      go_wp2
      go_ret2
      exact ⟨rfl,Below.refl _ _⟩
  · have h9i:((x.size:Int) != 9)=true:=by rw [bne_iff_ne];omega
    rw [show numN x.data.toList=none by unfold numN;rw [if_neg (fun h=>h9 (by rw [← hxl];exact h.1))]]
    clear h9 hv hxl
    go_enter Tryz.func83,Tryz.ntmps83
    go_wp2
    go_ret2
    exact ⟨rfl,Below.refl _ _⟩
end Go.Proofs.YticjodhkmidljaaGreatDoor
namespace Go.Proofs.YticjodhkmidljaaGreatDoor
open Go Go.RowKit
/-- An iterator's law: it names the blocks that are its own when it has laid them; all of them are new; whatever the rounds do, they leave what the iterator reads (Rd). -/
def SeqE {α:Type} (F:Fence) (n:Nat) (P:Program) (g:Nat) (lb:Array Value) (encs:α→Array Value) (S Sp:List α→Prop) (Rd:World→Prop) (T:List Nat) (Fin:List α→World→Prop) (w:World):Prop :=
  ∀ (l:Nat) (J Jx:(Nat→Prop)→List α→World→Prop) (W:World),Below w.heap.size w W→(∀ Y,NewY Y W→AbidesZ Y (J Y))→(∀ Y,NewY Y W→AbidesZ Y (Jx Y))→(∀ Y pre W1,J Y pre W1→Rd W1) →
    (∀ Y xs W1 W2,NewY Y W→S xs→J Y xs W1→Turns T W1 W2→Fin xs W2→J Y xs W2) →
    (∀ Y pre x W1,NewY Y W→J Y pre W1→(∀ r,Y r→r<W1.heap.size)→Sp (pre++[x])→YieldAt F (n - 1) P l (encs x) W1 fun e W' =>
      (e=.returned (.bool true)∧J Y (pre++[x]) W'∧KeptZ Y W1 W')∨(e=.returned (.bool false)∧Jx Y (pre++[x]) W'∧KeptZ Y W1 W')) →
    (∀ Y,NewY Y W→J Y [] W) →
    CallsIn F n P g (#[.func (.yield l) #[] #[]]++lb) W fun e W'=>(∃ v,e=.returned v)∧∃ Y:Nat→Prop,NewY Y W∧((∃ xs,S xs∧J Y xs W'∧Fin xs W')∨(∃ pre,Sp pre∧Jx Y pre W'))
variable {F : Fence} {n : Nat} {P : Program}
theorem wpIn_rangeE {α:Type} {g:Operand} {ps:Array Tmp} {assign body:Code} {Q:Exit→Act→World→Prop} {a:Act} {w:World}
    (hro:F.round=none) (h1:1≤n) {gf:Nat} {lb:Array Value} (hg:a.eval g=.func (.func gf) #[] lb) (hFg:F.fn gf) (eg:∀ args w,(callFunc gf args).run P w=.ok (.enter gf args) w)
    {encs:α→Array Value} {S Sp:List α→Prop} {Rd:World→Prop} {T:List Nat} {Fin:List α→World→Prop} {w0:World} (hseq:SeqE F (n - 1) P gf lb encs S Sp Rd T Fin w0) (hT:∀ r ∈ T,r<w0.heap.size) (hFin:AbidesZ (fun r=>w0.heap.size≤r) Fin) (hb0:Below w0.heap.size w0 w) (hps:∀ x,(encs x).size=ps.size)
    (I:(Nat→Prop)→List α→World→Prop) (Ix:(Nat→Prop)→Code→List α→World→Prop) (hI:∀ Y,NewY Y w→AbidesZ Y (I Y)) (hIx:∀ Y,NewY Y w→∀ c,AbidesZ Y (Ix Y c)) (hRd:∀ Y pre W,I Y pre W→Rd W) (hIT:∀ Y xs W W',NewY Y w→S xs→I Y xs W→Turns T W W'→Fin xs W'→I Y xs W')
    (h0:∀ Y,NewY Y w→I Y [] w) (a₁:α→Act)
    (hassign:∀ (l:Nat) (x:α) (W:World) (K:Act→World→Prop),K (a₁ x) W →
      assign.wpIn (F.inRound l) (n - 1 - 1) P (Exit.then K (fun _ _ _=>False)) { tmps:=(ps.zip (encs x)).foldl (fun t (p,v)=>t.setIfInBounds p v) a.tmps,defers:=[] } W)
    (hbody:∀ (l:Nat) (Y:Nat→Prop) (pre:List α) (x:α) (W:World),NewY Y w→(∀ r,Y r→r<W.heap.size)→I Y pre W→Sp (pre++[x])→body.wpIn (F.inRound l) (n - 1 - 1) P (ownPostZ Y (I Y) (Ix Y) (pre++[x]) W) (a₁ x) W)
    (hdone:∀ (Y:Nat→Prop) (xs:List α) (W:World),NewY Y w→Y w.heap.size→S xs→I Y xs W→Fin xs W→W.heap[w.heap.size]?=some (.deferred (some []))→Q .normal { a with defers:={ target:=.collected w.heap.size,args:=#[] }::a.defers } W)
    (hstop:∀ (Y:Nat→Prop) (c:Code) (pre:List α) (W:World),NewY Y w→Y w.heap.size→Sp pre→Ix Y c pre W→W.heap[w.heap.size]?=some (.deferred (some []))→c.wpIn F n P Q { a with defers:={ target:=.collected w.heap.size,args:=#[] }::a.defers } W) :
    (Code.rangeFunc g ps assign body).wpIn F n P Q a w:=by
  refine wpIn_rangeFunc (fun fn hfn=>?_)
  rw [hro]
  have hDd:∀ {X:Nat→Prop},NewY X w→∀ r,X r→w.heap.size≤r:=fun h r hr=>h r hr
  generalize hD:w.heap.size=D at *
  let rec0:LoopState→Option Code→Obj:=fun st pe=>.loop { state:=st,pending:=pe,fn,tmps:=a.tmps,params:=ps,assign,body,defers:=D }
  let V:=(w.alloc (.deferred (some []))).alloc (rec0 .ready none)
  have sV:V.heap.size=D+2:=by simp [V,hD]
  have rV:V.heap[D+1]?=some (rec0 .ready none):=by
    have h:=World.alloc_heap_new (w.alloc (.deferred (some []))) (rec0 .ready none)
    rwa [World.size_alloc,hD] at h
  have dV:V.heap[D]?=some (.deferred (some [])):=by
    have h:=World.alloc_heap_new w (.deferred (some []))
    rw [hD] at h
    exact (Below.heap_alloc _ _ _ (by rw [World.size_alloc];omega)).trans h
  have bw:Below w.heap.size w V:=((Below.refl _ w).alloc (Nat.le_refl _) _).alloc (by simp) _
  have bV:Below w0.heap.size w0 V:=hb0.trans (bw.mono hb0.size)
  let Zo:(Nat→Prop)→Nat→Prop:=fun Y r=>Y r∨r=D∨r=D+1
  have zN:∀ Y,NewY Y V→NewY (Zo Y) w:=fun Y hY r hr=>by
    rcases hr with h | h | h
    · have:=hY r h;omega
    · omega
    · omega
  have iV:∀ Y,NewY Y V→I (Zo Y) [] V:=fun Y hY=>hI _ (zN Y hY) _ _ _ none (h0 _ (zN Y hY)) ⟨bw.os,bw.tape,bw.output,bw.size,fun q hq _=>bw.block q hq⟩ (fun r e=>by cases e)
  have turn:∀ {β:Type} {Y:Nat→Prop} {J:β→World→Prop} (_:AbidesZ (Zo Y) J) {s:β} {A:World} (o:Obj),J s A→J s (A.putObj (D+1) o):=@fun β Y J hJ s A o h=>hJ s A _ (some (D+1)) h (grownBy_putObj' A (D+1) o) (fun r e=>by cases e;exact .inr (.inr rfl))
  refine ⟨D+1,[{ target:=.collected D,args:=#[] }],V,{ target:=.fn (.func gf) lb,args:=#[.func (.yield (D+1)) #[] #[]] },V,gf,#[.func (.yield (D+1)) #[] #[]]++lb,V,?_,?_,?_,?_,fun _=>h1,?_⟩
  · subst hD;exact run_enterLoop_outer _ _ _ _ _
  · simp only [resolve,hg];simp [go_sem]
  · intro f' hf';simp [Target.leads] at hf';subst hf';exact hFg
  · simp [invoke,go_sem,eg]
  have yD:∀ {Y:Nat→Prop},NewY Y V → ¬ Y D:=fun hY h=>by have:=hY _ h;omega
  have yL:∀ {Y:Nat→Prop},NewY Y V → ¬ Y (D+1):=fun hY h=>by have:=hY _ h;omega
  have abide:∀ {Y:Nat→Prop} {A B:World} {row:Option Nat} {q:Nat} {o:Obj},A.grownBy B row→(∀ r,row=some r→Y r) → ¬ Y q→A.heap[q]?=some o→B.heap[q]?=some o:=fun hg hr hq h =>
    (hg.block _ (Array.getElem?_eq_some_iff.1 h).1 (fun e=>hq (hr _ e.symm))).trans h
  refine (hseq (D+1) (fun Y pre W=>I (Zo Y) pre W∧W.heap[D+1]?=some (rec0 .ready none)∧W.heap[D]?=some (.deferred (some [])))
    (fun Y pre W=>∃ c,Ix (Zo Y) c pre W∧W.heap[D+1]?=some (rec0 .done (some c))∧W.heap[D]?=some (.deferred (some []))) V bV
    (fun Y hY s A B row hs hg' hr=>⟨hI _ (zN Y hY) s A B row hs.1 hg' (fun r e=>.inl (hr r e)),abide hg' hr (yL hY) hs.2.1,abide hg' hr (yD hY) hs.2.2⟩)
    (fun Y hY s A B row hs hg' hr=>hs.elim fun c hc=>⟨c,hIx _ (zN Y hY) c s A B row hc.1 hg' (fun r e=>.inl (hr r e)),abide hg' hr (yL hY) hc.2.1,abide hg' hr (yD hY) hc.2.2⟩)
    (fun Y pre W1 h=>hRd _ _ _ h.1) (fun Y xs W1 W2 hY hS h ht hf=>⟨hIT _ xs W1 W2 (zN Y hY) hS h.1 ht hf,(ht.block _ (Array.getElem?_eq_some_iff.1 h.2.1).1 (fun q=>by have:=hT _ q;have:=hb0.size;omega)).trans h.2.1,(ht.block _ (Array.getElem?_eq_some_iff.1 h.2.2).1 (fun q=>by have:=hT _ q;have:=hb0.size;omega)).trans h.2.2⟩) ?_ (fun Y hY=>⟨iV Y hY,rV,dV⟩)).mono ?_
  · rintro Y pre x W hY ⟨hi,hl,hk⟩ hsz hSp
    have hlt:D+1<W.heap.size:=(Array.getElem?_eq_some_iff.1 hl).1
    have hItu:=hI _ (zN Y hY)
    have hIxu:=hIx _ (zN Y hY)
    have zD:Zo Y D:=.inr (.inl rfl)
    have zL:Zo Y (D+1):=.inr (.inr rfl)
    have hzz:∀ r,Zo Y r→r<W.heap.size:=fun r hr=>by
      rcases hr with h | h | h
      · exact hsz r h
      · omega
      · omega
    refine ⟨fn,_,assign,body,run_yield (P:=P) (args:=encs x) hl (hps x),roundIn_of_wpIn hfn (wpIn_mono (hassign (D+1) x W (fun a' W'=>a'=a₁ x∧W'=W) ⟨rfl,rfl⟩) (fun e a1 W1 he=>?_))⟩
    cases e with
    | normal =>
      obtain ⟨rfl,rfl⟩:=he
      refine ⟨_,run_beginRound hl rfl,wpIn_mono (hbody (D+1) (Zo Y) pre x _ (zN Y hY) (fun r hr=>by simpa using hzz r hr) (turn hItu _ hi) hSp) ?_⟩
      generalize hW2:W1.putObj (D+1) _=W2
      have hl2:W2.heap[D+1]?=some (rec0 .busy none):=by rw [← hW2];exact World.putObj_heap_same hlt
      have hk2:W2.heap[D]?=some (.deferred (some [])):=by rw [← hW2];exact (World.putObj_heap_other (by omega)).trans hk
      have ky:KeptZ Y W1 W2:=by rw [← hW2];exact KeptZ.put (yL hY) _
      have yZ:∀ r,Y r→Zo Y r:=fun r hr=>.inl hr
      have fin:∀ (jump:Option Code) (W3:World),KeptZ (Zo Y) W2 W3→W3.heap[D+1]?=some (rec0 .busy none)∧W3.heap[D]?=some (.deferred (some [])) ∧
          (Instr.endRound (D+1) jump).run P W3=.ok (.bool jump.isNone) (W3.putObj (D+1) (rec0 (if jump.isNone then .ready else .done) jump)):=fun jump W3 k3 =>
        ⟨k3 _ _ zL hl2,k3 _ _ zD hk2,run_endRound (P:=P) jump (k3 _ _ zL hl2)⟩
      have rest:∀ (st:LoopState) (pe:Option Code) (W3:World),W3.heap[D+1]?=some (rec0 .busy none)→W3.heap[D]?=some (.deferred (some [])) →
          (W3.putObj (D+1) (rec0 st pe)).heap[D+1]?=some (rec0 st pe)∧(W3.putObj (D+1) (rec0 st pe)).heap[D]?=some (.deferred (some [])):=fun st pe W3 h2 h3 =>
        ⟨World.putObj_heap_same (Array.getElem?_eq_some_iff.1 h2).1,(World.putObj_heap_other (by omega)).trans h3⟩
      intro e2 a3 W3 hp
      cases e2 with
      | normal =>
        obtain ⟨k3,i3⟩:=hp
        obtain ⟨h2,h3,hrun⟩:=fin none W3 k3
        exact ⟨_,_,hrun,.inl ⟨rfl,⟨turn hItu _ i3,rest _ _ _ h2 h3⟩,(ky.trans (k3.sub yZ)).trans (KeptZ.put (yL hY) _)⟩⟩
      | ret =>
        obtain ⟨h2,h3,hrun⟩:=fin (some .ret) W3 hp.1
        exact ⟨_,_,hrun,.inr ⟨rfl,⟨.ret,turn (hIxu _) _ hp.2,rest _ _ _ h2 h3⟩,(ky.trans (hp.1.sub yZ)).trans (KeptZ.put (yL hY) _)⟩⟩
      | exit id =>
        obtain ⟨h2,h3,hrun⟩:=fin (some (.exit id)) W3 hp.1
        exact ⟨_,_,hrun,.inr ⟨rfl,⟨.exit id,turn (hIxu _) _ hp.2,rest _ _ _ h2 h3⟩,(ky.trans (hp.1.sub yZ)).trans (KeptZ.put (yL hY) _)⟩⟩
      | goto t =>
        obtain ⟨h2,h3,hrun⟩:=fin (some (.goto t)) W3 hp.1
        exact ⟨_,_,hrun,.inr ⟨rfl,⟨.goto t,turn (hIxu _) _ hp.2,rest _ _ _ h2 h3⟩,(ky.trans (hp.1.sub yZ)).trans (KeptZ.put (yL hY) _)⟩⟩
      | panic ch=>exact hp.elim
      | outgrown=>exact hp.elim
    | exit id=>exact he.elim
    | goto t=>exact he.elim
    | ret=>exact he.elim
    | panic ch=>exact he.elim
    | outgrown=>exact he.elim
  · rintro e W2 ⟨⟨v,rfl⟩,Y,hY,(⟨xs,hS,⟨hi,hl,hk⟩,hf⟩ | ⟨pre,hSp,c,hi,hl,hk⟩)⟩
    · exact ⟨none,_,run_endLoop (P:=P) hl (by simp),hdone (Zo Y) xs _ (zN Y hY) (.inr (.inl rfl)) hS (turn (hI _ (zN Y hY)) _ hi) (hFin _ _ _ (some (D+1)) hf (grownBy_putObj' _ (D+1) _) (fun r e=>by cases e;have:=hb0.size;omega)) ((World.putObj_heap_other (by omega)).trans hk)⟩
    · exact ⟨some c,_,run_endLoop (P:=P) hl (by simp),hstop (Zo Y) c pre _ (zN Y hY) (.inr (.inl rfl)) hSp (turn (hIx _ (zN Y hY) c) _ hi) ((World.putObj_heap_other (by omega)).trans hk)⟩
end Go.Proofs.YticjodhkmidljaaGreatDoor
namespace Go.Proofs.YticjodhkmidljaaGreatDoor
open Go.RowKit Go.Shelf
theorem rdF_len (s:Bs):(rdF s).2.s.length≤s.length:=by
  unfold rdF
  split
  · rw [fail_s];exact below_len _ _
  · exact below_len _ _
theorem takeF_adv {s:Bs} (h:(takeF s).2.2=0):8≤(takeF s).2.1∧(takeF s).2.1≤s.length:=by
  have hr:=rdF_len s
  unfold takeF at h ⊢
  by_cases h1:(rdF s).2.e≠0
  · rw [if_pos h1] at h;exact (h1 h).elim
  · rw [if_neg h1] at h ⊢
    by_cases h2:(rdF s).2.s.length<8+(rdF s).1
    · rw [if_pos h2] at h;cases h
    · rw [if_neg h2] at h ⊢
      by_cases h3:crcN (((rdF s).2.s.drop 8).take (rdF s).1)≠leN ((rdF s).2.s.take 8)
      · rw [if_pos h3] at h;cases h
      · rw [if_neg h3]
        show 8≤s.length - (rdF s).2.s.length+8+(rdF s).1∧s.length - (rdF s).2.s.length+8+(rdF s).1≤s.length
        omega
/-- The frames of s up to byte k: where each one begins, and its inside. -/
inductive FrP (s:Bs):List (Nat × Bs)→Nat→Prop
  | nil:FrP s [] 0
  | snoc {l:List (Nat × Bs)} {k:Nat} (h:FrP s l k) (hk:k<s.length) (he:(takeF (s.drop k)).2.2=0):FrP s (l++[(k,(takeF (s.drop k)).1)]) (k+(takeF (s.drop k)).2.1)
/-- .. and why there is no further one. -/
def FrE (s:Bs) (l:List (Nat × Bs)) (k c:Nat):Prop:=FrP s l k∧((s.length≤k∧c=0)∨(k<s.length∧(takeF (s.drop k)).2.2=c∧c≠0))
theorem FrP.le {s:Bs} {l:List (Nat × Bs)} {k:Nat} (h:FrP s l k):k≤s.length:=by
  induction h with
  | nil=>exact Nat.zero_le _
  | snoc h hk he ih =>
    have:=(takeF_adv he).2
    rw [List.length_drop] at this
    omega
set_option maxRecDepth 100000 in
/-- Split's inner function: where the frames end, and why. -/
theorem fend_any (t6 t7 k c:Nat) (a b:Value) (hne:t6≠t7) (w:World) (h6:w.heap[t6]?=some (.cells #[a] 3 (0,0))) (h7:w.heap[t7]?=some (.cells #[b] 28 (0,0))) :
    Calls Tryz.prog 110 #[.int .i64 (k:Int),.int .i64 (c:Int),.pointer (some ⟨t6,0,none⟩),.pointer (some ⟨t7,0,none⟩)] w fun e w'=>(∃ v,e=.returned v)∧w'.heap[t6]?=some (.cells #[.int .i64 (k:Int)] 3 (0,0))∧w'.heap[t7]?=some (.cells #[.int .i64 (c:Int)] 28 (0,0))∧Turns [t6,t7] w w':=by
  have f6:=thaw0 0 h6
  have f7:=thaw0 0 h7
  have c6:=cell_of_row _ _ 0 _ _ _ h6
  have c7:=cell_of_row _ _ 0 _ _ _ h7
  rw [show (#[a]:Array Value)[0]?=some a from rfl] at c6
  rw [show (#[b]:Array Value)[0]?=some b from rfl] at c7
  have H:=Lib.hid (And.intro h6 h7)
  clear h6 h7
  go_enter Tryz.func110,Tryz.ntmps110
  go_wp2
  refine bodyPost_end (results_none rfl _ _ _) rfl ?_
  obtain ⟨h6,h7⟩:=H.out
  have e7:(w.setCell ⟨t6,0,none⟩ (.int .i64 (k:Int))).heap[t7]?=some (.cells #[b] 28 (0,0)):=(setC_other (fun q=>hne q.symm)).trans h7
  have e6:=heap_setCell_same w t6 0 #[a] _ (.int .i64 (k:Int)) h6
  have g7:=heap_setCell_same _ t7 0 #[b] _ (.int .i64 (c:Int)) e7
  refine ⟨⟨_,rfl⟩,?_,?_,?_⟩
  · exact (setC_other hne).trans e6
  · exact g7
  · refine ⟨rfl,rfl,rfl,by simp,fun g hg hn=>?_⟩
    rw [setC_other (fun q=>hn (by simp [q])),setC_other (fun q=>hn (by simp [q]))]
end Go.Proofs.YticjodhkmidljaaGreatDoor
namespace Go.Proofs.YticjodhkmidljaaGreatDoor
open Go.RowKit Go.Shelf
def encP (x:Nat × Bs):Array Value:=#[.int .i64 (x.1:Int),.string ⟨x.2.toArray⟩]
/-- What the iterator reads, and what it turns at its end. -/
structure FrRd (gs ge t6 t7:Nat) (s:Bs) (W:World):Prop where
  s:W.heap[gs]?=some (.cells #[.string ⟨s.toArray⟩] 9 (0,0))
  e:W.heap[ge]?=some (.cells #[.func (.func 110) #[] #[.pointer (some ⟨t6,0,none⟩),.pointer (some ⟨t7,0,none⟩)]] 179 (0,0))
  a:∃ a,W.heap[t6]?=some (.cells #[a] 3 (0,0))
  b:∃ b,W.heap[t7]?=some (.cells #[b] 28 (0,0))
/-- What lies there behind the last frame. -/
def FrFin (t6 t7:Nat) (s:Bs) (xs:List (Nat × Bs)) (W:World):Prop:=∃ k c,FrE s xs k c∧W.heap[t6]?=some (.cells #[.int .i64 (k:Int)] 3 (0,0))∧W.heap[t7]?=some (.cells #[.int .i64 (c:Int)] 28 (0,0))
theorem fr_less3 {L k n:Nat} (hw:wrap64 ((k:Int)+(n:Int))=((k+n:Nat):Int)) (hk:k<L) (hn:8≤n):L - (intOf (.int .i64 (wrap64 ((k:Int)+(n:Int))))).toNat<L - (intOf (.int .i64 (k:Int))).toNat:=by rw [hw];show L - ((k+n:Nat):Int).toNat<L - (k:Int).toNat;omega
theorem wrap_add {k n:Nat} (h:k+n≤100000000):wrap64 ((k:Int)+(n:Int))=((k+n:Nat):Int):=by unfold wrap64;omega
set_option maxRecDepth 100000 in
set_option maxHeartbeats 8000000 in
theorem frames_stops (m gs ge t6 t7:Nat) (s:Bs) (hs:s.length≤100000000) (hne:t6≠t7) (w:World) :
    SeqE Fence.wide m Tryz.prog 139 #[.pointer (some ⟨gs,0,none⟩),.pointer (some ⟨ge,0,none⟩)] encP (fun xs=>∃ k c,FrE s xs k c) (fun pre=>∃ k,FrP s pre k) (FrRd gs ge t6 t7 s) [t6,t7] (FrFin t6 t7 s) w:=by
  intro l J Jx W hW hJ hJx hRd hJT hY h0
  obtain ⟨Y,hYd⟩:∃ Y:Nat→Prop,Y=fun _=>False:=⟨_,rfl⟩
  have hYN:NewY Y W:=fun r hr=>by rw [hYd] at hr;exact hr.elim
  have HA:=Lib.hid (And.intro hJ (And.intro hJx (And.intro hRd (And.intro hY (And.intro h0 hJT)))))
  have HY:=Lib.hid (And.intro hYN hYd)
  have HS:=Lib.hid (And.intro hs hne)
  obtain ⟨S,hS⟩:∃ S:ByteArray,S=⟨s.toArray⟩:=⟨_,rfl⟩
  have hSz:S.size=s.length:=by rw [hS];simp [ByteArray.size]
  have HSS:=Lib.hid (And.intro hS hSz)
  have HJ0:=Lib.hid (h0 Y hYN)
  clear hJ hJx hRd hY h0 hJT hW hs hne hYd hYN hS hSz
  refine callsIn_of_wp Tryz.func139 rfl trivial ?_ rfl
  simp only [Tryz.ntmps139,List.size_toArray,List.length_cons,List.length_nil,Nat.reduceAdd,Nat.reduceSub,Array.replicate_succ,Array.replicate_zero,List.push_toArray,List.append_toArray,List.nil_append,List.cons_append]
  gi_wp2
  gi_loopw [4] (fun s4 wr=>∃ (k:Nat) (pre:List (Nat × Bs)),s4=.int .i64 (k:Int)∧FrP s pre k∧J Y pre wr) (fun s4 _=>s.length - (intOf s4).toNat)
  case atStart=>exact ⟨0,[],rfl,.nil,HJ0.out⟩
  case round =>
    obtain ⟨k,pre,rfl,hp,hj⟩:=hrel
    have hrd:=HA.out.2.2.1 Y _ _ hj
    have c0:=cell_of_row _ _ 0 _ _ _ hrd.s
    rw [← HSS.out.1,show (#[Value.string S])[0]?=some (.string S) from rfl] at c0
    have hkl:=hp.le
    have HP:=Lib.hid hp
    have HR:=Lib.hid hrd
    have HJ:=Lib.hid hj
    clear hp hj hrd
    have hks:=hkl
    rw [← HSS.out.2] at hks
    by_cases hk:k<s.length
    · have hkI:(k:Int)<(S.size:Int):=by have:=HSS.out.2;omega
      obtain ⟨y,hy⟩:∃ y,y=S.extract k S.size:=⟨_,rfl⟩
      have hyl:y=⟨(s.drop k).toArray⟩:=by
        rw [hy,HSS.out.1]
        apply ByteArray.ext
        apply Array.toList_inj.1
        rw [ByteArray.data_extract,Array.toList_extract,List.extract_eq_take_drop]
        show (List.drop k s).take (s.toArray.size - k)=_
        rw [List.take_of_length_le (by rw [List.length_drop];simp)]
      obtain ⟨R,hR⟩:∃ R,R=takeF (s.drop k):=⟨_,rfl⟩
      have HT:=Lib.hid (show ∀ z:World,Calls Tryz.prog 80 #[.string y] z fun e w'=>e=.returned (.tuple #[.string ⟨R.1.toArray⟩,.int .i64 (R.2.1:Int),.int .i64 (R.2.2:Int)])∧Below z.heap.size z w' from fun z=>by rw [hyl,hR];exact ftake_any (s.drop k) (by rw [List.length_drop];have:=HS.out.1;omega) z)
      have Hy:=Lib.hid hy
      have HRR:=Lib.hid hR
      clear hy hyl hR
      by_cases he:R.2.2=0
      · have hadv:=takeF_adv (s:=s.drop k) (by rw [← HRR.out];exact he)
        rw [← HRR.out,List.length_drop] at hadv
        have hez:((R.2.2:Int) != 0)=false:=by rw [he];rfl
        have hp':FrP s (pre++[(k,R.1)]) (k+R.2.1):=by
          have h2:=HP.out.snoc hk (by rw [← HRR.out];exact he)
          rw [← HRR.out] at h2
          exact h2
        have HP2:=Lib.hid hp'
        have hwk:wrap64 ((k:Int)+(R.2.1:Int))=((k+R.2.1:Nat):Int):=wrap_add (by have:=HS.out.1;omega)
        have HW:=Lib.hid hwk
        have HYF:=Lib.hid (fun (z:World) (hj:J Y pre z)=>HA.out.2.2.2.1 Y pre (k,R.1) z HY.out.1 hj (fun r hr=>by rw [HY.out.2] at hr;exact hr.elim) ⟨_,hp'⟩)
        have HAD:=Lib.hid (And.intro hadv hk)
        clear he hp' hadv hwk
        gi_wp2_with (first
          | (refine ⟨trivial,(fun h=>(by cases h)),?_⟩;rw [← Hy.out];(with_reducible refine (callsIn_wide.2 (HT.out _)).mono ?_);rintro e w3 ⟨rfl,hb3⟩
             have hj3:J Y pre w3:=HA.out.1 Y HY.out.1 pre wr w3 none HJ.out ⟨hb3.os,hb3.tape,hb3.output,hb3.size,fun q hq _=>hb3.block q hq⟩ (fun r e=>by cases e)
             obtain ⟨fn,tmps,assign,body,hyy,hR⟩:=HYF.out w3 hj3
             have HRn:=Lib.hid hR
             clear hR hb3 hj3
             rw [show encP (k,R.1)=#[.int .i64 (k:Int),.string ⟨R.1.toArray⟩] from rfl] at hyy
             dsimp only)
          | gi_in)
        refine ⟨fun h=>(by cases h),HRn.out.mono ?_⟩
        rintro e W3 (⟨rfl,hJ3,_⟩ | ⟨rfl,hJ3,_⟩)
        · have H5:=Lib.hid hJ3
          clear hJ3
          dsimp only
          gi_wp2
          refine ⟨⟨k+R.2.1,pre++[(k,R.1)],?_,HP2.out,H5.out⟩,?_⟩
          · exact congrArg (Value.int .i64) HW.out
          · exact fr_less3 HW.out HAD.out.2 HAD.out.1.1
        · have H5:=Lib.hid hJ3
          clear hJ3
          dsimp only
          gi_wp2
          refine bodyPost_ret (results_none rfl _ _ _) rfl ?_
          exact ⟨⟨_,rfl⟩,Y,HY.out.1,.inr ⟨_,⟨_,HP2.out⟩,H5.out⟩⟩
      · have hez:((R.2.2:Int) != 0)=true:=by rw [bne_iff_ne];omega
        have hE:FrE s pre k R.2.2:=⟨HP.out,.inr ⟨hk,by rw [← HRR.out],he⟩⟩
        have HE:=Lib.hid hE
        clear he hE
        gi_wp2_with (first
          | (refine ⟨trivial,(fun h=>(by cases h)),?_⟩;rw [← Hy.out];(with_reducible refine (callsIn_wide.2 (HT.out _)).mono ?_);rintro e w3 ⟨rfl,hb3⟩
             have hj3:J Y pre w3:=HA.out.1 Y HY.out.1 pre wr w3 none HJ.out ⟨hb3.os,hb3.tape,hb3.output,hb3.size,fun q hq _=>hb3.block q hq⟩ (fun r e=>by cases e)
             have hrd3:=HA.out.2.2.1 Y pre w3 hj3
             have ce:=cell_of_row _ _ 0 _ _ _ hrd3.e
             rw [show (#[Value.func (.func 110) #[] #[.pointer (some ⟨t6,0,none⟩),.pointer (some ⟨t7,0,none⟩)]])[0]?=some (.func (.func 110) #[] #[.pointer (some ⟨t6,0,none⟩),.pointer (some ⟨t7,0,none⟩)]) from rfl] at ce
             have HJ3:=Lib.hid (And.intro hj3 hrd3)
             clear hj3 hrd3 hb3
             dsimp only)
          | gi_in)
        obtain ⟨a6,h6⟩:=HJ3.out.2.a
        obtain ⟨b7,h7⟩:=HJ3.out.2.b
        refine ⟨trivial,(fun h=>(by cases h)),(callsIn_wide.2 (fend_any t6 t7 k R.2.2 a6 b7 HS.out.2 w3 h6 h7)).mono ?_⟩
        rintro e w4 ⟨⟨v,rfl⟩,g6,g7,ht⟩
        have HF:=Lib.hid (And.intro (HA.out.2.2.2.2.2 Y pre w3 w4 HY.out.1 ⟨_,_,HE.out⟩ HJ3.out.1 ht ⟨_,_,HE.out,g6,g7⟩) (And.intro g6 g7))
        clear h6 h7 g6 g7 ht
        dsimp only
        gi_wp2
        refine bodyPost_ret (results_none rfl _ _ _) rfl ?_
        exact ⟨⟨_,rfl⟩,Y,HY.out.1,.inl ⟨pre,⟨_,_,HE.out⟩,HF.out.1,⟨_,_,HE.out,HF.out.2.1,HF.out.2.2⟩⟩⟩
    · have hkI : ¬ ((k:Int)<(S.size:Int)):=by have:=HSS.out.2;omega
      have hE:FrE s pre k 0:=⟨HP.out,.inl ⟨by omega,rfl⟩⟩
      have HE:=Lib.hid hE
      have ce:=cell_of_row _ _ 0 _ _ _ HR.out.e
      rw [show (#[Value.func (.func 110) #[] #[.pointer (some ⟨t6,0,none⟩),.pointer (some ⟨t7,0,none⟩)]])[0]?=some (.func (.func 110) #[] #[.pointer (some ⟨t6,0,none⟩),.pointer (some ⟨t7,0,none⟩)]) from rfl] at ce
      obtain ⟨a6,h6⟩:=HR.out.a
      obtain ⟨b7,h7⟩:=HR.out.b
      have HC:=Lib.hid (fend_any t6 t7 k 0 a6 b7 HS.out.2 wr h6 h7)
      clear hE h6 h7
      gi_wp2
      refine ⟨trivial,(fun h=>(by cases h)),(callsIn_wide.2 HC.out).mono ?_⟩
      rintro e w4 ⟨⟨v,rfl⟩,g6,g7,ht⟩
      have HF:=Lib.hid (And.intro (HA.out.2.2.2.2.2 Y pre wr w4 HY.out.1 ⟨_,_,HE.out⟩ HJ.out ht ⟨_,_,HE.out,g6,g7⟩) (And.intro g6 g7))
      clear g6 g7 ht
      dsimp only
      gi_wp2
      go_end0
      exact ⟨⟨_,rfl⟩,Y,HY.out.1,.inl ⟨pre,⟨_,_,HE.out⟩,HF.out.1,⟨_,_,HE.out,HF.out.2.1,HF.out.2.2⟩⟩⟩
end Go.Proofs.YticjodhkmidljaaGreatDoor
namespace Go.Proofs.YticjodhkmidljaaGreatDoor
open Go.RowKit Go.Shelf
set_option maxRecDepth 100000 in
theorem frames_any (S:ByteArray) (t6 t7:Nat) (w:World) :
    Calls Tryz.prog 109 #[.string S,.func (.func 110) #[] #[.pointer (some ⟨t6,0,none⟩),.pointer (some ⟨t7,0,none⟩)]] w fun e w'=>e=.returned (.func (.func 139) #[] #[.pointer (some ⟨w.heap.size,0,none⟩),.pointer (some ⟨w.heap.size+1,0,none⟩)]) ∧
      w'.heap[w.heap.size]?=some (.cells #[.string S] 9 (0,0))∧w'.heap[w.heap.size+1]?=some (.cells #[.func (.func 110) #[] #[.pointer (some ⟨t6,0,none⟩),.pointer (some ⟨t7,0,none⟩)]] 179 (0,0))∧Below w.heap.size w w':=by
  have b1:=(Below.refl w.heap.size w).alloc (Nat.le_refl _) (.cells #[.string S] 9)
  have b2:=b1.alloc b1.size (.cells #[.func (.func 110) #[] #[.pointer (some ⟨t6,0,none⟩),.pointer (some ⟨t7,0,none⟩)]] 179)
  have r1:=heap_alloc_new w (.cells #[.string S] 9)
  have r2:=heap_alloc_new (w.alloc (.cells #[.string S] 9)) (.cells #[.func (.func 110) #[] #[.pointer (some ⟨t6,0,none⟩),.pointer (some ⟨t7,0,none⟩)]] 179)
  rw [World.size_alloc] at r2
  have r3:=(((Below.refl _ (w.alloc (.cells #[.string S] 9))).alloc (Nat.le_refl _) (.cells #[.func (.func 110) #[] #[.pointer (some ⟨t6,0,none⟩),.pointer (some ⟨t7,0,none⟩)]] 179)).block _ (Array.getElem?_eq_some_iff.1 r1).1).trans r1
  have H:=Lib.hid (And.intro r3 (And.intro r2 b2))
  clear b1 b2 r1 r2 r3
  go_enter Tryz.func109,Tryz.ntmps109
  go_wp2
  go_ret
  exact ⟨rfl,H.out.1,H.out.2.1,H.out.2.2⟩
end Go.Proofs.YticjodhkmidljaaGreatDoor
namespace Go.Proofs.YticjodhkmidljaaGreatDoor
/-- The insides of a text's frames, where they end, and why. -/
def splA:Nat→Bs→List Bs × Nat × Nat
  | 0,_=>([],0,0)
  | n+1,s=>if s.length=0 then ([],0,0) else if (takeF s).2.2≠0 then ([],0,(takeF s).2.2) else
    ((takeF s).1::(splA n (s.drop (takeF s).2.1)).1,(takeF s).2.1+(splA n (s.drop (takeF s).2.1)).2.1,(splA n (s.drop (takeF s).2.1)).2.2)
def splD (s:Bs):List Bs × Nat × Nat:=splA s.length s
theorem splA_same:∀ (n m:Nat) (s:Bs),s.length≤n→s.length≤m→splA n s=splA m s
  | 0,0,_,_,_=>rfl
  | 0,m+1,s,h,_=>by rw [splA,splA,if_pos (by omega)]
  | n+1,0,s,_,h=>by rw [splA,splA,if_pos (by omega)]
  | n+1,m+1,s,h1,h2=>by
    rw [splA,splA]
    split
    · rfl
    · next h =>
      split
      · rfl
      · next he =>
        have ha:=takeF_adv (s:=s) (by simpa using he)
        rw [splA_same n m (s.drop (takeF s).2.1) (by rw [List.length_drop];omega) (by rw [List.length_drop];omega)]
theorem splD_nil:splD []=([],0,0):=rfl
theorem splD_err {s:Bs} (h:(takeF s).2.2≠0) (hs:s.length≠0):splD s=([],0,(takeF s).2.2):=by
  unfold splD
  cases s with
  | nil=>exact (hs rfl).elim
  | cons b r=>rw [List.length_cons,splA,if_neg (by simp),if_pos h]
theorem splD_step {s:Bs} (h:(takeF s).2.2=0) (hs:s.length≠0):splD s=((takeF s).1::(splD (s.drop (takeF s).2.1)).1,(takeF s).2.1+(splD (s.drop (takeF s).2.1)).2.1,(splD (s.drop (takeF s).2.1)).2.2):=by
  have ha:=takeF_adv h
  unfold splD
  cases s with
  | nil=>exact (hs rfl).elim
  | cons b r =>
    rw [List.length_cons,splA,if_neg (by simp),if_neg (by simp [h])]
    rw [splA_same r.length ((b::r).drop (takeF (b::r)).2.1).length _ (by rw [List.length_drop,List.length_cons];omega) (Nat.le_refl _)]
theorem FrP.spl {s:Bs} {l:List (Nat × Bs)} {k:Nat} (h:FrP s l k):splD s=(l.map (fun x=>x.2)++(splD (s.drop k)).1,k+(splD (s.drop k)).2.1,(splD (s.drop k)).2.2):=by
  induction h with
  | nil=>simp
  | @snoc l k h hk he ih =>
    rw [ih,splD_step he (by rw [List.length_drop];omega),List.drop_drop]
    simp only [List.map_append,List.map_cons,List.map_nil,List.append_assoc,List.singleton_append,Nat.add_assoc]
theorem FrE.spl {s:Bs} {l:List (Nat × Bs)} {k c:Nat} (h:FrE s l k c):splD s=(l.map (fun x=>x.2),k,c):=by
  obtain ⟨h1,h2⟩:=h
  rw [h1.spl]
  rcases h2 with ⟨h2,rfl⟩ | ⟨h2,rfl,h3⟩
  · rw [List.drop_eq_nil_of_le h2,splD_nil]
    simp
  · rw [splD_err h3 (by rw [List.length_drop];omega)]
    simp
theorem splD_le (s:Bs):(splD s).2.1≤s.length:=by
  have key:∀ (n:Nat) (s:Bs),(splA n s).2.1≤s.length:=by
    intro n
    induction n with
    | zero=>intro s;exact Nat.zero_le _
    | succ n ih =>
      intro s
      rw [splA]
      split
      · exact Nat.zero_le _
      · split
        · exact Nat.zero_le _
        · next he =>
          have ha:=takeF_adv (s:=s) (by simpa using he)
          have h2:=ih (s.drop (takeF s).2.1)
          rw [List.length_drop] at h2
          show (takeF s).2.1+_≤_
          omega
  exact key _ s
/-- Frames, one behind the other. -/
def frsL (l:List Bs):Bs:=l.flatMap frL
def Oks (l:List Bs):Prop:=∀ x ∈ l,frOk x
theorem frsL_app (a b:List Bs):frsL (a++b)=frsL a++frsL b:=List.flatMap_append
theorem frsL_cons (a:Bs) (b:List Bs):frsL (a::b)=frL a++frsL b:=rfl
theorem splD_fr {x:Bs} (h:frOk x) (r:Bs):splD (frL x++r)=(x::(splD r).1,(frL x).length+(splD r).2.1,(splD r).2.2):=by
  have h1:=take_fr h.1 h.2 r
  have h2:=frL_len x
  rw [splD_step (by rw [h1]) (by rw [List.length_append];omega),h1]
  dsimp only
  rw [List.drop_left]
theorem splD_frs:∀ (l:List Bs),Oks l→∀ r:Bs,splD (frsL l++r)=(l++(splD r).1,(frsL l).length+(splD r).2.1,(splD r).2.2)
  | [],_,r=>by simp [frsL]
  | x::l,h,r=>by
    rw [frsL_cons,List.append_assoc,splD_fr (h x (List.mem_cons_self ..)),splD_frs l (fun y hy=>h y (List.mem_cons_of_mem _ hy)) r]
    simp only [List.cons_append,List.length_append,Nat.add_assoc]
theorem splD_all {l:List Bs} (h:Oks l):splD (frsL l)=(l,(frsL l).length,0):=by
  have h2:=splD_frs l h []
  rw [splD_nil] at h2
  simpa using h2
def segF (f:FilV):Option (Nat × FilV):=(numN f.nm).map (fun n=>(n,f))
def segL (fs:List FilV):List (Nat × FilV):=fs.filterMap segF
theorem segL_snoc (l:List FilV) (f:FilV):segL (l++[f])=segL l++(segF f).toList:=by
  unfold segL
  rw [List.filterMap_append]
  cases h:segF f <;> simp [h]
theorem segL_app (a b:List FilV):segL (a++b)=segL a++segL b:=List.filterMap_append
theorem segL_len (fs:List FilV):(segL fs).length≤fs.length:=List.length_filterMap_le _ _
theorem seg_mem {fs:List FilV} {x:Nat × FilV} (h:x ∈ segL fs):x.2 ∈ fs∧numN x.2.nm=some x.1:=by
  obtain ⟨f,hf,he⟩:=List.mem_filterMap.1 h
  unfold segF at he
  cases hs:numN f.nm with
  | none=>rw [hs] at he;cases he
  | some n=>rw [hs] at he;cases he;exact ⟨hf,hs⟩
theorem seg_num {fs:List FilV} {x:Nat × FilV} (h:x ∈ segL fs):1≤x.1∧x.1≤4294967295:=by
  have h2:=(seg_mem h).2
  unfold numN at h2
  split at h2
  · cases hp:okOf (Lib.parseUintB 32 (x.2.nm.drop 1)) with
    | none=>rw [hp] at h2;cases h2
    | some n =>
      have:=okOf_le hp
      rw [hp,Option.bind_some] at h2
      split at h2
      · cases h2
      · injection h2 with h2
        omega
  · cases h2
/-- May segment i stand there? -/
def segBad (all:List (Nat × FilV)) (i:Nat):Prop:=∃ x,all[i]?=some x∧((0<i∧∀ y,all[i - 1]?=some y→x.1≠y.1+1)∨(splD (x.2.by_.take x.2.sy)).2.2≠0∨(i+1<all.length∧x.2.sy<x.2.by_.length))
def Spoilt (all:List (Nat × FilV)):Prop:=∃ i,segBad all i
def recL (all:List (Nat × FilV)):List Bs:=all.flatMap (fun x=>(splD x.2.by_).1)
def endL (all:List (Nat × FilV)):Nat:=match all.getLast? with
  | some x=>(splD x.2.by_).2.1
  | none=>0
theorem recL_snoc (l:List (Nat × FilV)) (x:Nat × FilV):recL (l++[x])=recL l++(splD x.2.by_).1:=by unfold recL;rw [List.flatMap_append];simp
theorem endL_snoc (l:List (Nat × FilV)) (x:Nat × FilV):endL (l++[x])=(splD x.2.by_).2.1:=by unfold endL;rw [List.getLast?_append];rfl
end Go.Proofs.YticjodhkmidljaaGreatDoor
