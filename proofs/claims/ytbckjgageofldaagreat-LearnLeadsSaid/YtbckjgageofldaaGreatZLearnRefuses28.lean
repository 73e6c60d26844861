/- Learning: a shelf of a run's bases; its calls. Condition: the run's parts lie there. -/
import Derived.Test.YtbckjgageofldaaGreatZLearnRefuses27
import Derived.Test.YtbckjgageofldaaGreatZLearnRefuses20
import Derived.Test.YtbckjgageofldaaGreatZLearnRefuses25
namespace Go.Proofs.YtbckjgageofldaaGreat
open Go.RowKit
structure BsI (M0:MacV) (l:List CmdV) (w:World) (b:BsV):Prop where
 tree:∃ X,TreeAt w X∧b.P=X.ptr∧X.sh=b.M.sh
 m:b.M=macsDo M0 (l.take b.top)
 t:b.t=(runC M0 (l.take b.top)).tail
 pos:0<b.top
 le:b.top≤l.length
structure ShI (w:World) (base ps:Nat) (sv:Value) (M0:MacV) (l:List CmdV) (L:List BsV):Prop where
 at_:ShAt w base ps sv L
 len:L.length≤3
 asc:L.Pairwise (fun a b=>a.top<b.top)
 bs:∀ b ∈ L,BsI M0 l w b
def newB (L:List BsV):BsV:=L.getLast?.getD bs0
theorem newB_mem {L:List BsV} (h:L≠[]):newB L ∈ L∧L[L.length - 1]?=some (newB L):=by
 obtain ⟨b,hb⟩:∃ b,L.getLast?=some b:=by
  cases h2:L.getLast? with
  | none=>exact absurd (List.getLast?_eq_none_iff.1 h2) h
  | some b=>exact ⟨b,rfl⟩
 have e:newB L=b:=by unfold newB;rw [hb];rfl
 rw [e];rw [List.getLast?_eq_getElem?] at hb;exact ⟨List.mem_of_getElem? hb,hb⟩
theorem newB_keep (L:List BsV) (b:BsV):newB (keep3 (L++[b]))=b:=by
 unfold newB keep3;rw [List.getLast?_drop,if_neg (by rw [List.length_append,List.length_singleton];omega),List.getLast?_append];rfl
theorem BsI.sorts {M0:MacV} {l:List CmdV} {w w':World} {b:BsV} {ts:List TypeId} (h:BsI M0 l w b) (hs:Sorts ts w.heap.size w w') (ht:195 ∉ ts):BsI M0 l w' b:=by
 obtain ⟨X,h1,h2,h3⟩:=h.tree;exact ⟨⟨X,TreeAt.sorts hs ht h1,h2,h3⟩,h.m,h.t,h.pos,h.le⟩
theorem BsI.more {M0:MacV} {l:List CmdV} {w:World} {b:BsV} (h:BsI M0 l w b) (c:CmdV):BsI M0 (l++[c]) w b:=by
 have e:(l++[c]).take b.top=l.take b.top:=List.take_append_of_le_length h.le;exact ⟨h.tree,by rw [e];exact h.m,by rw [e];exact h.t,h.pos,by rw [List.length_append];have:=h.le;omega⟩
theorem ShI.sorts {w w':World} {base ps:Nat} {sv:Value} {M0:MacV} {l:List CmdV} {L:List BsV} {ts:List TypeId} (h:ShI w base ps sv M0 l L) (hs:Sorts ts w.heap.size w w') (ht:195 ∉ ts) (h1:114 ∉ ts) (h2:110 ∉ ts):ShI w' base ps sv M0 l L :=
 ⟨h.at_.sorts hs h1 h2,h.len,h.asc,fun b hb=>(h.bs b hb).sorts hs ht⟩
theorem ShI.below {w w':World} {base ps:Nat} {sv:Value} {M0:MacV} {l:List CmdV} {L:List BsV} (h:ShI w base ps sv M0 l L) (hb:Below w.heap.size w w'):ShI w' base ps sv M0 l L :=
 h.sorts (sorts_of hb []) (by simp) (by simp) (by simp)
theorem ShI.more {w:World} {base ps:Nat} {sv:Value} {M0:MacV} {l:List CmdV} {L:List BsV} (h:ShI w base ps sv M0 l L) (c:CmdV):ShI w base ps sv M0 (l++[c]) L:=⟨h.at_,h.len,h.asc,fun b hb=>(h.bs b hb).more c⟩
theorem newest_sh {base ps:Nat} {sv:Value} {L:List BsV} (hl:L.length≤3) {w:World} (h:ShAt w base ps sv L):Calls Tryz.prog 39 #[.pointer (some ⟨ps,0,none⟩)] w fun e w'=>e=.returned (bsV (newB L))∧Below w.heap.size w w':=by
 by_cases hL:L=[]
 ·
  subst hL;exact newest_empty base ps sv w h
 ·
  exact newest_last base ps sv L (newB L) (newB_mem hL).2 (by omega) w h
theorem bs_all {M0:MacV} (h0:MacAll M0) {l:List CmdV} {w:World} {b:BsV} (h:BsI M0 l w b):MacAll b.M∧b.M.all=M0.all∧b.t.length≤3:=by
 rw [h.m,h.t];exact ⟨macsDo_all _ h0,nodes_dos _ _,runC_tail _ _⟩
def PutNew (w:World) (base ps:Nat) (M0:MacV) (l:List CmdV) (L:List BsV) (e:Ending) (w':World):Prop:=∃ sv',e=.returned (.int .i64 0)∧ShI w' base ps sv' M0 l L∧Sorts [114,110] w.heap.size w w'∧∀ n,n≤w.heap.size→n≤ps→n≤base→Below n w w'
theorem keep_asc {L:List BsV} {b:BsV} (h:L.Pairwise (fun a b=>a.top<b.top)) (hb:∀ x ∈ L,x.top<b.top):(keep3 (L++[b])).Pairwise (fun a b=>a.top<b.top):=by
 unfold keep3;refine List.Pairwise.sublist (List.drop_sublist _ _) (List.pairwise_append.2 ⟨h,List.pairwise_singleton _ _,fun x hx y hy=>?_⟩);rw [List.mem_singleton] at hy;subst hy;exact hb x hx
theorem asc_new {L:List BsV} (h:L.Pairwise (fun a b=>a.top<b.top)):∀ x ∈ L,x.top≤(newB L).top:=by
 intro x hx;by_cases hL:L=[]
 ·
  subst hL;cases hx
 ·
  obtain ⟨i,hi,rfl⟩:=List.getElem_of_mem hx;have e:=(newB_mem hL).2;have hlt:L.length - 1<L.length:=by omega
  rw [List.getElem?_eq_getElem hlt] at e;have e2:=Option.some.inj e;rw [← e2];by_cases hil:i=L.length - 1
  ·
   subst hil;exact Nat.le_refl _
  ·
   exact Nat.le_of_lt (List.pairwise_iff_getElem.1 h i (L.length - 1) hi hlt (by omega))
theorem put_new {w:World} {base cb ps p:Nat} {sv cv:Value} {M0:MacV} {l:List CmdV} {L:List BsV} {R:RnV} {T:Tr} {z:List KeptV} (h0:MacAll M0) (hR:RunI w cb R T p cv (runC M0 l).D z) (hM:R.M=macsDo M0 l) (hS:ShI w base ps sv M0 l L) (hlt:(newB L).top<l.length) (hb:base≤w.heap.size) (hl:l.length≤1000) :
  Calls Tryz.prog 11 #[.pointer (some ⟨ps,0,none⟩),.pointer R.c,.agg (macCells R.M R.P).toArray] w (PutNew w base ps M0 l (keep3 (L++[⟨R.M,R.P,l.length,(runC M0 l).tail⟩]))):=by
 have hDl:=runC_len M0 l;have htop:=runC_top M0 l;rw [hR.cp];have hen:endsB (runC M0 l).tail R.M.mem=true:=by
  unfold endsB;rw [runC_tailLast,hM];have:=mem_nat (macsDo_all l h0).fit;simp [this]
 have q:=put_ok ps (some ⟨p,0,none⟩) (newB L) R.M R.P l.length (runC M0 l).tail (by omega) (by have:=runC_tail M0 l;omega) w
  (fun y hy=>newest_sh hS.len (hS.at_.below hy))
  (fun y hy=>by
   have k:=top_any cb p cv ⟨0,(runC M0 l).D⟩ (by rw [hDl];omega) (by rw [hDl];simp;omega) y (hR.ch.below hy);have e:(⟨0,(runC M0 l).D⟩:ChV).top=l.length:=htop;rw [e] at k;exact k)
  (fun y hy=>chtail_any cb p cv ⟨0,(runC M0 l).D⟩ (by rw [hDl];omega) (by rw [hDl];omega) y (hR.ch.below hy))
  hlt hen base sv L hS.at_ hb hS.len
 refine q.mono ?_;rintro e w' ⟨sv',rfl,hsh,hst,hbn⟩;refine ⟨sv',rfl,⟨hsh,?_,?_,?_⟩,hst,hbn⟩
 ·
  unfold keep3;rw [List.length_drop];omega
 ·
  exact keep_asc hS.asc (fun x hx=>Nat.lt_of_le_of_lt (asc_new hS.asc x hx) hlt)
 ·
  intro b hb2;have hb3:b ∈ L++[⟨R.M,R.P,l.length,(runC M0 l).tail⟩]:=List.mem_of_mem_drop hb2;rcases List.mem_append.1 hb3 with hb4 | hb4
  ·
   exact (hS.bs b hb4).sorts hst (by decide)
  ·
   rw [List.mem_singleton] at hb4;subst hb4;refine ⟨⟨T,TreeAt.sorts hst (by decide) hR.t,hR.tp,hR.ts⟩,?_,?_,?_,?_⟩
   ·
    show R.M=macsDo M0 (l.take l.length);rw [List.take_length,hM]
   ·
    show (runC M0 l).tail=(runC M0 (l.take l.length)).tail;rw [List.take_length]
   ·
    show 0<l.length;omega
   ·
    exact Nat.le_refl _
def leadV (L:List BsV) (n:Nat):LmV × Bool :=
 if (newB L).top≤n then (lm0,false) else
 match L.find? (fun b=>b.top == n) with
 | some b=>(⟨13,n,(newB L).top,leadB (newB L).t b.M (newB L).M⟩,true)
 | none=>(⟨12,0,(newB L).top,textB (newB L).t (newB L).M⟩,true)
theorem lead_any {w:World} {base ps:Nat} {sv:Value} {M0:MacV} {l:List CmdV} {L:List BsV} (h0:MacAll M0) (hS:ShI w base ps sv M0 l L) (hl:l.length≤1000) (n:Nat) :
  Calls Tryz.prog 9 #[.pointer (some ⟨ps,0,none⟩),.int .u64 (n:Int)] w fun e w'=>e=.returned (.tuple #[lmV (leadV L n).1,.bool (leadV L n).2])∧Below w.heap.size w w':=by
 unfold leadV;by_cases hn:(newB L).top≤n
 ·
  rw [if_pos hn];exact lead_none (some ⟨ps,0,none⟩) (newB L) n hn w (fun y hy=>newest_sh hS.len (hS.at_.below hy))
 ·
  rw [if_neg hn];have hL:L≠[]:=by
   rintro rfl;exact hn (Nat.zero_le _)
  obtain ⟨hm,hlast⟩:=newB_mem hL;obtain ⟨c1,c2,c3⟩:=bs_all h0 (hS.bs _ hm);obtain ⟨Y,hY,hYp,hYs⟩:=(hS.bs _ hm).tree;have hct:(newB L).top<18446744073709551616:=by have:=(hS.bs _ hm).le;omega
  cases hf:L.find? (fun b=>b.top == n) with
  | none =>
   refine lead_snap base ps sv L (newB L) hlast (by have:=hS.len;omega) n (by omega) (fun x hx e=>?_) c1.fit (by omega) Y hYp hYs w hS.at_ hY;have k:=List.find?_eq_none.1 hf x hx;simp [e] at k
  | some b =>
   obtain ⟨J,hJ,hJb,hlo⟩:=List.find?_eq_some_iff_getElem.1 hf |>.2
   have hbm:b ∈ L:=List.mem_of_find?_eq_some hf;have hbn:b.top=n:=by have:=List.find?_some hf;simpa using this
   obtain ⟨b1,b2,b3⟩:=bs_all h0 (hS.bs _ hbm);obtain ⟨X,hX,hXp,hXs⟩:=(hS.bs _ hbm).tree;refine lead_delta base ps sv L (newB L) hlast (by have:=hS.len;omega) n (by omega) J b (by rw [List.getElem?_eq_getElem hJ,hJb]) hbn (fun i x hi hx e=>?_) X Y b1 c1 (by rw [b2,c2]) c3 hct hXp hYp hXs hYs w hS.at_ hX hY;have hiL:i<L.length:=(List.getElem?_eq_some_iff.1 hx).1;have k:=hlo i hi;rw [List.getElem?_eq_getElem hiL] at hx;cases hx
   simp [e] at k
def newV (L:List BsV):Value:=.tuple #[.int .u64 ((newB L).top:Int),.string ⟨(if (newB L).top=0 then [] else textB (newB L).t (newB L).M).toArray⟩]
theorem newest_tells {w:World} {base ps:Nat} {sv:Value} {M0:MacV} {l:List CmdV} {L:List BsV} (h0:MacAll M0) (hS:ShI w base ps sv M0 l L) :
  Calls Tryz.prog 10 #[.pointer (some ⟨ps,0,none⟩)] w fun e w'=>e=.returned (newV L)∧Below w.heap.size w w':=by
 unfold newV;by_cases hz:(newB L).top=0
 ·
  rw [if_pos hz,hz];exact lnewest_zero _ (newB L) hz w (newest_sh hS.len hS.at_)
 ·
  rw [if_neg hz];have hL:L≠[]:=by
   rintro rfl;exact hz rfl
  obtain ⟨hm,hlast⟩:=newB_mem hL;obtain ⟨c1,c2,c3⟩:=bs_all h0 (hS.bs _ hm);obtain ⟨Y,hY,hYp,hYs⟩:=(hS.bs _ hm).tree;exact lnewest_some _ (newB L) Y (by omega) c1.fit (by omega) hYp hYs w hY (newest_sh hS.len hS.at_)
structure RunS (w:World) (base g:Nat) (M0:MacV) (l:List CmdV) (R:RnV) (T:Tr) (p:Nat) (cv:Value) (z:List KeptV):Prop where
 at_:RnAt w g R
 ri:RunI w base R T p cv (runC M0 l).D z
 m:R.M=macsDo M0 l
 k:R.r.k≤l.length
theorem RunS.below {w w':World} {base g:Nat} {M0:MacV} {l:List CmdV} {R:RnV} {T:Tr} {p:Nat} {cv:Value} {z:List KeptV} (h:RunS w base g M0 l R T p cv z) (hb:Below w.heap.size w w'):RunS w' base g M0 l R T p cv z:=⟨h.at_.below hb,h.ri.below hb,h.m,h.k⟩
theorem RunS.sorts {w w':World} {ts:List TypeId} {base g:Nat} {M0:MacV} {l:List CmdV} {R:RnV} {T:Tr} {p:Nat} {cv:Value} {z:List KeptV} (h:RunS w base g M0 l R T p cv z) (hs:Sorts ts w.heap.size w w') (h1:48 ∉ ts) (ht:∀ t ∈ runTs,t ∉ ts):RunS w' base g M0 l R T p cv z:=⟨hs.row h.at_ h1,h.ri.sorts hs ht,h.m,h.k⟩
def DoneRun (w:World) (base g:Nat) (M0:MacV) (l:List CmdV) (p:Nat) (e:Ending) (w':World):Prop:=∃ R T cv z,e=.returned (.tuple #[])∧RunS w' base g M0 l R T p cv z∧Sorts doTs w.heap.size w w'∧∀ n,n≤w.heap.size→n≤g→n≤p→n≤base→Below n w w'
theorem macsDo_snoc (M:MacV) (l:List CmdV) (c:CmdV):macsDo M (l++[c])=(macDo (macsDo M l) c).m:=by
 unfold macsDo;rw [List.foldl_append];rfl
theorem does_run {w:World} {base g:Nat} {M0:MacV} {l:List CmdV} {R:RnV} {T:Tr} {p:Nat} {cv:Value} {z:List KeptV} (h0:MacAll M0) (hb:base≤w.heap.size) (hl:l.length≤1000) (h:RunS w base g M0 l R T p cv z) (c:CmdV) :
  Calls Tryz.prog 17 #[.pointer (some ⟨g,0,none⟩),.agg (cmdCells c).toArray] w (DoneRun w base g M0 (l++[c]) p):=by
 have hDl:=runC_len M0 l;have q:=does_any c w base g hb R T p cv (runC M0 l).D z (by rw [h.m];exact macsDo_all _ h0) (by have:=h.k;omega) (by omega) (by omega) h.at_ h.ri;refine q.mono ?_;rintro e w' ⟨R',T',cv',z',rfl,h1,h2,h3,h4,h5⟩;have hm:R'.M=macsDo M0 (l++[c]):=by rw [h2,h.m,macsDo_snoc]
 have hD:(runC M0 (l++[c])).D=(runC M0 l).D++[UInt8.ofNat R'.M.mem]:=by rw [runC_push,hm];rfl
 exact ⟨R',T',cv',z',rfl,⟨h1,by rw [hD];exact h3,hm,by rw [List.length_append];have:=h.k;simp;omega⟩,h5⟩
theorem begun_run {w:World} {base:Nat} {M0:MacV} {R:RnV} {p g:Nat} {cv:Value} (hM:R.M=M0) (hI:RunI w base R .nil p cv [UInt8.ofNat M0.mem] []) (hr:R.r=ref0 M0) (hg:RnAt w g R):RunS w base g M0 [] R .nil p cv [] :=
 ⟨hg,hI,hM,by rw [hr];exact Nat.le_refl _⟩
def tailC (M0:MacV) (l:List CmdV):ChV:=⟨l.length+1 - (runC M0 l).tail.length,(runC M0 l).tail⟩
theorem tailC_of {M0:MacV} (h0:MacAll M0) (l:List CmdV) (hl:l.length≤1000):chOf l.length (runC M0 l).tail=some (tailC M0 l):=by
 have h:=chOf_tail (runC_low M0 l) (by rw [runC_len];omega) (runC_ok h0 l) (by rw [runC_top];omega);rw [runC_top] at h;exact h
theorem tailC_top (M0:MacV) (l:List CmdV):(tailC M0 l).top=l.length:=by
 have h:=tail_len (runC M0 l);rw [runC_len] at h;show l.length+1 - (runC M0 l).tail.length+(runC M0 l).tail.length - 1=l.length;omega
theorem tailC_tail (M0:MacV) (l:List CmdV):(tailC M0 l).tail=(runC M0 l).tail:=by
 have h:=runC_tail M0 l;show (runC M0 l).tail.drop ((runC M0 l).tail.length - 3)=_;rw [show (runC M0 l).tail.length - 3=0 by omega,List.drop_zero]
theorem tailC_len (M0:MacV) (l:List CmdV):0<(tailC M0 l).D.length∧(tailC M0 l).D.length≤3∧(tailC M0 l).low+(tailC M0 l).D.length=l.length+1:=by
 have h:=tail_len (runC M0 l);rw [runC_len] at h;refine ⟨?_,runC_tail M0 l,?_⟩
 ·
  show 0<(runC M0 l).tail.length;omega
 ·
  show l.length+1 - (runC M0 l).tail.length+(runC M0 l).tail.length=_;omega
theorem run_ends {M0:MacV} (h0:MacAll M0) (l:List CmdV):endsB (runC M0 l).tail (macsDo M0 l).mem=true:=by
 unfold endsB;rw [runC_tailLast];have:=mem_nat (macsDo_all l h0).fit;simp [this]
theorem readE_ok {M0:MacV} (h0:MacAll M0) (l:List CmdV):readE (runC M0 l).tail (macsDo M0 l) 0=0:=by
 unfold readE;rw [if_pos rfl,if_pos (run_ends h0 l)]
def lw1:CmdV:=⟨0#8,1#32,2,⟨#[107]⟩,ByteArray.empty,⟨#[118]⟩,0#8⟩
def lw2:CmdV:=⟨0#8,2#32,5,ByteArray.empty,ByteArray.empty,ByteArray.empty,6#8⟩
theorem lw_sets:mayS 3 7=true:=by decide +kernel
theorem lw_lit1:Value.agg (cmdCells lw1).toArray=.agg #[.int .u8 0,.int .u32 1,.int .u8 2,.string ⟨#[107]⟩,.string ⟨#[]⟩,.string ⟨#[118]⟩,.int .u8 0]:=rfl
theorem lw_lit2:Value.agg (cmdCells lw2).toArray=.agg #[.int .u8 0,.int .u32 2,.int .u8 5,.string ⟨#[]⟩,.string ⟨#[]⟩,.string ⟨#[]⟩,.int .u8 6]:=rfl
theorem rn_there15 {y:World} {g:Nat} {R:RnV} (h:RnAt y g R):y.rangeAt g 0 (macCells R.M R.P):=fun j v hv=>range_row (cs:=rnCells R) h j v (by
 unfold rnCells;rw [List.getElem?_append_left (List.getElem?_eq_some_iff.1 hv).1];exact hv)
set_option maxRecDepth 100000 in
set_option maxHeartbeats 16000000 in
theorem lwakes_any (w:World):Calls Tryz.prog 15 #[] w fun e w'=>e=.returned (.bool true)∧Below w.heap.size w w':=by
 obtain ⟨M0,hM0⟩:∃ M,newM 7 3=M:=⟨_,rfl⟩;have h0:MacAll M0:=by rw [← hM0];exact newAll (by omega) lw_sets
 have hbe:=fun y:World=>lbegun_is 7 3 (by omega) (by omega) lw_sets y
 rw [hM0] at hbe;have Hbe:=Lib.hid (show ∀ y:World,Calls Tryz.prog 8 #[.int .u8 7,.int .u8 3] y (BegPost M0 y) from hbe);have Hnew:=Lib.hid lnew_any;have H0:=Lib.hid h0;clear hbe h0 hM0;go_enter Tryz.func15,Tryz.ntmps15
 go_upto_region 3 with (first
  | ((with_reducible refine (Hnew.out _).mono ?_);rintro e w1 ⟨rfl,hs1,hb1⟩;have HS1:=Lib.hid hs1;have HB1:=Lib.hid hb1;clear hs1 hb1)
  | ((with_reducible refine (Hbe.out _).mono ?_);rintro e w2 ⟨R0,p,cv0,rfl,hM,hI,hr,hp,hb⟩;have H2:=Lib.hid (And.intro hM (And.intro hI (And.intro hr (And.intro hp hb))));clear hM hI hr hp hb;unfold rnV)
  | ((with_reducible refine wpList_store_mid rfl 48 _ _ rfl w2.heap.size 0 _ rfl rfl ?_ ?_ ?_ ?_);exact th_new w2 (rnCells rn0) 48;exact rn_size rn0;exact all_oneCell_toArray (rn_one R0 (slice_one _ H2.out.2.1.rv))))
 change Code.wp _ _ _ _ ((w2.alloc (.cells (rnCells rn0).toArray 48)).setCells w2.heap.size 0 (rnCells R0));have hb3:=box_below w2 (rnCells rn0) (rnCells R0) 48;have hr3:RnAt _ _ R0:=box_row w2 (rnCells rn0) (rnCells R0) 48 rfl;have hbB:=H2.out.2.2.2.2.trans (hb3.mono H2.out.2.2.2.2.size);have HR3:=Lib.hid (begun_run H2.out.1 (H2.out.2.1.below hb3) H2.out.2.2.1 hr3);have HSh3:=Lib.hid (show ShI _ w.heap.size w.heap.size (.slice none 0 0) M0 [] [] from ⟨HS1.out.below hbB,by simp,List.Pairwise.nil,fun b hb=>by cases hb⟩);have HB3:=Lib.hid (HB1.out.trans (hbB.mono HB1.out.size));have Hcb:=Lib.hid (Nat.le_trans H2.out.2.2.2.2.size hb3.size);have Hcw:=Lib.hid HB1.out.size;have Hgp:=Lib.hid (Nat.le_trans HB1.out.size H2.out.2.2.2.2.size);have Hpp:=Lib.hid (Nat.le_trans HB1.out.size H2.out.2.2.2.1);clear hb3 hr3 hbB H2 HS1 HB1 Hnew Hbe;generalize (w2.alloc (.cells (rnCells rn0).toArray 48)).setCells w2.heap.size 0 (rnCells R0)=w3 at *;generalize hgr:w2.heap.size=g at *
 clear hgr;generalize w1.heap.size=cb at *;have hd:=does_run H0.out Hcb.out (by simp) HR3.out lw1;rw [lw_lit1] at hd;have Hd:=Lib.hid hd;clear hd;go_upto_region 6 with ((with_reducible refine Hd.out.mono ?_);rintro e w4 ⟨R1,T1,cv1,z1,rfl,hr4,hs4,hn4⟩;have H4:=Lib.hid (And.intro hr4 (And.intro hs4 hn4));clear hr4 hs4 hn4)
 have Hsz4:=Lib.hid H4.out.2.1.size;have HR4:=Lib.hid (show RunS w4 cb g M0 [lw1] R1 T1 p cv1 z1 from H4.out.1);have HSh4:=Lib.hid (show ShI w4 w.heap.size w.heap.size (.slice none 0 0) M0 [lw1] [] from (HSh3.out.sorts H4.out.2.1 (by decide) (by decide) (by decide)).more lw1);have HB4:=Lib.hid (HB3.out.trans (H4.out.2.2 _ HB3.out.size Hgp.out Hpp.out Hcw.out));have hp4:=put_new H0.out HR4.out.ri HR4.out.m HSh4.out (by show 0<1;omega) HB4.out.size (by simp);have Hp4:=Lib.hid hp4;have f15:w4.cell? ⟨g,15,none⟩=some (.pointer R1.c):=cell_of_row _ _ _ _ _ _ (show w4.heap[g]?=some (.cells (rnCells R1).toArray _ (0,0)) from HR4.out.at_);have Hrl4:=Lib.hid (rn_there15 HR4.out.at_);clear hp4 H4 Hd HR3 HSh3 HB3;go_upto_region 7 with (first
  | (with_reducible refine wpList_load_mid rfl 38 _ rfl g 0 rfl (macCells R1.M R1.P) _ Hrl4.out Tryz.underlying38 rfl (mac_size2 _ _) ?_)
  | ((with_reducible refine Hp4.out.mono ?_);rintro e w5 ⟨sv5,rfl,hsh5,hst5,hn5⟩;have H5:=Lib.hid (And.intro hsh5 (And.intro hst5 hn5));clear hsh5 hst5 hn5))
 have HR5:=Lib.hid (HR4.out.sorts H5.out.2.1 (by decide) (by decide));obtain ⟨b1,hb1⟩:∃ b:BsV,b=⟨R1.M,R1.P,1,(runC M0 [lw1]).tail⟩:=⟨_,rfl⟩;have HSh5:=Lib.hid (show ShI w5 w.heap.size w.heap.size sv5 M0 [lw1] [b1] by rw [hb1];exact H5.out.1);have Hb1:=Lib.hid hb1;clear hb1;have HB5:=Lib.hid (HB4.out.trans (H5.out.2.2 _ HB4.out.size (Nat.le_refl _) (Nat.le_refl _)));have Hrl5:=Lib.hid (rn_there15 HR5.out.at_);have Hsz5:=Lib.hid (Nat.le_trans Hsz4.out H5.out.2.1.size);clear H5 Hp4 f15 Hrl4 HR4 HSh4 HB4;go_upto_region 8 with (first
  | (with_reducible refine wpList_load_mid rfl 38 _ rfl g 0 rfl (macCells R1.M R1.P) _ Hrl5.out Tryz.underlying38 rfl (mac_size2 _ _) ?_)
  | ((with_reducible refine wpList_store_mid rfl 38 _ _ rfl w5.heap.size 0 _ rfl rfl ?_ ?_ ?_ ?_);exact th_new w5 (macCells macNone none) 38;exact mac_size;exact all_oneCell_toArray (mac_one _ _)))
 change Code.wp _ _ _ _ ((w5.alloc (.cells (macCells macNone none).toArray 38)).setCells w5.heap.size 0 (macCells R1.M R1.P));have hb6:=box_below w5 (macCells macNone none) (macCells R1.M R1.P) 38;have HO6:=Lib.hid (show MacAt _ _ R1.M R1.P from box_row w5 (macCells macNone none) (macCells R1.M R1.P) 38 rfl);have HR6:=Lib.hid (HR5.out.below hb6);have HSh6:=Lib.hid (HSh5.out.below hb6);have HB6:=Lib.hid (HB5.out.trans (hb6.mono HB5.out.size));have Hcb6:=Lib.hid (Nat.le_trans Hsz5.out hb6.size);have HT1:=Lib.hid (And.intro HR6.out.ri.t (And.intro HR6.out.ri.tp (And.intro HR6.out.ri.ts HR6.out.m)));clear hb6 HR5 HSh5 HB5 Hrl5;generalize (w5.alloc (.cells (macCells macNone none).toArray 38)).setCells w5.heap.size 0 (macCells R1.M R1.P)=w6 at *;generalize w5.heap.size=go at *;have hd:=does_run H0.out (Nat.le_trans Hcb.out Hcb6.out) (by simp) HR6.out lw2;rw [lw_lit2] at hd;have Hd:=Lib.hid hd;clear hd;go_upto_region 9 with ((with_reducible refine Hd.out.mono ?_);rintro e w7 ⟨R2,T2,cv2,z2,rfl,hr7,hs7,hn7⟩;have H7:=Lib.hid (And.intro hr7 (And.intro hs7 hn7));clear hr7 hs7 hn7)
 have HR7:=Lib.hid (show RunS w7 cb g M0 [lw1,lw2] R2 T2 p cv2 z2 from H7.out.1);have HSh7:=Lib.hid (show ShI w7 w.heap.size w.heap.size sv5 M0 [lw1,lw2] [b1] from (HSh6.out.sorts H7.out.2.1 (by decide) (by decide) (by decide)).more lw2);have HB7:=Lib.hid (HB6.out.trans (H7.out.2.2 _ HB6.out.size Hgp.out Hpp.out Hcw.out));have HO7:=Lib.hid (show MacAt w7 go R1.M R1.P from H7.out.2.1.row HO6.out (by decide));have HT7:=Lib.hid (And.intro (TreeAt.sorts H7.out.2.1 (by decide) HT1.out.1) HT1.out.2);have hp7:=put_new H0.out HR7.out.ri HR7.out.m HSh7.out (by rw [show newB [b1]=b1 from rfl,Hb1.out];show 1<2;omega) HB7.out.size (by simp);have Hp7:=Lib.hid hp7;have f15:w7.cell? ⟨g,15,none⟩=some (.pointer R2.c):=cell_of_row _ _ _ _ _ _ (show w7.heap[g]?=some (.cells (rnCells R2).toArray _ (0,0)) from HR7.out.at_);have Hrl7:=Lib.hid (rn_there15 HR7.out.at_);clear hp7 H7 Hd HR6 HSh6 HB6 HO6 HT1;go_upto_region 10 with (first
  | (with_reducible refine wpList_load_mid rfl 38 _ rfl g 0 rfl (macCells R2.M R2.P) _ Hrl7.out Tryz.underlying38 rfl (mac_size2 _ _) ?_)
  | ((with_reducible refine Hp7.out.mono ?_);rintro e w8 ⟨sv8,rfl,hsh8,hst8,hn8⟩;have H8:=Lib.hid (And.intro hsh8 (And.intro hst8 hn8));clear hsh8 hst8 hn8))
 have HR8:=Lib.hid (HR7.out.sorts H8.out.2.1 (by decide) (by decide));obtain ⟨b2,hb2⟩:∃ b:BsV,b=⟨R2.M,R2.P,2,(runC M0 [lw1,lw2]).tail⟩:=⟨_,rfl⟩;have HSh8:=Lib.hid (show ShI w8 w.heap.size w.heap.size sv8 M0 [lw1,lw2] [b1,b2] by rw [hb2];exact H8.out.1);have HB8:=Lib.hid (HB7.out.trans (H8.out.2.2 _ HB7.out.size (Nat.le_refl _) (Nat.le_refl _)));have HO8:=Lib.hid (show MacAt w8 go R1.M R1.P from H8.out.2.1.row HO7.out (by decide));have HT8:=Lib.hid (And.intro (TreeAt.sorts H8.out.2.1 (by decide) HT7.out.1) HT7.out.2);have Hb2:=Lib.hid hb2;clear hb2 H8 Hp7 f15 Hrl7 HR7 HSh7 HB7 HO7 HT7;have hn2:(newB [b1,b2]).top=2:=by rw [show newB [b1,b2]=b2 from rfl,Hb2.out]
 have ht1:b1.top=1:=by rw [Hb1.out]
 have ht2:b2.top=2:=by rw [Hb2.out]
 have hl0:leadV [b1,b2] 0=(⟨12,0,2,textB b2.t b2.M⟩,true):=by
  unfold leadV;rw [hn2,if_neg (by omega)];simp only [List.find?,ht1,ht2,show newB [b1,b2]=b2 from rfl];rfl
 have hl1:leadV [b1,b2] 1=(⟨13,1,2,leadB b2.t b1.M b2.M⟩,true):=by
  unfold leadV;rw [hn2,if_neg (by omega)];simp only [List.find?,ht1,show newB [b1,b2]=b2 from rfl];rfl
 have hl2:leadV [b1,b2] 2=(lm0,false):=by
  unfold leadV;rw [hn2,if_pos (by omega)]
 have HLd:=Lib.hid (fun (y:World) (hy:Below w8.heap.size w8 y) (n:Nat)=>lead_any H0.out (HSh8.out.below hy) (by simp) n);have hA:=HLd.out w8 (Below.refl _ _) 0;rw [hl0] at hA;have HA:=Lib.hid (show Calls Tryz.prog 9 #[.pointer (some ⟨w.heap.size,0,none⟩),.int .u64 0] w8 fun e w'=>e=.returned (.tuple #[.agg (lmCells ⟨12,0,2,textB b2.t b2.M⟩).toArray,.bool true])∧Below w8.heap.size w8 w' from hA);have HBl:=Lib.hid (fun (y:World) (hy:Below w8.heap.size w8 y)=>by
  have q:=HLd.out y hy 1;rw [hl1] at q;exact (show Calls Tryz.prog 9 #[.pointer (some ⟨w.heap.size,0,none⟩),.int .u64 1] y fun e w'=>e=.returned (.tuple #[.agg (lmCells ⟨13,1,2,leadB b2.t b1.M b2.M⟩).toArray,.bool true])∧Below y.heap.size y w' from q))
 have HCl:=Lib.hid (fun (y:World) (hy:Below w8.heap.size w8 y)=>by
  have q:=HLd.out y hy 2;rw [hl2] at q;exact (show Calls Tryz.prog 9 #[.pointer (some ⟨w.heap.size,0,none⟩),.int .u64 2] y fun e w'=>e=.returned (.tuple #[.agg (lmCells lm0).toArray,.bool false])∧Below y.heap.size y w' from q))
 clear hA hl0 hl1 hl2 hn2 ht1 ht2 HLd;go_upto_region 11 with (first
  | ((with_reducible refine HA.out.mono ?_);rintro e w9 ⟨rfl,h9⟩;have H9:=Lib.hid h9;clear h9)
  | ((with_reducible refine wpList_store_mid rfl 58 _ _ rfl w9.heap.size 0 _ rfl rfl ?_ ?_ ?_ ?_);exact th_new w9 (lmCells lm0) 58;exact lm_size;exact all_oneCell_toArray (lm_one ⟨12,0,2,textB b2.t b2.M⟩)))
 change Code.wp _ _ _ _ ((w9.alloc (.cells (lmCells lm0).toArray 58)).setCells w9.heap.size 0 (lmCells ⟨12,0,2,textB b2.t b2.M⟩));have hbx:=box_below w9 (lmCells lm0) (lmCells ⟨12,0,2,textB b2.t b2.M⟩) 58;have HX:=Lib.hid (show LmAt _ _ ⟨12,0,2,textB b2.t b2.M⟩ from box_row w9 (lmCells lm0) (lmCells ⟨12,0,2,textB b2.t b2.M⟩) 58 rfl);have HB10:=Lib.hid (H9.out.trans (hbx.mono H9.out.size));clear hbx H9 HA;generalize (w9.alloc (.cells (lmCells lm0).toArray 58)).setCells w9.heap.size 0 (lmCells ⟨12,0,2,textB b2.t b2.M⟩)=w10 at *;generalize w9.heap.size=gx at *;have HA:=Lib.hid (HBl.out w10 HB10.out);clear HBl;go_upto_region 12 with (first
  | ((with_reducible refine HA.out.mono ?_);rintro e w9 ⟨rfl,h9⟩;have H9:=Lib.hid h9;clear h9)
  | ((with_reducible refine wpList_store_mid rfl 58 _ _ rfl w9.heap.size 0 _ rfl rfl ?_ ?_ ?_ ?_);exact th_new w9 (lmCells lm0) 58;exact lm_size;exact all_oneCell_toArray (lm_one ⟨13,1,2,leadB b2.t b1.M b2.M⟩)))
 change Code.wp _ _ _ _ ((w9.alloc (.cells (lmCells lm0).toArray 58)).setCells w9.heap.size 0 (lmCells ⟨13,1,2,leadB b2.t b1.M b2.M⟩));have hbx:=box_below w9 (lmCells lm0) (lmCells ⟨13,1,2,leadB b2.t b1.M b2.M⟩) 58;have hb9:=H9.out.trans (hbx.mono H9.out.size);have HY:=Lib.hid (show LmAt _ _ ⟨13,1,2,leadB b2.t b1.M b2.M⟩ from box_row w9 (lmCells lm0) (lmCells ⟨13,1,2,leadB b2.t b1.M b2.M⟩) 58 rfl);have HX12:=Lib.hid (HX.out.below hb9);have HB12:=Lib.hid (HB10.out.trans (hb9.mono HB10.out.size));clear hbx hb9 H9 HA HX HB10;generalize (w9.alloc (.cells (lmCells lm0).toArray 58)).setCells w9.heap.size 0 (lmCells ⟨13,1,2,leadB b2.t b1.M b2.M⟩)=w12 at *;generalize w9.heap.size=gy at *;have HA:=Lib.hid (HCl.out w12 HB12.out);clear HCl;go_upto_region 13 with (first
  | ((with_reducible refine HA.out.mono ?_);rintro e w9 ⟨rfl,h9⟩;have H9:=Lib.hid h9;clear h9)
  | ((with_reducible refine wpList_store_mid rfl 58 _ _ rfl w9.heap.size 0 _ rfl rfl ?_ ?_ ?_ ?_);exact th_new w9 (lmCells lm0) 58;exact lm_size;exact all_oneCell_toArray (lm_one lm0)))
 change Code.wp _ _ _ _ ((w9.alloc (.cells (lmCells lm0).toArray 58)).setCells w9.heap.size 0 (lmCells lm0));have hbx:=box_below w9 (lmCells lm0) (lmCells lm0) 58;have hb9:=H9.out.trans (hbx.mono H9.out.size);have HX13:=Lib.hid (HX12.out.below hb9);have HY13:=Lib.hid (HY.out.below hb9);have HB13:=Lib.hid (HB12.out.trans (hb9.mono HB12.out.size));clear hbx hb9 H9 HA HX12 HY HB12;generalize (w9.alloc (.cells (lmCells lm0).toArray 58)).setCells w9.heap.size 0 (lmCells lm0)=w13 at *;generalize w9.heap.size=gt at *;have hA1:MacAll R1.M:=by rw [HT8.out.2.2.2];exact macsDo_all _ H0.out
 have hA2:MacAll R2.M:=by rw [HR8.out.m];exact macsDo_all _ H0.out
 have hb1M:b1.M=R1.M:=by rw [Hb1.out]
 have hb2M:b2.M=R2.M:=by rw [Hb2.out]
 have hb2t:b2.t=(runC M0 [lw1,lw2]).tail:=by rw [Hb2.out]
 have htl:b2.t.length≤3:=by rw [hb2t];exact runC_tail _ _
 have hall:R1.M.all=R2.M.all:=by rw [HT8.out.2.2.2,HR8.out.m,nodes_dos,nodes_dos]
 have hC:chOf 2 b2.t=some (tailC M0 [lw1,lw2]):=by rw [hb2t];exact tailC_of H0.out [lw1,lw2] (by simp)
 have hrE:readE b2.t R2.M 0=0:=by rw [hb2t,HR8.out.m];exact readE_ok H0.out [lw1,lw2]
 have HFo:=Lib.hid (show Calls Tryz.prog 18 #[.int .u64 1,.agg (macCells R1.M R1.P).toArray,.agg (lmCells ⟨13,1,2,leadB b2.t b1.M b2.M⟩).toArray] w13 fun e w'=>Below w13.heap.size w13 w'∧∃ p3 v3 X3,e=.returned (.tuple #[.pointer (some ⟨p3,0,none⟩),.agg (macCells R2.M X3.ptr).toArray,.int .i64 0])∧ChAt w' w13.heap.size p3 v3 (tailC M0 [lw1,lw2])∧TreeAt w' X3∧X3.sh=R2.M.sh from by
  have q:=follow_delta 1 R1.M T1 ⟨13,1,2,leadB b2.t b1.M b2.M⟩ hA1 HT8.out.2.2.1 rfl (by show 1<2;omega) rfl (by show 2<_;omega) b2.t (diffM b1.M b2.M) htl (by rw [hb1M,hb2M];have:=lead_len hA1 hA2;omega) (tailC M0 [lw1,lw2]) hC rfl w13 (HT8.out.1.below HB13.out);rw [← HT8.out.2.1,hb1M,hb2M,patch_diff hA1 hA2 hall] at q;rw [hb1M,hb2M];refine q.mono ?_;rintro e w' ⟨hb,Pc,M2,P2,rfl,_,hz⟩;obtain ⟨rfl,⟨p3,v3,rfl,hch,_⟩,X3,rfl,hX3,hs3⟩:=hz hrE;refine ⟨hb,p3,v3,X3,?_,hch,hX3,hs3⟩;dsimp only;rw [hrE];rfl)
 have Hrl:=Lib.hid (show w13.rangeAt go 0 (macCells R1.M R1.P) from range_row (HO8.out.below HB13.out));have Hrm:=Lib.hid (show w13.rangeAt gy 0 (lmCells ⟨13,1,2,leadB b2.t b1.M b2.M⟩) from range_row HY13.out);clear hA1 hA2 hb1M hb2M hb2t htl hall hC hrE;go_upto_region 14 with (first
  | (with_reducible refine wpList_load_mid rfl 38 _ rfl go 0 rfl (macCells R1.M R1.P) _ Hrl.out Tryz.underlying38 rfl (mac_size2 _ _) ?_)
  | (with_reducible refine wpList_load_mid rfl 58 _ rfl gy 0 rfl (lmCells ⟨13,1,2,leadB b2.t b1.M b2.M⟩) _ Hrm.out Tryz.underlying58 rfl (lm_size2 _) ?_)
  | ((with_reducible refine HFo.out.mono ?_);rintro e w9 ⟨h9,p3,v3,X3,rfl,hch3,hX3,hs3⟩;have H9:=Lib.hid (And.intro h9 (And.intro hch3 (And.intro hX3 hs3)));clear h9 hch3 hX3 hs3)
  | ((with_reducible refine wpList_store_mid rfl 38 _ _ rfl w9.heap.size 0 _ rfl rfl ?_ ?_ ?_ ?_);exact th_new w9 (macCells macNone none) 38;exact mac_size;exact all_oneCell_toArray (mac_one R2.M X3.ptr)))
 change Code.wp _ _ _ _ ((w9.alloc (.cells (macCells macNone none).toArray 38)).setCells w9.heap.size 0 (macCells R2.M X3.ptr));have hbx:=box_below w9 (macCells macNone none) (macCells R2.M X3.ptr) 38;have hb9:=H9.out.1.trans (hbx.mono H9.out.1.size);have HN14:=Lib.hid (show MacAt _ _ R2.M X3.ptr from box_row w9 (macCells macNone none) (macCells R2.M X3.ptr) 38 rfl);have HX14:=Lib.hid (HX13.out.below hb9);have HY14:=Lib.hid (HY13.out.below hb9);have HC14:=Lib.hid (And.intro (H9.out.2.1.below hbx) (And.intro (H9.out.2.2.1.below hbx) H9.out.2.2.2));have HB14:=Lib.hid (HB13.out.trans (hb9.mono HB13.out.size));clear hbx hb9 H9 HFo Hrl Hrm HX13 HY13 HB13;generalize (w9.alloc (.cells (macCells macNone none).toArray 38)).setCells w9.heap.size 0 (macCells R2.M X3.ptr)=w14 at *;generalize w9.heap.size=gn at *;have hnw:=newest_tells H0.out (HSh8.out.below HB14.out);have hnv:newV [b1,b2]=.tuple #[.int .u64 2,.string ⟨(textB b2.t b2.M).toArray⟩]:=by
  unfold newV;rw [show newB [b1,b2]=b2 from rfl,show b2.top=2 by rw [Hb2.out],if_neg (by omega)];rfl
 rw [hnv] at hnw;have Hnw:=Lib.hid hnw;clear hnw hnv;go_upto_region 15 with ((with_reducible refine Hnw.out.mono ?_);rintro e w15 ⟨rfl,h15⟩;have H15:=Lib.hid h15;clear h15)
 have HN15:=Lib.hid (HN14.out.below H15.out);have HX15:=Lib.hid (HX14.out.below H15.out);have HY15:=Lib.hid (HY14.out.below H15.out);have HC15:=Lib.hid (And.intro (HC14.out.1.below H15.out) (And.intro (HC14.out.2.1.below H15.out) HC14.out.2.2));have HB15:=Lib.hid (HB14.out.trans (H15.out.mono HB14.out.size));have HR15:=Lib.hid (HR8.out.below HB15.out);have HBw:=Lib.hid (HB8.out.trans (HB15.out.mono HB8.out.size));clear H15 HN14 HX14 HY14 HC14 HB14 HB15 HR8 HB8 Hnw HSh8;have x0:w15.cell? ⟨gx,0,none⟩=some (.int .u8 12):=cell_of_row _ _ _ _ _ _ HX15.out;have x4:w15.cell? ⟨gx,4,none⟩=some (.int .u64 2):=cell_of_row _ _ _ _ _ _ HX15.out;have y0:w15.cell? ⟨gy,0,none⟩=some (.int .u8 13):=cell_of_row _ _ _ _ _ _ HY15.out;have y3:w15.cell? ⟨gy,3,none⟩=some (.int .u64 1):=cell_of_row _ _ _ _ _ _ HY15.out;go_upto_region 17 with fail;clear x0 x4 y0 y3;obtain ⟨TX,hTX⟩:∃ S:ByteArray,(⟨(textB b2.t b2.M).toArray⟩:ByteArray)=S:=⟨_,rfl⟩;obtain ⟨TB,hTB⟩:∃ S:ByteArray,(⟨(macB R2.M).toArray⟩:ByteArray)=S:=⟨_,rfl⟩;obtain ⟨TT,hTT⟩:∃ S:ByteArray,(⟨(runC M0 [lw1,lw2]).tail.toArray⟩:ByteArray)=S:=⟨_,rfl⟩;have hA2:MacAll R2.M:=by rw [HR15.out.m];exact macsDo_all _ H0.out
 have HBy1:=Lib.hid (fun (y:World) (hy:Below w15.heap.size w15 y)=>(show Calls Tryz.prog 19 #[.agg (macCells R2.M X3.ptr).toArray] y fun e w'=>e=.returned (.string TB)∧Below y.heap.size y w' from by
  rw [← hTB];exact mbytes_any R2.M X3 (macFit_by hA2.fit) y (HC15.out.2.1.below hy) HC15.out.2.2))
 have HBy2:=Lib.hid (fun (y:World) (hy:Below w15.heap.size w15 y)=>(show Calls Tryz.prog 19 #[.agg (macCells R2.M R2.P).toArray] y fun e w'=>e=.returned (.string TB)∧Below y.heap.size y w' from by
  rw [← hTB,HR15.out.ri.tp];exact mbytes_any R2.M T2 (macFit_by hA2.fit) y (HR15.out.ri.t.below hy) HR15.out.ri.ts))
 have htc:=tailC_len M0 [lw1,lw2];have HTp:=Lib.hid (fun (y:World) (hy:Below w15.heap.size w15 y)=>(show Calls Tryz.prog 22 #[.pointer (some ⟨p3,0,none⟩)] y fun e w'=>e=.returned (.int .u64 2)∧Below y.heap.size y w' from by
  have q:=top_any w13.heap.size p3 v3 (tailC M0 [lw1,lw2]) htc.1 (by rw [htc.2.2];simp) y (HC15.out.1.below hy);rw [tailC_top] at q;exact q))
 have HT1c:=Lib.hid (fun (y:World) (hy:Below w15.heap.size w15 y)=>(show Calls Tryz.prog 42 #[.pointer (some ⟨p3,0,none⟩)] y fun e w'=>e=.returned (.string TT)∧Below y.heap.size y w' from by
  have q:=chtail_any w13.heap.size p3 v3 (tailC M0 [lw1,lw2]) htc.1 (by have:=htc.2.1;omega) y (HC15.out.1.below hy);rw [tailC_tail,hTT] at q;exact q))
 have HT2c:=Lib.hid (fun (y:World) (hy:Below w15.heap.size w15 y)=>(show Calls Tryz.prog 42 #[.pointer R2.c] y fun e w'=>e=.returned (.string TT)∧Below y.heap.size y w' from by
  have q:=chtail_any cb p cv2 ⟨0,(runC M0 [lw1,lw2]).D⟩ (by rw [runC_len];simp) (by rw [runC_len];simp) y (HR15.out.ri.ch.below hy);rw [show (⟨0,(runC M0 [lw1,lw2]).D⟩:ChV)=runC M0 [lw1,lw2] from rfl,hTT] at q;rw [HR15.out.ri.cp];exact q))
 have HTx:=Lib.hid (fun (y:World) (hy:Below w15.heap.size w15 y)=>(show Calls Tryz.prog 25 #[.pointer R2.c,.agg (macCells R2.M R2.P).toArray] y fun e w'=>e=.returned (.string TX)∧Below y.heap.size y w' from by
  have q:=ltext_any R2.M R2.P T2 hA2.fit HR15.out.ri.tp cb p cv2 ⟨0,(runC M0 [lw1,lw2]).D⟩ (by rw [runC_len];simp) (by rw [runC_len];simp) y (HR15.out.ri.ch.below hy) (HR15.out.ri.t.below hy) HR15.out.ri.ts;rw [show (⟨0,(runC M0 [lw1,lw2]).D⟩:ChV)=runC M0 [lw1,lw2] from rfl,show textB (runC M0 [lw1,lw2]).tail R2.M=textB b2.t b2.M by rw [Hb2.out],hTX] at q;rw [HR15.out.ri.cp];exact q))
 clear hA2 htc hTB hTT;rw [hTX];have HTX:=Lib.hid hTX;clear hTX;refine (wpIn_wide (n:=1)).1 ?_;refine RegJ.wpIn_region_plan (F:=Fence.wide) (KeptW w15) (.step 0 0 (.step 2 0 (.step 3 0 (.step 1 1 (.step 4 1 (.step 5 0 (.step 6 0 (.step 7 0 (.step 8 1 (.step 9 0 (.step 10 0 (.step 11 0 (.step 12 0 (.step 14 0 (.step 15 0 (.step 13 1 (.step 16 1 (.step 17 0 (.step 18 0 (.step 19 0 (.step 20 0 (.step 21 0 (.step 22 0 (.step 23 0 (.step 24 0 (.step 25 0 (.step 26 0 (.step 27 0 (.step 28 0 (.step 29 0 (.step 30 0 (.step 31 0 (.step 32 0 (.step 33 0 (.step 34 0 (.step 35 1 (.step 36 0 (.step 37 0 (.step 38 0 .nil))))))))))))))))))))))))))))))))))))))) (by kernel_rfl) (by kernel_rfl) (by kernel_rfl) (fun _ _ d _ _ h=>by cases d <;> exact h) ⟨rfl,rfl,rfl,Nat.le_refl _,fun _ _=>rfl⟩ ?_;dsimp only [RegJ.pickJ,List.getElem?_cons_zero,List.getElem?_cons_succ];change RegJ.Can _ _ _ _ _ _ _ _ w15.drew;have hkd:KeptW w15 w15.drew:=⟨rfl,rfl,rfl,Nat.le_refl _,fun _ _=>rfl⟩;generalize w15.drew=v1 at *;refine RegJ.reads ?_;intro K hK;rw [if_pos (by first | (simp [Region.wanted];done) | (go_simp;done))];refine ⟨.agg (macCells R2.M X3.ptr).toArray,fun y hy=>exec_load rfl rfl (row_loadAt (P:=Tryz.prog) (cs:=macCells R2.M X3.ptr) (HN15.out.below (KeptW.bel hy)) Tryz.underlying38 rfl (mac_size2 _ _)),hK _ ?_⟩;clear hK K;go_simp;refine RegJ.reads ?_;intro K hK;go_simp;(first | refine ⟨_,fun _ _=>rfl,hK _ ?_⟩ | refine hK _ ?_);clear hK K
 refine RegJ.reads ?_;intro K hK;rw [if_pos (by first | (simp [Region.wanted];done) | (go_simp;done))];refine ⟨.agg (macCells R2.M R2.P).toArray,fun y hy=>exec_load rfl rfl (rn_mac (HR15.out.at_.below (KeptW.bel hy))),hK _ ?_⟩;clear hK K;go_simp;refine RegJ.turns (fun _=>trivial) ?_;intro K K0 hK hK0;go_simp;refine ⟨trivial,?_⟩;refine (callsIn_wide.2 (HBy1.out v1 (KeptW.bel hkd))).mono ?_;rintro e v2 ⟨rfl,hb7⟩;have v2k:KeptW w15 v2:=KeptW.mono hkd hb7;refine hK _ _ _ (fun _ h=>h) v2k ?_;clear hK K hK0 K0;refine RegJ.turns (fun _=>trivial) ?_;intro K K0 hK hK0;go_simp;refine ⟨trivial,?_⟩;refine (callsIn_wide.2 (HBy2.out v2 (KeptW.bel v2k))).mono ?_;rintro e v3 ⟨rfl,hb7⟩;have v3k:KeptW w15 v3:=KeptW.mono v2k hb7;refine hK _ _ _ (fun _ h=>h) v3k ?_;clear hK K hK0 K0;iterate 3 (refine RegJ.reads ?_;intro K hK;go_simp;(first | refine ⟨_,fun _ _=>rfl,hK _ ?_⟩ | refine hK _ ?_);clear hK K)
 refine RegJ.turns (fun _=>trivial) ?_;intro K K0 hK hK0;go_simp;refine ⟨trivial,?_⟩;refine (callsIn_wide.2 (HTp.out v3 (KeptW.bel v3k))).mono ?_;rintro e v4 ⟨rfl,hb7⟩;have v4k:KeptW w15 v4:=KeptW.mono v3k hb7;refine hK _ _ _ (fun _ h=>h) v4k ?_;clear hK K hK0 K0;iterate 5 (refine RegJ.reads ?_;intro K hK;go_simp;(first | refine ⟨_,fun _ _=>rfl,hK _ ?_⟩ | refine hK _ ?_);clear hK K)
 refine RegJ.reads ?_;intro K hK;go_simp;refine ⟨.pointer R2.c,fun y hy=>?_,hK _ ?_⟩
 ·
  have f0:y.cell? ⟨g,15,none⟩=some (.pointer R2.c):=cell_of_row _ _ _ _ _ _ (show y.heap[g]?=some (.cells (rnCells R2).toArray _ (0,0)) from HR15.out.at_.below (KeptW.bel hy));go_simp
 clear hK K;refine RegJ.turns (fun _=>trivial) ?_;intro K K0 hK hK0;go_simp;refine ⟨trivial,?_⟩;refine (callsIn_wide.2 (HT1c.out v4 (KeptW.bel v4k))).mono ?_;rintro e v5 ⟨rfl,hb7⟩;have v5k:KeptW w15 v5:=KeptW.mono v4k hb7;refine hK _ _ _ (fun _ h=>h) v5k ?_;clear hK K hK0 K0;refine RegJ.turns (fun _=>trivial) ?_;intro K K0 hK hK0;go_simp;refine ⟨trivial,?_⟩;refine (callsIn_wide.2 (HT2c.out v5 (KeptW.bel v5k))).mono ?_;rintro e v6 ⟨rfl,hb7⟩;have v6k:KeptW w15 v6:=KeptW.mono v5k hb7;refine hK _ _ _ (fun _ h=>h) v6k ?_;clear hK K hK0 K0;iterate 9 (refine RegJ.reads ?_;intro K hK;go_simp;(first | refine ⟨_,fun _ _=>rfl,hK _ ?_⟩ | refine hK _ ?_);clear hK K)
 refine RegJ.reads ?_;intro K hK;go_simp;refine ⟨.string TX,fun y hy=>?_,hK _ ?_⟩
 ·
  have f0:y.cell? ⟨gx,6,none⟩=some (.string TX):=by rw [← HTX.out];exact cell_of_row _ _ _ _ _ _ (HX15.out.below (KeptW.bel hy))
  go_simp
 clear hK K;iterate 5 (refine RegJ.reads ?_;intro K hK;go_simp;(first | refine ⟨_,fun _ _=>rfl,hK _ ?_⟩ | refine hK _ ?_);clear hK K)
 refine RegJ.reads ?_;intro K hK;go_simp;refine ⟨.pointer R2.c,fun y hy=>?_,hK _ ?_⟩
 ·
  have f0:y.cell? ⟨g,15,none⟩=some (.pointer R2.c):=cell_of_row _ _ _ _ _ _ (show y.heap[g]?=some (.cells (rnCells R2).toArray _ (0,0)) from HR15.out.at_.below (KeptW.bel hy));go_simp
 clear hK K;refine RegJ.reads ?_;intro K hK;go_simp;(first | refine ⟨_,fun _ _=>rfl,hK _ ?_⟩ | refine hK _ ?_);clear hK K
 refine RegJ.reads ?_;intro K hK;rw [if_pos (by first | (simp [Region.wanted];done) | (go_simp;done))];refine ⟨.agg (macCells R2.M R2.P).toArray,fun y hy=>exec_load rfl rfl (rn_mac (HR15.out.at_.below (KeptW.bel hy))),hK _ ?_⟩;clear hK K;go_simp;refine RegJ.turns (fun _=>trivial) ?_;intro K K0 hK hK0;go_simp;refine ⟨trivial,?_⟩;refine (callsIn_wide.2 (HTx.out v6 (KeptW.bel v6k))).mono ?_;rintro e v7 ⟨rfl,hb7⟩;have v7k:KeptW w15 v7:=KeptW.mono v6k hb7;refine hK _ _ _ (fun _ h=>h) v7k ?_;clear hK K hK0 K0;iterate 3 (refine RegJ.reads ?_;intro K hK;go_simp;(first | refine ⟨_,fun _ _=>rfl,hK _ ?_⟩ | refine hK _ ?_);clear hK K)
 refine RegJ.nil ?_;go_wp2_with fail;go_ret;exact ⟨rfl,HBw.out.trans ((KeptW.bel v7k).mono HBw.out.size)⟩
theorem lt_u64 {n:Int} (h:(Lit.int .u64 n).wf=true):∃ x:Nat,n=(x:Int)∧x<18446744073709551616:=by
 have h':0≤n∧n≤18446744073709551615:=by simpa [Lit.wf,IntKind.min,IntKind.max,IntKind.signed,IntKind.bits] using h
 exact ⟨n.toNat,by omega,by omega⟩
end Go.Proofs.YtbckjgageofldaaGreat
