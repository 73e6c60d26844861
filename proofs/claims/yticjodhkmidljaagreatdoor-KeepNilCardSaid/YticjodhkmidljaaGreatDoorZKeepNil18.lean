/- Keep (plain): ballots, votes, records, and what a keep holds. No condition. -/
import Derived.Test.YticjodhkmidljaaGreatDoorZKeepNil17
import Derived.Maps.Keyed
import Derived.Carry
import Derived.StillTailTactics
import Derived.Test.YticjodhkmidljaaGreatDoorZKeepNil4
import Derived.Test.YticjodhkmidljaaGreatDoorZKeepNil0
import Derived.Sort.WalkA
import Derived.BigQuiet
import Derived.Test.YticjodhkmidljaaGreatDoorZKeepNil3
import Derived.Test.YticjodhkmidljaaGreatDoorZKeepNil2
namespace Go.Proofs.YticjodhkmidljaaGreatDoor
theorem snoc_ind {α:Type} {P:List α→Prop} (nil:P []) (snoc:∀ (l:List α) (x:α),P l→P (l++[x])) (l:List α):P l:=by
  have h:∀ k:List α,P k.reverse:=fun k=>by
    induction k with
    | nil=>exact nil
    | cons x r ih=>rw [List.reverse_cons];exact snoc _ _ ih
  have h2:=h l.reverse
  rwa [List.reverse_reverse] at h2
structure BalV where
  n:Nat
  r:Nat
  deriving DecidableEq
structure VotV where
  slot:Nat
  b:BalV
  v:Bs
  deriving DecidableEq
def bal0:BalV:=⟨0,0⟩
def balLt (a b:BalV):Prop:=a.n<b.n∨(a.n=b.n∧a.r<b.r)
instance (a b:BalV):Decidable (balLt a b):=inferInstanceAs (Decidable (_∨_))
/-- A ballot that may be promised. -/
def balOk (b:BalV):Prop:=b.r<7∧1≤b.n∧b.n<18446744073709551616
theorem balLt_irr (a:BalV) : ¬ balLt a a:=by unfold balLt;omega
theorem balLt_asy {a b:BalV} (h:balLt a b) : ¬ balLt b a:=by unfold balLt at *; omega
theorem bal_eq {a b:BalV} (h : ¬ balLt a b) (k : ¬ balLt b a):a=b:=by
  obtain ⟨an,ar⟩:=a
  obtain ⟨bn,br⟩:=b
  unfold balLt at h k
  dsimp only at h k
  rw [show an=bn by omega,show ar=br by omega]
theorem le_le {a b c:BalV} (h : ¬ balLt b a) (k : ¬ balLt c b) : ¬ balLt c a:=by unfold balLt at *; omega
def balB (b:BalV):Bs:=numL b.n++[UInt8.ofNat b.r]
inductive RecK where
  | pro (b:BalV)
  | vot (v:VotV)
def RecK.bal:RecK→BalV
  | .pro b=>b
  | .vot v=>v.b
def recB:RecK→Bs
  | .pro b=>1::balB b
  | .vot v=>2::(numL v.slot++(balB v.b++(numL v.v.length++v.v)))
/-- A record that read takes. -/
def recOk:RecK→Prop
  | .pro b=>balOk b
  | .vot v=>balOk v.b∧1≤v.slot∧v.slot≤4611686018427387904∧v.v.length≤65536
theorem recB_len (x:RecK):3≤(recB x).length∧(recB x).length≤30+match x with
    | .pro _=>0
    | .vot v=>v.v.length:=by
  cases x with
  | pro b =>
    have h1:=numL_len b.n
    simp only [recB,balB,List.length_cons,List.length_append,List.length_nil]
    omega
  | vot v =>
    have h1:=numL_len v.b.n
    have h2:=numL_len v.slot
    have h3:=numL_len v.v.length
    simp only [recB,balB,List.length_cons,List.length_append,List.length_nil]
    omega
/-- What a keep holds. -/
structure KepV where
  pr:BalV
  vs:Nat→Option (BalV × Bs)
def kep0:KepV:=⟨bal0,fun _=>none⟩
def KepV.rise (K:KepV) (b:BalV):KepV:=if balLt K.pr b then { K with pr:=b } else K
def KepV.put (K:KepV) (v:VotV):KepV:={ K with vs:=fun s=>if s=v.slot then some (v.b,v.v) else K.vs s }
/-- Is a vote to be taken in? -/
def KepV.may (K:KepV) (base:Nat) (v:VotV):Prop:=base<v.slot∧∀ p,K.vs v.slot=some p→balLt p.1 v.b
instance (K:KepV) (base:Nat) (v:VotV):Decidable (K.may base v):=by
  unfold KepV.may
  cases h:K.vs v.slot with
  | none=>exact decidable_of_iff (base<v.slot) ⟨fun q=>⟨q,fun p hp=>by cases hp⟩,fun q=>q.1⟩
  | some p=>exact decidable_of_iff (base<v.slot∧balLt p.1 v.b) ⟨fun q=>⟨q.1,fun p' hp=>by cases hp;exact q.2⟩,fun q=>⟨q.1,q.2 p rfl⟩⟩
def KepV.take (base:Nat) (K:KepV):RecK→KepV
  | .pro b=>K.rise b
  | .vot v=>(if K.may base v then K.put v else K).rise v.b
def openK (base:Nat) (X:List RecK):KepV:=X.foldl (KepV.take base) kep0
theorem openK_snoc (base:Nat) (X:List RecK) (x:RecK):openK base (X++[x])=(openK base X).take base x:=by simp [openK]
theorem rise_pr (K:KepV) (b:BalV) : ¬ balLt (K.rise b).pr K.pr ∧ ¬ balLt (K.rise b).pr b∧((K.rise b).pr=K.pr∨(K.rise b).pr=b):=by
  unfold KepV.rise
  split
  · next h=>exact ⟨balLt_asy h,balLt_irr _,.inr rfl⟩
  · next h=>exact ⟨balLt_irr _,h,.inl rfl⟩
theorem rise_vs (K:KepV) (b:BalV):(K.rise b).vs=K.vs:=by
  unfold KepV.rise
  split <;> rfl
theorem take_pr (base:Nat) (K:KepV) (x:RecK) : ¬ balLt (K.take base x).pr K.pr ∧ ¬ balLt (K.take base x).pr x.bal∧((K.take base x).pr=K.pr∨(K.take base x).pr=x.bal):=by
  cases x with
  | pro b=>exact rise_pr K b
  | vot v =>
    have h:(if K.may base v then K.put v else K).pr=K.pr:=by split <;> rfl
    have h2:=rise_pr (if K.may base v then K.put v else K) v.b
    rw [h] at h2
    exact h2
theorem take_vs (base:Nat) (K:KepV) (v:VotV) (s:Nat):(K.take base (.vot v)).vs s=if s=v.slot∧K.may base v then some (v.b,v.v) else K.vs s:=by
  show ((if K.may base v then K.put v else K).rise v.b).vs s=_
  rw [rise_vs]
  by_cases hm:K.may base v
  · rw [if_pos hm]
    by_cases hs:s=v.slot
    · rw [if_pos ⟨hs,hm⟩]
      show (if s=v.slot then _ else _)=_
      rw [if_pos hs]
    · rw [if_neg (fun q=>hs q.1)]
      show (if s=v.slot then _ else _)=_
      rw [if_neg hs]
  · rw [if_neg hm,if_neg (fun q=>hm q.2)]
theorem take_pro_vs (base:Nat) (K:KepV) (b:BalV):(K.take base (.pro b)).vs=K.vs:=rise_vs K b
/-- What holds of a keep: votes above the base, none above the promise. -/
structure KepOk (base:Nat) (K:KepV):Prop where
  low:∀ s p,K.vs s=some p→base<s
  top:∀ s p,K.vs s=some p → ¬ balLt K.pr p.1
theorem kep0_ok (base:Nat):KepOk base kep0:=⟨fun _ _ h=>(by cases h),fun _ _ h=>(by cases h)⟩
theorem KepOk.take {base:Nat} {K:KepV} (h:KepOk base K) (x:RecK):KepOk base (K.take base x):=by
  have hp:=take_pr base K x
  cases x with
  | pro b=>exact ⟨fun s p hs=>h.low s p (by rw [take_pro_vs] at hs;exact hs),fun s p hs=>le_le (h.top s p (by rw [take_pro_vs] at hs;exact hs)) hp.1⟩
  | vot v =>
    refine ⟨fun s p hs=>?_,fun s p hs=>?_⟩
    · rw [take_vs] at hs
      split at hs
      · next hc=>rw [hc.1];exact hc.2.1
      · exact h.low s p hs
    · rw [take_vs] at hs
      split at hs
      · next hc =>
        cases hs
        exact hp.2.1
      · exact le_le (h.top s p hs) hp.1
theorem openK_ok (base:Nat) (X:List RecK):KepOk base (openK base X):=by
  induction X using snoc_ind with
  | nil=>exact kep0_ok base
  | snoc X x ih =>
    rw [openK_snoc]
    exact ih.take x
/-- All that a keep holds was in a record. -/
theorem openK_from (base:Nat) (X:List RecK):((openK base X).pr=bal0∨∃ x ∈ X,x.bal=(openK base X).pr)∧∀ s p,(openK base X).vs s=some p→∃ v,RecK.vot v ∈ X∧v=⟨s,p.1,p.2⟩:=by
  induction X using snoc_ind with
  | nil=>exact ⟨.inl rfl,fun s p h=>by cases h⟩
  | snoc X x ih =>
    rw [openK_snoc]
    refine ⟨?_,fun s p h=>?_⟩
    · rcases (take_pr base (openK base X) x).2.2 with e | e
      · rw [e]
        rcases ih.1 with q | ⟨y,hy,q⟩
        · exact .inl q
        · exact .inr ⟨y,List.mem_append_left _ hy,q⟩
      · exact .inr ⟨x,by simp,e.symm⟩
    · cases x with
      | pro b =>
        rw [take_pro_vs] at h
        obtain ⟨v,h1,h2⟩:=ih.2 s p h
        exact ⟨v,List.mem_append_left _ h1,h2⟩
      | vot v =>
        rw [take_vs] at h
        split at h
        · next hc =>
          cases h
          exact ⟨v,by simp,by rw [hc.1]⟩
        · obtain ⟨v,h1,h2⟩:=ih.2 s p h
          exact ⟨v,List.mem_append_left _ h1,h2⟩
end Go.Proofs.YticjodhkmidljaaGreatDoor
namespace Go.Proofs.YticjodhkmidljaaGreatDoor
/-- A keep's votes, rising by their slots. -/
structure VotsOf (K:KepV) (L:List VotV):Prop where
  up:L.Pairwise (fun a b=>a.slot<b.slot)
  mem:∀ v,v ∈ L ↔ K.vs v.slot=some (v.b,v.v)
def renK (K:KepV) (L:List VotV):List RecK:=(if K.pr=bal0 then [] else [.pro K.pr])++L.map RecK.vot
def findV (s:Nat) (l:List VotV):Option VotV:=l.find? (fun v=>decide (v.slot=s))
theorem findV_none {s:Nat}:∀ {l:List VotV},(∀ v ∈ l,v.slot≠s)→findV s l=none
  | [],_=>rfl
  | x::r,h=>by
    unfold findV
    rw [List.find?_cons_of_neg (by simpa using h x (List.mem_cons_self ..))]
    exact findV_none (fun v hv=>h v (List.mem_cons_of_mem _ hv))
theorem findV_snoc (s:Nat) (l:List VotV) (x:VotV):findV s (l++[x])=(findV s l).or (if x.slot=s then some x else none):=by
  unfold findV
  rw [List.find?_append]
  congr 1
  by_cases h:x.slot=s
  · rw [if_pos h,List.find?_cons_of_pos (by simpa using h)]
  · rw [if_neg h,List.find?_cons_of_neg (by simpa using h)]
    rfl
theorem fold_votes (base:Nat) (pr:BalV) (l:List VotV):l.Pairwise (fun a b=>a.slot<b.slot)→(∀ v ∈ l,base<v.slot ∧ ¬ balLt pr v.b)→(l.map RecK.vot).foldl (KepV.take base) ⟨pr,fun _=>none⟩=⟨pr,fun s=>(findV s l).map (fun v:VotV=>(v.b,v.v))⟩:=by
  induction l using snoc_ind with
  | nil=>intro _ _;rfl
  | snoc l x ih =>
    intro hp hv
    obtain ⟨hp1, -, hp2⟩:=List.pairwise_append.1 hp
    have hx:=hv x (by simp)
    have hno:∀ v ∈ l,v.slot≠x.slot:=fun v hm e=>by
      have:=hp2 v hm x (by simp)
      omega
    rw [List.map_append,List.foldl_append,ih hp1 (fun v hm=>hv v (List.mem_append_left _ hm))]
    show KepV.take base _ (.vot x)=_
    have hmay:(⟨pr,fun s=>(findV s l).map (fun v:VotV=>(v.b,v.v))⟩:KepV).may base x:=by
      refine ⟨hx.1,fun p hq=>?_⟩
      have hq':(findV x.slot l).map (fun v:VotV=>(v.b,v.v))=some p:=hq
      rw [findV_none hno] at hq'
      cases hq'
    obtain ⟨K1,hK1⟩:∃ K1:KepV,K1=⟨pr,fun s=>(findV s l).map (fun v:VotV=>(v.b,v.v))⟩:=⟨_,rfl⟩
    rw [← hK1] at hmay ⊢
    show KepV.rise (if K1.may base x then K1.put x else K1) x.b=_
    rw [if_pos hmay,hK1]
    unfold KepV.rise KepV.put
    rw [if_neg (show ¬ balLt pr x.b from hx.2)]
    congr 1
    funext s
    rw [findV_snoc]
    by_cases hs:s=x.slot
    · rw [if_pos hs,if_pos hs.symm,hs,findV_none hno]
      rfl
    · rw [if_neg hs,if_neg (fun e=>hs e.symm)]
      show (findV s l).map _=_
      cases findV s l <;> rfl
theorem openK_renew {base:Nat} {K:KepV} {L:List VotV} (h:KepOk base K) (hL:VotsOf K L):openK base (renK K L)=K:=by
  have hv:∀ v ∈ L,base<v.slot ∧ ¬ balLt K.pr v.b:=fun v hm=>⟨h.low _ _ ((hL.mem v).1 hm),h.top _ _ ((hL.mem v).1 hm)⟩
  have h0:((if K.pr=bal0 then [] else [RecK.pro K.pr]):List RecK).foldl (KepV.take base) kep0=⟨K.pr,fun _=>none⟩:=by
    split
    · next e=>rw [e];rfl
    · next e =>
      show kep0.rise K.pr=_
      unfold KepV.rise
      have hlt:balLt kep0.pr K.pr:=by
        by_cases c:balLt kep0.pr K.pr
        · exact c
        · exact absurd (bal_eq (show ¬ balLt K.pr bal0 from fun q=>by rcases q with q | q;exact absurd q (Nat.not_lt_zero _);exact absurd q.2 (Nat.not_lt_zero _)) c) e
      rw [if_pos hlt]
      rfl
  unfold openK renK
  rw [List.foldl_append,h0,fold_votes base K.pr L hL.up hv]
  obtain ⟨pr,vs⟩:=K
  congr 1
  funext s
  show (findV s L).map _=vs s
  cases hf:findV s L with
  | none =>
    cases hs:vs s with
    | none=>rfl
    | some p =>
      exfalso
      have hm:(⟨s,p.1,p.2⟩:VotV) ∈ L:=(hL.mem ⟨s,p.1,p.2⟩).2 hs
      have h2:=List.find?_eq_none.1 hf _ hm
      exact h2 (by simp)
  | some v =>
    have hm:=List.mem_of_find?_eq_some hf
    have hs:v.slot=s:=by simpa using List.find?_some hf
    have h2:=(hL.mem v).1 hm
    rw [hs] at h2
    exact h2.symm
/-- Votes up to a base go. -/
def KepV.drop (K:KepV) (base:Nat):KepV:={ K with vs:=fun s=>if base<s then K.vs s else none }
end Go.Proofs.YticjodhkmidljaaGreatDoor
namespace Go.Proofs.YticjodhkmidljaaGreatDoor
open Go.RowKit
open Go.Maps (Keyed)
theorem thawed_row {w:World} {p:Nat} {cs:Array Value} {t:TypeId} (j:Nat) (h:w.heap[p]?=some (.cells cs t (0,0))):w.frozen? ⟨p,j,none⟩=false:=by
  unfold World.frozen?
  rw [h]
  rfl
theorem pure_bel {P:Program} {f:FuncId} {a:Array Value} {w:World} {v:Ending} (h:Calls P f a w fun e w'=>e=v∧w=w'):Calls P f a w fun e w'=>e=v∧Below w.heap.size w w':=h.mono (by rintro e w' ⟨h1,rfl⟩;exact ⟨h1,Below.refl _ _⟩)
abbrev VoR:=BalV × Bs
def voCells (s:Nat) (r:VoR):List Value:=[.int .u64 (s:Int),.int .u64 (r.1.n:Int),.int .u8 (r.1.r:Int),.string ⟨r.2.toArray⟩]
def voV (s:Nat) (r:VoR):Value:=.agg (voCells s r).toArray
def balC (b:BalV):List Value:=[.int .u64 (b.n:Int),.int .u8 (b.r:Int)]
def vo0:VoR:=(bal0,[])
theorem vo_one (s:Nat) (r:VoR):∀ u ∈ voCells s r,u.oneCell'=true:=by simp [voCells,Value.oneCell']
theorem vo_size (s:Nat) (r:VoR):(Tryz.prog.info? 26).map (·.size)=some (voCells s r).length:=(by kernel_rfl:(Tryz.prog.info? 26).map (·.size)=some 4)
theorem vo_zero (w:World):(zeroValue 26).run Tryz.prog w=.ok (voV 0 vo0) w:=by kernel_rfl
theorem lawU:Keyed Tryz.prog 22:=Maps.int_keyed Tryz.underlying22
/-- A slot, as a key. -/
def ku (s:Nat):Lit:=.int .u64 (s:Int)
theorem key_ku {s:Nat} (h:s<18446744073709551616):keyOf Tryz.prog 22 (.int .u64 (s:Int))=some (ku s):=Maps.keyOf_int_mk Tryz.underlying22 (by simp [Lit.wf,IntKind.min,IntKind.max,IntKind.signed,IntKind.bits];omega)
def mpV (D:Nat→Option VoR):Lit→Option Value
  | .int .u64 a=>if 0≤a then (D a.toNat).map (voV a.toNat) else none
  | _=>none
def updV (D:Nat→Option VoR) (s:Nat) (r:Option VoR):Nat→Option VoR:=fun k=>if k=s then r else D k
theorem mpV_at (D:Nat→Option VoR) (s:Nat):mpV D (ku s)=(D s).map (voV s):=by simp [mpV,ku]
theorem mpV_upd (D:Nat→Option VoR) (s:Nat) (r:Option VoR) (l:Lit):(if l.sameKey (ku s) then r.map (voV s) else mpV D l)=mpV (updV D s r) l:=by
  unfold ku
  cases l with
  | int q a =>
    cases q <;> simp [Lit.sameKey,mpV]
    by_cases h:a=(s:Int)
    · subst h
      simp [updV]
    · rw [if_neg h]
      split
      · next h0 =>
        have:a.toNat≠s:=by omega
        simp [updV,this]
      · rfl
  | _=>simp [Lit.sameKey,mpV]
theorem mpV_put (D:Nat→Option VoR) (s:Nat) (r:VoR):mpPut (mpV D) (ku s) (voV s r)=mpV (updV D s (some r)):=funext fun l=>mpV_upd D s (some r) l
theorem mpV_none:mpV (fun _=>none)=fun _=>none:=by
  funext l
  cases l with
  | int q a=>cases q <;> simp [mpV]
  | _=>rfl
theorem mpV_some {Dm:Nat→Option VoR} {x:Int} (h:(mpV Dm (.int .u64 x)).isSome=true):∃ (s:Nat) (r:VoR),x=(s:Int)∧Dm s=some r:=by
  unfold mpV at h
  simp only at h
  split at h
  · next h0 =>
    cases hd:Dm x.toNat with
    | none=>rw [hd] at h;cases h
    | some r=>exact ⟨x.toNat,r,by omega,hd⟩
  · cases h
/-- A keep lies there: its block, its map. -/
structure KepAt (w:World) (k S l g n:Nat) (K:KepV):Prop where
  row:w.heap[k]?=some (.cells #[.pointer (some ⟨S,0,none⟩),.pointer (some ⟨l,0,none⟩),.int .u64 (K.pr.n:Int),.int .u8 (K.pr.r:Int),.map (some g)] 65 (0,0))
  mp:MpAt Tryz.prog 22 w g n (mpV K.vs)
section
variable {w w' : World} {k S l g n : Nat} {K : KepV}
theorem KepAt.lt (h:KepAt w k S l g n K):k<w.heap.size:=(Array.getElem?_eq_some_iff.1 h.row).1
theorem KepAt.ne (h:KepAt w k S l g n K):k≠g:=by
  rintro rfl
  obtain ⟨_,⟨es,cl,hg,_⟩,_⟩:=h.mp
  have:=h.row
  rw [hg] at this
  cases this
theorem KepAt.stay (h:KepAt w k S l g n K) (hp:w'.heap[k]?=w.heap[k]?) (hg:w'.heap[g]?=w.heap[g]?):KepAt w' k S l g n K:=⟨hp.trans h.row,h.mp.stay hg⟩
theorem KepAt.below (h:KepAt w k S l g n K) (hb:Below w.heap.size w w'):KepAt w' k S l g n K:=h.stay (hb.block k h.lt) (hb.block g h.mp.lt)
theorem KepAt.wide (h:KepAt w k S l g n K) {m:Nat} (hm:n≤m):KepAt w k S l g m K:=⟨h.row,h.mp.mono hm⟩
theorem KepAt.cells (h:KepAt w k S l g n K):w.cell? ⟨k,0,none⟩=some (.pointer (some ⟨S,0,none⟩))∧w.cell? ⟨k,1,none⟩=some (.pointer (some ⟨l,0,none⟩))∧w.cell? ⟨k,2,none⟩=some (.int .u64 (K.pr.n:Int))∧w.cell? ⟨k,3,none⟩=some (.int .u8 (K.pr.r:Int))∧w.cell? ⟨k,4,none⟩=some (.map (some g)):=⟨cell_of_row _ _ _ _ _ _ h.row,cell_of_row _ _ _ _ _ _ h.row,cell_of_row _ _ _ _ _ _ h.row,cell_of_row _ _ _ _ _ _ h.row,cell_of_row _ _ _ _ _ _ h.row⟩
/-- But for two blocks, nothing that lay there turned. -/
structure ButTwo (p g:Nat) (w w':World):Prop where
  os:w'.os=w.os
  tape:w'.tape=w.tape
  output:w'.output=w.output
  size:w.heap.size≤w'.heap.size
  block:∀ k,k<w.heap.size→k≠p→k≠g→w'.heap[k]?=w.heap[k]?
theorem two_of {p g:Nat} {w w':World} (h:Below w.heap.size w w'):ButTwo p g w w':=⟨h.os,h.tape,h.output,h.size,fun k hk _ _=>h.block k hk⟩
theorem ButTwo.trans {p g:Nat} {a b c:World} (h:ButTwo p g a b) (k:ButTwo p g b c):ButTwo p g a c:=⟨k.os.trans h.os,k.tape.trans h.tape,k.output.trans h.output,Nat.le_trans h.size k.size,fun i hi h1 h2=>(k.block i (Nat.lt_of_lt_of_le hi h.size) h1 h2).trans (h.block i hi h1 h2)⟩
theorem ButTwo.below {p g m:Nat} {w0 w w':World} (h:ButTwo p g w w') (h0:Below m w0 w) (hm:m≤w.heap.size) (hp:m≤p) (hg:m≤g):Below m w0 w':=h0.trans ⟨h.os,h.tape,h.output,h.size,fun k hk=>h.block k (by omega) (by omega) (by omega)⟩
theorem two_turned {p g:Nat} {w w':World} (h:w.mapTurned w' g):ButTwo p g w w':=by
  have hs:=h.grown
  exact ⟨hs.os,hs.tape,hs.output,hs.size,fun k hk _ hg=>turned_block h hg⟩
theorem two_cell {p g i:Nat} {w:World} (x:Value):ButTwo p g w (w.setCell ⟨p,i,none⟩ x):=⟨rfl,rfl,rfl,by simp,fun k _ hp _=>Below.heap_setCell _ _ _ _ hp⟩
end
end Go.Proofs.YticjodhkmidljaaGreatDoor
namespace Go.Proofs.YticjodhkmidljaaGreatDoor
open Go.RowKit Go.Sort
/-- The row, behind n draws. -/
def rw64 (w:World) (n b:Nat) (d:Array Int):World:=putRow (Value.int .u64) (Sort.ahead w n) b 0 d
/-- The row is d in w. -/
abbrev R64 (w:World) (b:Nat) (d:Array Int):Prop:=Holds (Value.int .u64) w b 0 d
theorem rw_cell {w:World} {b:Nat} {d0:Array Int} (h:R64 w b d0) (n:Nat) {d:Array Int} (hs:d.size=d0.size) (i:Nat) (hi:i<d0.size):(rw64 w n b d).cell? ⟨b,i,none⟩=some (.int .u64 d[i]!):=by
  have q:=cell?_putRow (Value.int .u64) _ b 0 d0 d (holds_ahead _ _ n _ _ _ h) hs i (by omega)
  rwa [Nat.zero_add] at q
theorem rw_thaw {w:World} {b:Nat} {d0:Array Int} (h:R64 w b d0) (n:Nat) (d:Array Int) (i:Nat) (hi:i<d0.size):(rw64 w n b d).frozen? ⟨b,i,none⟩=false:=by
  have q:=(holds_ahead _ _ n _ _ _ h i hi).2
  unfold rw64
  rw [frozen?_putRow]
  rwa [Nat.zero_add] at q
theorem rw_draw (w:World) (n q b:Nat) (d:Array Int):(rw64 w n b d).drewN q=rw64 w (n+q) b d:=putRow_drewN _ w n q b 0 d
theorem rw_swap (w:World) (n q b:Nat) (d:Array Int) (i j:Nat) (hi:i<d.size) (hj:j<d.size):(((rw64 w n b d).drewN q).setCell ⟨b,i,none⟩ (.int .u64 d[j]!)).setCell ⟨b,j,none⟩ (.int .u64 d[i]!)=rw64 w (n+q) b (swp d i j):=by
  have h:=swap_worldA (Value.int .u64) w n q b 0 d i j hi hj
  rwa [Nat.zero_add,Nat.zero_add] at h
theorem rw_new {w:World} {b:Nat} {d:Array Int} (h:R64 w b d):w=rw64 w 0 b d:=(putRow_self _ _ _ _ _ h).symm
theorem rw_holds {w:World} {b:Nat} {d0 d:Array Int} (h:R64 w b d0) (n:Nat) (hs:d.size=d0.size):R64 (rw64 w n b d) b d:=holds_putRow _ _ _ _ _ _ (holds_ahead _ _ n _ _ _ h) hs
theorem nan_any (x:Int) (w:World):Calls Tryz.prog 140 #[.int .u64 x] w fun e w'=>e=.returned (.bool false)∧w'=w:=by
  go_enter Tryz.func140,Tryz.ntmps140
  go_wp2_with fail
  go_ret
  exact ⟨by simp,rfl⟩
theorem less_any (x y:Int) (w:World):Calls Tryz.prog 131 #[.int .u64 x,.int .u64 y] w fun e w'=>e=.returned (.bool (ltInt x y))∧w'=w:=by
  have H:=Lib.hid (fun (z:Int) (y:World)=>nan_any z y)
  go_enter Tryz.func131,Tryz.ntmps131
  go_wp2_with ((with_reducible refine (H.out _ _).mono ?_);rintro e w' ⟨rfl,rfl⟩)
  go_ret
  exact ⟨rfl,rfl⟩
set_option maxRecDepth 100000 in
theorem ins64 (b cap x y:Nat) (d:Array Int) (w:World) (hR:R64 w b d) (hxy:x≤y) (hy:y≤d.size) (hsz:d.size<4611686018427387904) :
    Calls Tryz.prog 125 #[.slice (some ⟨b,0,none⟩) d.size cap,.int .i64 (x:Int),.int .i64 (y:Int)] w fun e w'=>e=.returned (.tuple #[])∧∃ n,w'=rw64 w n b (insertionSort ltInt d x y):=by
  have HR:=Lib.hid hR
  clear hR
  generalize hL:d.size=L at *
  go_enter Tryz.func125,Tryz.ntmps125
  go_upto_region 1 with fail
  go_loopw [6] (fun s6 wr=>∃ (i n:Nat) (c:Array Int),s6=.int .i64 (i:Int)∧x<i∧i≤y+1∧c.size=L∧wr=rw64 w n b c∧insOuter ltInt x y i c=insertionSort ltInt d x y) (fun s6 _=>y+1 - (intOf s6).toNat)
  case atStart=>exact ⟨x+1,0,d,rfl,by omega,by omega,hL,rw_new HR.out,rfl⟩
  case round =>
    obtain ⟨i,n,c,rfl,hxi,hiy,hc,hw,ho⟩:=hrel
    have HO:=Lib.hid ho
    clear ho
    by_cases hi:i<y
    · have hi':(i:Int)<(y:Int):=by omega
      go_upto_region 4 with fail
      go_loopw [7] (fun s7 wr2=>∃ (j m:Nat) (c2:Array Int),s7=.int .i64 (j:Int)∧x≤j∧j≤i∧c2.size=L∧wr2=rw64 w m b c2∧insInner ltInt x j c2=insInner ltInt x i c) (fun s7 _=>(intOf s7).toNat)
      case atStart=>exact ⟨i,n,c,rfl,by omega,Nat.le_refl _,hc,by first | exact hw | rfl,rfl⟩
      case round =>
        clear hw
        obtain ⟨j,m,c2,rfl,hxj,hji,hc2,hw2,hin⟩:=hrel
        have HI:=Lib.hid hin
        clear hin
        by_cases hj:x<j
        · have hj':(x:Int)<(j:Int):=by omega
          have c0:=rw_cell HR.out m (d:=c2) (by rw [hc2,hL]) j (by omega)
          have c1:=rw_cell HR.out m (d:=c2) (by rw [hc2,hL]) (j - 1) (by omega)
          have t0:=rw_thaw HR.out m c2 j (by omega)
          have t1:=rw_thaw HR.out m c2 (j - 1) (by omega)
          rw [← hw2] at c0 c1 t0 t1
          have HW:=Lib.hid hw2
          obtain ⟨vj,hvj⟩:∃ v,v=c2[j]! := ⟨_,rfl⟩
          obtain ⟨vk,hvk⟩:∃ v,v=c2[j - 1]! := ⟨_,rfl⟩
          rw [← hvj] at c0
          rw [← hvk] at c1
          have HV:=Lib.hid (And.intro hvj hvk)
          clear hw2 hvj hvk
          cases hl:ltInt vj vk
          · go_wp2_with fail
            go_quiet (first | (go_at_call 131;exact Calls.quiet_of_same (less_any _ _ _)))
            go_wp2_with fail
            exact ⟨⟨i+1,m+nq,c2,rfl,by omega,by omega,hc2,by rw [HW.out];exact rw_draw _ _ _ _ _,by rw [← HO.out,insOuter_go _ _ _ _ _ hi, ← HI.out,insInner_stop _ _ _ _ (.inr (by rw [← HV.out.1, ← HV.out.2];exact hl))]⟩,by simp only [intOf];omega⟩
          · go_wp2_with fail
            go_quiet (first | (go_at_call 131;exact Calls.quiet_of_same (less_any _ _ _)))
            go_wp2_with fail
            go_region
            all_goals go_wp2_with fail
            refine ⟨⟨j - 1,m+(nq+1),swp c2 j (j - 1),by congr 1;omega,by omega,by omega,by rw [size_swp];exact hc2,?_,?_⟩,by simp only [intOf];omega⟩
            · rw [HW.out,HV.out.1,HV.out.2]
              exact rw_swap w m (nq+1) b c2 j (j - 1) (by omega) (by omega)
            · rw [← HI.out,insInner_go _ _ _ _ hj (by rw [← HV.out.1, ← HV.out.2];exact hl)]
        · have hj' : ¬ (x:Int)<(j:Int):=by omega
          go_wp2_with fail
          go_quiet (first | (go_at_call 131;exact Calls.quiet_of_same (less_any _ _ _)))
          go_wp2_with fail
          exact ⟨⟨i+1,m+nq,c2,rfl,by omega,by omega,hc2,rw_draw _ _ _ _ _,by rw [← HO.out,insOuter_go _ _ _ _ _ hi, ← HI.out,insInner_stop _ _ _ _ (.inl (by omega))]⟩,by simp only [intOf];omega⟩
    · have hi' : ¬ (i:Int)<(y:Int):=by omega
      go_wp2_with fail
      refine bodyPost_end (results_none rfl _ _ _) rfl ?_
      exact ⟨rfl,n,by rw [← HO.out,insOuter_stop _ _ _ _ _ hi]⟩
end Go.Proofs.YticjodhkmidljaaGreatDoor
namespace Go.Proofs.YticjodhkmidljaaGreatDoor
open Go.RowKit Go.Deep
def cmpN (a b:Nat):Int:=if a<b then -1 else if b<a then 1 else 0
def orderN (a b:BalV):Int:=if cmpN a.n b.n≠0 then cmpN a.n b.n else cmpN a.r b.r
theorem order_lt (a b:BalV):decide (orderN a b<0)=decide (balLt a b):=by
  have e:orderN a b<0 ↔ balLt a b:=by
    unfold orderN balLt cmpN
    by_cases h1:a.n<b.n
    · simp [h1]
    · by_cases h2:b.n<a.n
      · simp [h1,h2];omega
      · have h3:a.n=b.n:=by omega
        by_cases h4:a.r<b.r
        · simp [h3,h4]
        · by_cases h5:b.r<a.r
          · simp [h3,h4,h5]
          · simp [h3,h4,h5]
  exact decide_eq_decide.2 e
theorem nan8_any (x:Int) (w:World):Calls Tryz.prog 141 #[.int .u8 x] w fun e w'=>e=.returned (.bool false)∧w'=w:=by
  go_enter Tryz.func141,Tryz.ntmps141
  go_wp2_with fail
  go_ret
  exact ⟨by simp,rfl⟩
theorem cmp64_any (a b:Nat) (w:World):Calls Tryz.prog 114 #[.int .u64 (a:Int),.int .u64 (b:Int)] w fun e w'=>e=.returned (.int .i64 (cmpN a b))∧w=w':=by
  have Hn:=Lib.hid (fun (x:Int) (y:World)=>nan_any x y)
  unfold cmpN
  by_cases h1:a<b
  · rw [if_pos h1]
    have h1':(a:Int)<(b:Int):=by omega
    clear h1
    go_enter Tryz.func114,Tryz.ntmps114
    go_wp2_with ((with_reducible refine (Hn.out _ _).mono ?_);rintro e w2 ⟨rfl,rfl⟩)
    go_ret
    exact ⟨rfl,rfl⟩
  · rw [if_neg h1]
    have h1' : ¬ (a:Int)<(b:Int):=by omega
    clear h1
    by_cases h2:b<a
    · rw [if_pos h2]
      have h2':(b:Int)<(a:Int):=by omega
      clear h2
      go_enter Tryz.func114,Tryz.ntmps114
      go_wp2_with ((with_reducible refine (Hn.out _ _).mono ?_);rintro e w2 ⟨rfl,rfl⟩)
      go_ret
      exact ⟨rfl,rfl⟩
    · rw [if_neg h2]
      have h2' : ¬ (b:Int)<(a:Int):=by omega
      clear h2
      go_enter Tryz.func114,Tryz.ntmps114
      go_wp2_with ((with_reducible refine (Hn.out _ _).mono ?_);rintro e w2 ⟨rfl,rfl⟩)
      go_ret
      exact ⟨rfl,rfl⟩
theorem cmp8_any (a b:Nat) (w:World):Calls Tryz.prog 115 #[.int .u8 (a:Int),.int .u8 (b:Int)] w fun e w'=>e=.returned (.int .i64 (cmpN a b))∧w=w':=by
  have Hn:=Lib.hid (fun (x:Int) (y:World)=>nan8_any x y)
  unfold cmpN
  by_cases h1:a<b
  · rw [if_pos h1]
    have h1':(a:Int)<(b:Int):=by omega
    clear h1
    go_enter Tryz.func115,Tryz.ntmps115
    go_wp2_with ((with_reducible refine (Hn.out _ _).mono ?_);rintro e w2 ⟨rfl,rfl⟩)
    go_ret
    exact ⟨rfl,rfl⟩
  · rw [if_neg h1]
    have h1' : ¬ (a:Int)<(b:Int):=by omega
    clear h1
    by_cases h2:b<a
    · rw [if_pos h2]
      have h2':(b:Int)<(a:Int):=by omega
      clear h2
      go_enter Tryz.func115,Tryz.ntmps115
      go_wp2_with ((with_reducible refine (Hn.out _ _).mono ?_);rintro e w2 ⟨rfl,rfl⟩)
      go_ret
      exact ⟨rfl,rfl⟩
    · rw [if_neg h2]
      have h2' : ¬ (b:Int)<(a:Int):=by omega
      clear h2
      go_enter Tryz.func115,Tryz.ntmps115
      go_wp2_with ((with_reducible refine (Hn.out _ _).mono ?_);rintro e w2 ⟨rfl,rfl⟩)
      go_ret
      exact ⟨rfl,rfl⟩
set_option maxRecDepth 100000 in
theorem or_any (x y:Int) (g c:Nat) (w:World) (h0:w.cell? ⟨g,0,none⟩=some (.int .i64 x)) (h1:w.cell? ⟨g,1,none⟩=some (.int .i64 y)) :
    Calls Tryz.prog 113 #[.slice (some ⟨g,0,none⟩) 2 c] w fun e w'=>e=.returned (.int .i64 (if x≠0 then x else y))∧w=w':=by
  obtain ⟨q,hq⟩:∃ q,(if x≠0 then x else y)=q:=⟨_,rfl⟩
  rw [hq]
  have HQ:=Lib.hid hq
  clear hq
  go_enter Tryz.func113,Tryz.ntmps113
  go_upto_region 3 with fail
  go_loopw [8] (fun s8 wr=>w=wr∧(s8=.int .i64 0∨(x=0∧(s8=.int .i64 1∨(s8=.int .i64 2∧y=0))))) (fun s8 _=>2 - (intOf s8).toNat)
  case atStart=>exact ⟨rfl,.inl rfl⟩
  case round =>
    obtain ⟨rfl,rfl | ⟨hx,rfl | ⟨rfl,hy⟩⟩⟩:=hrel
    · by_cases hx:x=0
      · have hx':(x == 0)=true:=by simpa using hx
        have HX:=Lib.hid hx
        clear hx
        go_wp2_with fail
        exact ⟨⟨(by first | rfl | trivial),.inr ⟨HX.out,.inl (by first | rfl | trivial)⟩⟩,by simp [intOf]⟩
      · have hx':(x == 0)=false:=by simpa using hx
        obtain rfl:x=q:=by have:=HQ.out;rwa [if_pos hx] at this
        clear hx
        go_wp2_with fail
        go_ret
        exact ⟨rfl,rfl⟩
    · obtain rfl:y=q:=by have:=HQ.out;rwa [if_neg (by simpa using hx)] at this
      have HX:=Lib.hid hx
      clear hx
      by_cases hy:y=0
      · have hy':(y == 0)=true:=by simpa using hy
        have HY:=Lib.hid hy
        clear hy
        go_wp2_with fail
        exact ⟨⟨(by first | rfl | trivial),.inr ⟨HX.out,.inr ⟨(by first | rfl | trivial),HY.out⟩⟩⟩,by simp [intOf]⟩
      · have hy':(y == 0)=false:=by simpa using hy
        clear hy
        go_wp2_with fail
        go_ret
        exact ⟨rfl,rfl⟩
    · have hq0:q=0:=by have:=HQ.out;rw [if_neg (by simpa using hx)] at this;rw [← this];exact hy
      subst hq0
      clear hx hy
      go_wp2_with fail
      go_ret
      exact ⟨rfl,rfl⟩
set_option maxRecDepth 100000 in
set_option maxHeartbeats 4000000 in
theorem order_any (a b:BalV) (w:World):Calls Tryz.prog 91 #[.agg (balC a).toArray,.agg (balC b).toArray] w fun e w'=>e=.returned (.int .i64 (orderN a b))∧Below w.heap.size w w':=by
  unfold orderN
  obtain ⟨an,ar⟩:=a
  obtain ⟨bn,br⟩:=b
  show Calls _ _ #[.agg #[.int .u64 (an:Int),.int .u8 (ar:Int)],.agg #[.int .u64 (bn:Int),.int .u8 (br:Int)]] w fun e w'=>e=.returned (.int .i64 (if cmpN an bn≠0 then cmpN an bn else cmpN ar br))∧Below w.heap.size w w'
  obtain ⟨q,hq⟩:∃ q,(if cmpN an bn≠0 then cmpN an bn else cmpN ar br)=q:=⟨_,rfl⟩
  rw [hq]
  have HQ:=Lib.hid hq
  clear hq
  have hb1:=(Below.refl w.heap.size w).alloc (Nat.le_refl _) (.cells #[.int .u64 (an:Int),.int .u8 (ar:Int)] 24)
  have hb2:=hb1.alloc hb1.size (.cells #[.int .u64 (bn:Int),.int .u8 (br:Int)] 24)
  have hr1:=heap_alloc_new w (.cells #[.int .u64 (an:Int),.int .u8 (ar:Int)] 24)
  have hr2:=heap_alloc_new (w.alloc (.cells #[.int .u64 (an:Int),.int .u8 (ar:Int)] 24)) (.cells #[.int .u64 (bn:Int),.int .u8 (br:Int)] 24)
  have hr3:=(Below.heap_alloc (w.alloc (.cells #[.int .u64 (an:Int),.int .u8 (ar:Int)] 24)) (.cells #[.int .u64 (bn:Int),.int .u8 (br:Int)] 24) w.heap.size (by simp)).trans hr1
  rw [World.size_alloc] at hr2
  have HR:=Lib.hid (And.intro hb2 (And.intro hr2 hr3))
  clear hb1 hb2 hr1 hr2 hr3
  go_enter Tryz.func91,Tryz.ntmps91
  go_upto_region 1 with fail
  generalize (w.alloc (.cells #[.int .u64 (an:Int),.int .u8 (ar:Int)] 24)).alloc (.cells #[.int .u64 (bn:Int),.int .u8 (br:Int)] 24)=w0 at *
  have HC:=Lib.hid (fun (y:World) (hy:Below w0.heap.size w0 y)=>(show y.cell? ⟨w.heap.size,0,none⟩=some (.int .u64 (an:Int))∧y.cell? ⟨w.heap.size,1,none⟩=some (.int .u8 (ar:Int))∧y.cell? ⟨w.heap.size+1,0,none⟩=some (.int .u64 (bn:Int))∧y.cell? ⟨w.heap.size+1,1,none⟩=some (.int .u8 (br:Int)) from by
    have k1:=(hy.block _ (Array.getElem?_eq_some_iff.1 HR.out.2.2).1).trans HR.out.2.2
    have k2:=(hy.block _ (Array.getElem?_eq_some_iff.1 HR.out.2.1).1).trans HR.out.2.1
    exact ⟨cell_of_row _ _ _ _ _ _ k1,cell_of_row _ _ _ _ _ _ k1,cell_of_row _ _ _ _ _ _ k2,cell_of_row _ _ _ _ _ _ k2⟩))
  refine (wpIn_wide (n:=1)).1 ?_
  refine RegK.wpIn_region_can (F:=Fence.wide) (KeptW w0) [(0,0),(1,0),(2,0),(3,0),(5,0),(6,0),(7,0),(8,0),(4,1),(9,1),(10,1),(11,1),(12,0)] (by kernel_rfl) (by kernel_rfl) (by kernel_rfl) (fun _ _ d _ _ h=>by cases d <;> exact h) ⟨rfl,rfl,rfl,Nat.le_refl _,fun _ _=>rfl⟩ ?_
  dsimp only [RegK.pick,List.getElem?_cons_zero,List.getElem?_cons_succ]
  change RegK.Can _ _ _ _ _ _ _ _ w0.drew
  have hkd:KeptW w0 w0.drew:=⟨rfl,rfl,rfl,Nat.le_refl _,fun _ _=>rfl⟩
  generalize w0.drew=v1 at *
  refine RegK.can_reads ?_;intro K hK;go_simp;(first | refine ⟨_,fun _ _=>rfl,hK _ ?_⟩ | refine hK _ ?_);clear hK K
  refine RegK.can_reads ?_
  intro K hK
  go_simp
  refine ⟨.int .u64 (an:Int),fun y hy=>?_,hK _ ?_⟩
  · have c0:=HC.out y (KeptW.bel hy)
    obtain ⟨c0,c1,c2,c3⟩:=c0
    go_simp
  clear hK K
  refine RegK.can_reads ?_;intro K hK;go_simp;(first | refine ⟨_,fun _ _=>rfl,hK _ ?_⟩ | refine hK _ ?_);clear hK K
  refine RegK.can_reads ?_
  intro K hK
  go_simp
  refine ⟨.int .u64 (bn:Int),fun y hy=>?_,hK _ ?_⟩
  · have c0:=HC.out y (KeptW.bel hy)
    obtain ⟨c0,c1,c2,c3⟩:=c0
    go_simp
  clear hK K
  refine RegK.can_reads ?_;intro K hK;go_simp;(first | refine ⟨_,fun _ _=>rfl,hK _ ?_⟩ | refine hK _ ?_);clear hK K
  refine RegK.can_reads ?_
  intro K hK
  go_simp
  refine ⟨.int .u8 (ar:Int),fun y hy=>?_,hK _ ?_⟩
  · have c0:=HC.out y (KeptW.bel hy)
    obtain ⟨c0,c1,c2,c3⟩:=c0
    go_simp
  clear hK K
  refine RegK.can_reads ?_;intro K hK;go_simp;(first | refine ⟨_,fun _ _=>rfl,hK _ ?_⟩ | refine hK _ ?_);clear hK K
  refine RegK.can_reads ?_
  intro K hK
  go_simp
  refine ⟨.int .u8 (br:Int),fun y hy=>?_,hK _ ?_⟩
  · have c0:=HC.out y (KeptW.bel hy)
    obtain ⟨c0,c1,c2,c3⟩:=c0
    go_simp
  clear hK K
  refine RegK.can_turns (fun _=>trivial) ?_
  intro K K0 hK hK0
  go_simp
  refine ⟨trivial,?_⟩
  refine (callsIn_wide.2 (pure_bel (cmp64_any an bn v1))).mono ?_
  rintro e v2 ⟨rfl,hb7⟩
  have v2k:KeptW w0 v2:=KeptW.mono hkd hb7
  refine hK _ _ v2k ?_
  clear hK K hK0 K0
  refine RegK.can_turns (fun _=>trivial) ?_
  intro K K0 hK hK0
  go_simp
  refine ⟨trivial,?_⟩
  refine (callsIn_wide.2 (pure_bel (cmp8_any ar br v2))).mono ?_
  rintro e v3 ⟨rfl,hb7⟩
  have v3k:KeptW w0 v3:=KeptW.mono v2k hb7
  refine hK _ _ v3k ?_
  clear hK K hK0 K0
  refine RegK.can_turns (fun _=>trivial) ?_
  intro K K0 hK hK0
  go_simp
  refine hK _ _ (KeptW.mono v3k ((Below.refl _ _).alloc (Nat.le_refl _) _)) ?_
  clear hK K hK0 K0
  have HS:=Lib.hid (And.intro v3k (And.intro (cell_of_row _ _ 0 _ _ _ (heap_alloc_new v3 (.cells #[.int .i64 (cmpN an bn),.int .i64 (cmpN ar br)] 3))) (cell_of_row _ _ 1 _ _ _ (heap_alloc_new v3 (.cells #[.int .i64 (cmpN an bn),.int .i64 (cmpN ar br)] 3)))))
  have v4k:KeptW w0 (v3.alloc (.cells #[.int .i64 (cmpN an bn),.int .i64 (cmpN ar br)] 3)):=KeptW.mono v3k ((Below.refl _ _).alloc (Nat.le_refl _) _)

  refine RegK.can_turns (fun _=>trivial) ?_
  intro K K0 hK hK0
  go_simp
  refine ⟨trivial,?_⟩
  refine (callsIn_wide.2 (pure_bel (by have h:=or_any (cmpN an bn) (cmpN ar br) _ 2 _ HS.out.2.1 HS.out.2.2;rw [HQ.out] at h;exact h))).mono ?_
  rintro e v5 ⟨rfl,hb7⟩
  have v5k:KeptW w0 v5:=KeptW.mono v4k hb7
  refine hK _ _ v5k ?_
  clear hK K hK0 K0
  refine RegK.can_reads ?_;intro K hK;go_simp;(first | refine ⟨_,fun _ _=>rfl,hK _ ?_⟩ | refine hK _ ?_);clear hK K
  refine RegK.can_nil ?_
  go_wp2_with fail
  go_ret
  exact ⟨rfl,HR.out.1.trans (KeptW.bel v5k |>.mono HR.out.1.size)⟩
set_option maxRecDepth 100000 in
theorem below_bal (a b:BalV) (w:World):Calls Tryz.prog 59 #[.agg (balC a).toArray,.agg (balC b).toArray] w fun e w'=>e=.returned (.bool (decide (balLt a b)))∧Below w.heap.size w w':=by
  have Ho:=Lib.hid (fun y:World=>order_any a b y)
  have hlt:=order_lt a b
  obtain ⟨an,ar⟩:=a
  obtain ⟨bn,br⟩:=b
  rw [← hlt]
  clear hlt
  generalize orderN ⟨an,ar⟩ ⟨bn,br⟩=q at *
  change Hid (∀ y:World,Calls _ _ #[.agg #[.int .u64 (an:Int),.int .u8 (ar:Int)],.agg #[.int .u64 (bn:Int),.int .u8 (br:Int)]] y _) at Ho
  show Calls _ _ #[.agg #[.int .u64 (an:Int),.int .u8 (ar:Int)],.agg #[.int .u64 (bn:Int),.int .u8 (br:Int)]] w _
  have hb1:=(Below.refl w.heap.size w).alloc (Nat.le_refl _) (.cells #[.int .u64 (an:Int),.int .u8 (ar:Int)] 24)
  have hb2:=hb1.alloc hb1.size (.cells #[.int .u64 (bn:Int),.int .u8 (br:Int)] 24)
  have HB:=Lib.hid hb2
  clear hb1 hb2
  go_enter Tryz.func59,Tryz.ntmps59
  go_wp2_with ((with_reducible refine (Ho.out _).mono ?_);rintro e w2 ⟨rfl,h2⟩;have H2:=Lib.hid h2;clear h2)
  go_ret
  exact ⟨rfl,HB.out.trans (H2.out.mono HB.out.size)⟩
set_option maxRecDepth 100000 in
theorem bal_eql (s t:BalV) (w:World):(Op.equal 24 (.agg (balC s).toArray) (.agg (balC t).toArray)).run Tryz.prog w=.ok (decide (s=t)) w:=by
  have h:∀ d:Nat,(Op.equalIn (d+4) 24 (.agg (balC s).toArray) (.agg (balC t).toArray)).run Tryz.prog w=.ok (decide (s=t)) w:=by
    intro d
    unfold balC
    go_simp
    simp only [Int.natCast_inj]
    by_cases h:s=t
    · subst h
      simp
    · rw [decide_eq_false h]
      repeat' split
      all_goals first
        | rfl
        | (refine (h ?_).elim;cases s;cases t;simp_all)
  exact h 9996
theorem bal_exec (s t:BalV) (ρ:Operand→Value) (o:Oper) (b:Bool) (x y:Operand) (h:o.op=.binOp (bif b then .eql else .neq) 24 x y 24) (hx:ρ x=.agg (balC s).toArray) (hy:ρ y=.agg (balC t).toArray) (w:World) :
    (execOp ρ o).run Tryz.prog w=.ok (.value (.bool (decide (s=t) == b))) w:=by
  have h0:=bal_eql s t w
  cases b
  · have hg:(eqGuard .neq 24 x y (.agg (balC s).toArray) (.agg (balC t).toArray)).run Tryz.prog w=.ok () w:=by go_simp
    have he:(binOp .neq 24 (.agg (balC s).toArray) (.agg (balC t).toArray)).run Tryz.prog w=.ok (.bool (decide (s=t) == false)) w:=by
      simp only [binOp]
      simp only [Sem.run_bind,h0,Result.andThen_ok,Sem.run_pure]
      cases decide (s=t) <;> rfl
    simp only [execOp,h,hx,hy,Sem.run_bind,cond_false,hg,he,Result.andThen_ok,Sem.run_pure]
  · have hg:(eqGuard .eql 24 x y (.agg (balC s).toArray) (.agg (balC t).toArray)).run Tryz.prog w=.ok () w:=by go_simp
    have he:(binOp .eql 24 (.agg (balC s).toArray) (.agg (balC t).toArray)).run Tryz.prog w=.ok (.bool (decide (s=t) == true)) w:=by
      simp only [binOp]
      simp only [Sem.run_bind,h0,Result.andThen_ok,Sem.run_pure]
      cases decide (s=t) <;> rfl
    simp only [execOp,h,hx,hy,Sem.run_bind,cond_true,hg,he,Result.andThen_ok,Sem.run_pure]
theorem wpList_eql_bal {ops:Array Oper} {rest:List Oper} {op:Oper} {a:Act} {w:World} {Q:Exit→Act→World→Prop} (b:Bool) (x y:Operand) (ho:op.op=.binOp (bif b then .eql else .neq) 24 x y 24)
    (s t:BalV) (hx:a.eval x=.agg (balC s).toArray) (hy:a.eval y=.agg (balC t).toArray) (c:Bool) (hc:(decide (s=t) == b)=c)
    (hw:Region.wanted op (yielded ops a.tmps)=true) (h:wpList Tryz.prog ops Q rest (a.put op.dst (.bool c)) w):wpList Tryz.prog ops Q (op::rest) a w :=
  BigFrame.wpList_want hw fun _ hK=>by
    unfold Oper.wp
    rw [bal_exec s t a.eval op b x y ho hx hy,hc]
    exact hK _ _ h
def votK (v:VotV):List Value:=voCells v.slot (v.b,v.v)
set_option maxRecDepth 100000 in
theorem vot_eql (s t:VotV) (w:World):(Op.equal 26 (.agg (votK s).toArray) (.agg (votK t).toArray)).run Tryz.prog w=.ok (decide (s=t)) w:=by
  have h:∀ d:Nat,(Op.equalIn (d+5) 26 (.agg (votK s).toArray) (.agg (votK t).toArray)).run Tryz.prog w=.ok (decide (s=t)) w:=by
    intro d
    unfold votK voCells
    go_simp
    simp only [Int.natCast_inj]
    by_cases h:s=t
    · subst h
      simp
    · rw [decide_eq_false h]
      repeat' split
      all_goals first
        | rfl
        | (refine (h ?_).elim;obtain ⟨s1,⟨s2,s3⟩,s4⟩:=s;obtain ⟨t1,⟨t2,t3⟩,t4⟩:=t;simp_all)
  exact h 9995
theorem vot_exec (s t:VotV) (ρ:Operand→Value) (o:Oper) (b:Bool) (x y:Operand) (h:o.op=.binOp (bif b then .eql else .neq) 26 x y 26) (hx:ρ x=.agg (votK s).toArray) (hy:ρ y=.agg (votK t).toArray) (w:World) :
    (execOp ρ o).run Tryz.prog w=.ok (.value (.bool (decide (s=t) == b))) w:=by
  have h0:=vot_eql s t w
  cases b
  · have hg:(eqGuard .neq 26 x y (.agg (votK s).toArray) (.agg (votK t).toArray)).run Tryz.prog w=.ok () w:=by go_simp
    have he:(binOp .neq 26 (.agg (votK s).toArray) (.agg (votK t).toArray)).run Tryz.prog w=.ok (.bool (decide (s=t) == false)) w:=by
      simp only [binOp]
      simp only [Sem.run_bind,h0,Result.andThen_ok,Sem.run_pure]
      cases decide (s=t) <;> rfl
    simp only [execOp,h,hx,hy,Sem.run_bind,cond_false,hg,he,Result.andThen_ok,Sem.run_pure]
  · have hg:(eqGuard .eql 26 x y (.agg (votK s).toArray) (.agg (votK t).toArray)).run Tryz.prog w=.ok () w:=by go_simp
    have he:(binOp .eql 26 (.agg (votK s).toArray) (.agg (votK t).toArray)).run Tryz.prog w=.ok (.bool (decide (s=t) == true)) w:=by
      simp only [binOp]
      simp only [Sem.run_bind,h0,Result.andThen_ok,Sem.run_pure]
      cases decide (s=t) <;> rfl
    simp only [execOp,h,hx,hy,Sem.run_bind,cond_true,hg,he,Result.andThen_ok,Sem.run_pure]
def chkN (b:BalV):Nat:=if 7≤b.r∨(b.n=0∧b≠bal0) then 2 else 0
set_option maxRecDepth 100000 in
theorem check_any (b:BalV) (w:World):Calls Tryz.prog 60 #[.agg (balC b).toArray] w fun e w'=>e=.returned (.int .i64 (chkN b:Int))∧Below w.heap.size w w':=by
  have HB:=Lib.hid ((Below.refl w.heap.size w).alloc (Nat.le_refl _) (.cells (balC b).toArray 24))
  unfold chkN
  obtain ⟨bn,br⟩:=b
  change Hid (Below w.heap.size w (w.alloc (.cells #[.int .u64 (bn:Int),.int .u8 (br:Int)] 24))) at HB
  show Calls _ _ #[.agg #[.int .u64 (bn:Int),.int .u8 (br:Int)]] w _
  by_cases h7:7≤br
  · rw [if_pos (.inl h7)]
    have h7':(7:Int)≤(br:Int):=by omega
    clear h7
    go_enter Tryz.func60,Tryz.ntmps60
    go_wp2_with fail
    go_ret
    exact ⟨rfl,HB.out⟩
  · have h7' : ¬ (7:Int)≤(br:Int):=by omega
    by_cases hn:bn=0
    · subst hn
      have HQ:=Lib.hid (show (decide ((⟨0,br⟩:BalV)=bal0) == false)=decide (br≠0) from by
        by_cases hr:br=0
        · subst hr;rfl
        · rw [decide_eq_true hr,decide_eq_false (fun e=>hr (congrArg BalV.r e))];rfl)
      by_cases hr:br=0
      · rw [if_neg (fun q=>by rcases q with q | q;exact h7 q;exact q.2 (by rw [hr];rfl))]
        have HQ:=Lib.hid (HQ.out.trans (decide_eq_false (by simp [hr])))
        clear h7 hr
        go_enter Tryz.func60,Tryz.ntmps60
        go_wp2_with ((with_reducible refine wpList_eql_bal false _ _ rfl ⟨0,br⟩ bal0 rfl rfl _ HQ.out ?_ ?_);exact (Eq.refl true))
        go_ret
        exact ⟨rfl,HB.out⟩
      · rw [if_pos (.inr ⟨rfl,fun e=>hr (congrArg BalV.r e)⟩)]
        have HQ:=Lib.hid (HQ.out.trans (decide_eq_true hr))
        clear h7 hr
        go_enter Tryz.func60,Tryz.ntmps60
        go_wp2_with ((with_reducible refine wpList_eql_bal false _ _ rfl ⟨0,br⟩ bal0 rfl rfl _ HQ.out ?_ ?_);exact (Eq.refl true))
        go_ret
        exact ⟨rfl,HB.out⟩
    · rw [if_neg (fun q=>by rcases q with q | q;exact h7 q;exact hn q.1)]
      have hn':((bn:Int) == 0)=false:=by rw [beq_eq_false_iff_ne];omega
      clear h7 hn
      go_enter Tryz.func60,Tryz.ntmps60
      go_wp2_with fail
      go_ret
      exact ⟨rfl,HB.out⟩
end Go.Proofs.YticjodhkmidljaaGreatDoor
namespace Go.Proofs.YticjodhkmidljaaGreatDoor
open Go.RowKit
def BalAt (g:Nat) (b:BalV) (y:World):Prop:=y.heap[g]?=some (.cells #[.int .u64 (b.n:Int),.int .u8 (b.r:Int)] 24 (0,0))
set_option maxRecDepth 100000 in
set_option maxHeartbeats 4000000 in
theorem put_bal (v:Value) (l:Bs) (b:BalV) (hn:b.n<18446744073709551616) (hr:b.r<256) (hl:l.length≤1000000) (w:World) (h:ReadB w v l) :
    Calls Tryz.prog 68 #[v,.agg (balC b).toArray] w fun e w'=>∃ v',e=.returned v'∧OwnB w' w.heap.size 5 v' (l++balB b)∧Below w.heap.size w w':=by
  obtain ⟨i0,hi0,hz0,hs0,hb0⟩:=info_parts info8
  have Hi:=Lib.hid (And.intro hi0 (And.intro hz0 (And.intro hs0 hb0)))
  clear hi0 hz0 hs0 hb0
  obtain ⟨bn,br⟩:=b
  show Calls _ _ #[v,.agg #[.int .u64 (bn:Int),.int .u8 (br:Int)]] w _
  have hb1:=(Below.refl w.heap.size w).alloc (Nat.le_refl _) (.cells #[.int .u64 (bn:Int),.int .u8 (br:Int)] 24)
  have hr1:=heap_alloc_new w (.cells #[.int .u64 (bn:Int),.int .u8 (br:Int)] 24)
  have h0:=h.below hb1
  have HW:=Lib.hid hb1
  have HN:=Lib.hid (And.intro (show bn<18446744073709551616 from hn) (And.intro (show br<256 from hr) (And.intro (show l.length≤1099511627776 by omega) (And.intro hl h0))))
  have hc8:((UInt8.ofNat br).toNat:Int)=(br:Int):=by have:br<256:=hr;simp;omega
  have Hone:=Lib.hid (fun y:World=>(show ReadB (y.alloc (.cells #[.int .u8 (br:Int)] 5)) (.slice (some ⟨y.heap.size,0,none⟩) 1 1) [UInt8.ofNat br] by have h:=ReadB.one y (UInt8.ofNat br) 5;rwa [hc8] at h))
  clear hn hr hl hc8 hb1 h0
  obtain ⟨a,n,c,rfl⟩:=h.slice
  clear h
  go_enter Tryz.func68,Tryz.ntmps68
  go_upto_region 1 with fail
  generalize hw1:w.alloc (.cells #[.int .u64 (bn:Int),.int .u8 (br:Int)] 24)=w1 at *
  have HG:=Lib.hid (show w.heap.size<w1.heap.size by rw [← hw1];simp)
  refine (wpIn_wide (n:=1)).1 ?_
  refine RegJ.wpIn_region_plan (F:=Fence.wide) (BalAt w.heap.size ⟨bn,br⟩) (.step 0 0 (.step 1 0 (.step 2 0 (.step 4 0 (.step 5 0 (.fork 3 (.step 6 1 (.step 7 1 (.step 8 0 .nil))) 6 (.step 3 1 (.step 7 1 (.step 8 0 .nil))))))))) (by kernel_rfl) (by kernel_rfl) (by kernel_rfl) (fun _ _ d _ _ h=>by cases d <;> exact h) hr1 ?_
  dsimp only [RegJ.pickJ,List.getElem?_cons_zero,List.getElem?_cons_succ]
  change RegJ.Can _ _ _ _ _ _ _ _ w1.drew
  have Hv1:=Lib.hid (And.intro (show Below w1.heap.size w1 w1.drew from ⟨rfl,rfl,rfl,Nat.le_refl _,fun _ _=>rfl⟩) (show BalAt w.heap.size ⟨bn,br⟩ w1.drew from hr1))
  generalize w1.drew=v1 at *
  clear hr1
  iterate 2 (refine RegJ.reads ?_;intro K hK;go_simp;(first | refine ⟨_,fun _ _=>rfl,hK _ ?_⟩ | refine hK _ ?_);clear hK K)
  refine RegJ.reads ?_
  intro K hK
  go_simp
  refine ⟨.int .u64 (bn:Int),fun y hy=>?_,hK _ ?_⟩
  · have c0:y.cell? ⟨w.heap.size,0,none⟩=some (.int .u64 (bn:Int)):=cell_of_row _ _ _ _ _ _ hy
    go_simp
  clear hK K
  (refine RegJ.reads ?_;intro K hK;go_simp;(first | refine ⟨_,fun _ _=>rfl,hK _ ?_⟩ | refine hK _ ?_);clear hK K)
  refine RegJ.reads ?_
  intro K hK
  go_simp
  refine ⟨.int .u8 (br:Int),fun y hy=>?_,hK _ ?_⟩
  · have c0:y.cell? ⟨w.heap.size,1,none⟩=some (.int .u8 (br:Int)):=cell_of_row _ _ _ _ _ _ hy
    go_simp
  clear hK K
  refine RegJ.forks ?_ ?_
  · skip
    refine RegJ.turns (fun _=>trivial) ?_
    intro K K0 hK hK0
    go_simp
    refine ⟨trivial,?_⟩
    refine (callsIn_wide.2 (num_any (.slice a n c) l bn HN.out.1 HN.out.2.2.1 v1 (HN.out.2.2.2.2.below Hv1.out.1))).mono ?_
    rintro e x1 ⟨v',rfl,ho,hb7⟩
    have hr7:BalAt w.heap.size ⟨bn,br⟩ x1:=(hb7.block w.heap.size (Array.getElem?_eq_some_iff.1 Hv1.out.2).1).trans Hv1.out.2
    refine hK (BalAt w.heap.size ⟨bn,br⟩) _ x1 (fun _ h=>h) hr7 ?_
    clear hK K hK0 K0
    have Hx1:=Lib.hid (And.intro (Hv1.out.1.trans (hb7.mono Hv1.out.1.size)) hr7)
    have HO:=Lib.hid (ho.mono Hv1.out.1.size)
    clear hb7 hr7 ho
    refine RegJ.turns (fun _=>trivial) ?_
    intro K K0 hK hK0
    go_simp
    have hbq:=(Below.refl x1.heap.size x1).alloc (Nat.le_refl _) (.cells #[.int .u8 (br:Int)] 5)
    have hr7:BalAt w.heap.size ⟨bn,br⟩ (x1.alloc (.cells #[.int .u8 (br:Int)] 5)):=(hbq.block w.heap.size (Array.getElem?_eq_some_iff.1 Hx1.out.2).1).trans Hx1.out.2
    refine hK (BalAt w.heap.size ⟨bn,br⟩) _ (x1.alloc (.cells #[.int .u8 (br:Int)] 5)) (fun _ h=>h) hr7 ?_
    clear hK K hK0 K0
    have Hx2:=Lib.hid (And.intro (Hx1.out.1.trans (hbq.mono Hx1.out.1.size)) hr7)
    have HQ:=Lib.hid (Hone.out x1)
    have HO2:=HO
    have HO:=Lib.hid (HO2.out.below ((Below.refl x1.heap.size x1).alloc (Nat.le_refl _) (.cells #[.int .u8 (br:Int)] 5)))
    clear HO2
    generalize x1.alloc (.cells #[.int .u8 (br:Int)] 5)=x2 at *
    generalize x1.heap.size=gq at *
    clear hbq hr7
    refine RegJ.turns (fun _=>trivial) ?_
    intro K K0 hK hK0
    rw [if_pos (by simp [Region.wanted])]
    refine RegK.op_wide rfl ?_
    refine wp_append_read _ _ 121 rfl w1.heap.size 5 i0 (.int .u8 0) Tryz.underlying121 Hi.out.1 Hi.out.2.1 Hi.out.2.2.1 Hi.out.2.2.2 rfl _ _ _ rfl HO.out _ _ rfl HQ.out (by have h9:=(numL_len bn).1;have:=HN.out.2.2.1;rw [List.length_append,List.length_cons,List.length_nil];omega) Hx2.out.1.size ?_
    intro v6 w6 ho6 hg6
    have hlt:∀ k,v'.ownBlock=some k→w1.heap.size≤k:=fun k hk=>(World.ownsRow.lt HO.out k hk).1
    have hr7:BalAt w.heap.size ⟨bn,br⟩ w6:=(hg6.block w.heap.size (Array.getElem?_eq_some_iff.1 Hx2.out.2).1 (fun e=>by have:=hlt _ e.symm;have:=HG.out;omega)).trans Hx2.out.2
    refine hK (BalAt w.heap.size ⟨bn,br⟩) _ w6 (fun _ h=>h) hr7 ?_
    clear hK K hK0 K0
    have H6:=Lib.hid (And.intro ho6 (below_grown hg6 Hx2.out.1 Hx2.out.1.size hlt))
    clear ho6 hg6 hlt hr7
    (refine RegJ.reads ?_;intro K hK;go_simp;(first | refine ⟨_,fun _ _=>rfl,hK _ ?_⟩ | refine hK _ ?_);clear hK K)
    refine RegJ.nil ?_
    go_wp2_with fail
    go_ret
    refine ⟨_,rfl,?_,HW.out.trans (H6.out.2.mono HW.out.size)⟩
    have h8:l++balB ⟨bn,br⟩=(l++numL bn)++[UInt8.ofNat br]:=by unfold balB;rw [List.append_assoc]
    rw [h8]
    exact (OwnB.of (l:=l++numL bn) (k:=[UInt8.ofNat br]) H6.out.1 rfl rfl).mono HW.out.size
  · skip
    refine RegJ.turns (fun _=>trivial) ?_
    intro K K0 hK hK0
    go_simp
    have hbq:=(Below.refl v1.heap.size v1).alloc (Nat.le_refl _) (.cells #[.int .u8 (br:Int)] 5)
    have hr7:BalAt w.heap.size ⟨bn,br⟩ (v1.alloc (.cells #[.int .u8 (br:Int)] 5)):=(hbq.block w.heap.size (Array.getElem?_eq_some_iff.1 Hv1.out.2).1).trans Hv1.out.2
    refine hK (BalAt w.heap.size ⟨bn,br⟩) _ (v1.alloc (.cells #[.int .u8 (br:Int)] 5)) (fun _ h=>h) hr7 ?_
    clear hK K hK0 K0
    have Hx1:=Lib.hid (And.intro (Hv1.out.1.trans (hbq.mono Hv1.out.1.size)) hr7)
    have HQ:=Lib.hid (Hone.out v1)
    generalize v1.alloc (.cells #[.int .u8 (br:Int)] 5)=x1 at *
    generalize v1.heap.size=gq at *
    clear hbq hr7
    refine RegJ.turns (fun _=>trivial) ?_
    intro K K0 hK hK0
    go_simp
    refine ⟨trivial,?_⟩
    refine (callsIn_wide.2 (num_any (.slice a n c) l bn HN.out.1 HN.out.2.2.1 x1 (HN.out.2.2.2.2.below Hx1.out.1))).mono ?_
    rintro e x2 ⟨v',rfl,ho,hb7⟩
    have hr7:BalAt w.heap.size ⟨bn,br⟩ x2:=(hb7.block w.heap.size (Array.getElem?_eq_some_iff.1 Hx1.out.2).1).trans Hx1.out.2
    refine hK (BalAt w.heap.size ⟨bn,br⟩) _ x2 (fun _ h=>h) hr7 ?_
    clear hK K hK0 K0
    have Hx2:=Lib.hid (And.intro (Hx1.out.1.trans (hb7.mono Hx1.out.1.size)) hr7)
    have HO:=Lib.hid (ho.mono Hx1.out.1.size)
    have HQ2:=HQ
    have HQ:=Lib.hid (HQ2.out.below hb7)
    clear HQ2 hb7 hr7 ho
    refine RegJ.turns (fun _=>trivial) ?_
    intro K K0 hK hK0
    rw [if_pos (by simp [Region.wanted])]
    refine RegK.op_wide rfl ?_
    refine wp_append_read _ _ 121 rfl w1.heap.size 5 i0 (.int .u8 0) Tryz.underlying121 Hi.out.1 Hi.out.2.1 Hi.out.2.2.1 Hi.out.2.2.2 rfl _ _ _ rfl HO.out _ _ rfl HQ.out (by have h9:=(numL_len bn).1;have:=HN.out.2.2.1;rw [List.length_append,List.length_cons,List.length_nil];omega) Hx2.out.1.size ?_
    intro v6 w6 ho6 hg6
    have hlt:∀ k,v'.ownBlock=some k→w1.heap.size≤k:=fun k hk=>(World.ownsRow.lt HO.out k hk).1
    have hr7:BalAt w.heap.size ⟨bn,br⟩ w6:=(hg6.block w.heap.size (Array.getElem?_eq_some_iff.1 Hx2.out.2).1 (fun e=>by have:=hlt _ e.symm;have:=HG.out;omega)).trans Hx2.out.2
    refine hK (BalAt w.heap.size ⟨bn,br⟩) _ w6 (fun _ h=>h) hr7 ?_
    clear hK K hK0 K0
    have H6:=Lib.hid (And.intro ho6 (below_grown hg6 Hx2.out.1 Hx2.out.1.size hlt))
    clear ho6 hg6 hlt hr7
    (refine RegJ.reads ?_;intro K hK;go_simp;(first | refine ⟨_,fun _ _=>rfl,hK _ ?_⟩ | refine hK _ ?_);clear hK K)
    refine RegJ.nil ?_
    go_wp2_with fail
    go_ret
    refine ⟨_,rfl,?_,HW.out.trans (H6.out.2.mono HW.out.size)⟩
    have h8:l++balB ⟨bn,br⟩=(l++numL bn)++[UInt8.ofNat br]:=by unfold balB;rw [List.append_assoc]
    rw [h8]
    exact (OwnB.of (l:=l++numL bn) (k:=[UInt8.ofNat br]) H6.out.1 rfl rfl).mono HW.out.size
end Go.Proofs.YticjodhkmidljaaGreatDoor
