/- The law RegIn at any fence, also in a round of a range over a function: regions that draw their order: what only reads is taken as early as it may come up, in every world of a class R that the region's own turns do not leave; what turns the world comes up alone. No condition. -/
import Derived.OrdersHeld
import Derived.OrdersIn
import Derived.Test.YtbckjgageofldaaGreatZLearnPlays0
import Derived.RangeFuncWrites
import Derived.LoopIn
import Derived.Test.YtbckjgageofldaaGreatZLearnPlays9
import Derived.Test.YtbckjgageofldaaGreatZLearnPlays10
import Derived.Test.YtbckjgageofldaaGreatZLearnPlays6
import Derived.Test.YtbckjgageofldaaGreatZLearnPlays1
import Derived.Test.YtbckjgageofldaaGreatZLearnPlays8
import Derived.Test.YtbckjgageofldaaGreatZLearnPlays2
import Derived.OwnWalk
import Derived.Laws.CopyOwn
import Derived.Laws.MakeOwn
import Derived.Lib.AppendStr
import Derived.Below
import Derived.Laws.IdiomStrings
import Derived.Lib.BufferRead
import Derived.Laws.AppendOwnNone
import Derived.Test.YtbckjgageofldaaGreatChecked
import Derived.WalkKit
import Derived.ProofKit
import Derived.Lib.Hide
import Derived.IntWalk
import Derived.Shelf.Strconv.Itoa0
import Derived.Deep.DeepCutAuto
import Derived.StillTailTactics
set_option maxRecDepth 100000
namespace Go.Proofs.YtbckjgageofldaaGreat.RegF
open Go
section
variable {F : Fence} {n : Nat} {P : Program} {ops : Array Oper} {Q : Exit → Act → World → Prop} {md : Region.Mode}
def noCall (o:Oper):Bool:=match o.op with
 | .call c=>(match c.callee with | .builtin _=>true | _=>false)
 | _=>true
theorem about_none {o:Oper} (h:noCall o=true) (w:World) (ρ:Operand→Value):o.about P w ρ=none:=by
 unfold noCall at h;unfold Oper.about;cases ho:o.op <;> rw [ho] at h <;> first | rfl | skip
 rename_i c
 simp only at h ⊢;cases hc:c.callee <;> rw [hc] at h <;> first | (cases h;done) | skip
 simp [resolve,hc,Target.leads]
def noDefer (o:Oper):Bool:=match o.op with | .defer _=>false | _=>true
theorem sem_of {o:Oper} (h:noDefer o=true) (ρ:Operand→Value):o.semAt F.round ρ=execOp ρ o:=Oper.semAt_eq _ ρ o (by intro c e;simp [noDefer,e] at h)
theorem yif_op {R:World→Prop} {i:Nat} {o:Oper} {v:Value} {a:Act} (hro:∀ o ∈ ops,noDefer o=true) (hi:ops[i]?=some o) (hy:YieldsIf P ops R o v a) (hc:noCall o=true)
  {K:Act→World→Prop} {w:World} (hR:R w) (h:K (a.put o.dst v) w):wpOpIn F n P ops Q i K a w:=by
 unfold Go.wpOpIn;simp only [hi];have hab:∀ f,o.about P w a.eval=some f→F.fn f:=fun f hf=>by rw [about_none hc] at hf;cases hf
 rcases hy with ⟨hw,hv⟩ | ⟨hw,rfl⟩
 ·
  simp only [hw,if_true,Oper.wpIn,sem_of (F:=F) (hro o (Array.mem_of_getElem? hi)),hv w hR,Oper.uponIn];exact ⟨hab,h⟩
 ·
  simp only [hw,Bool.false_eq_true,if_false];exact ⟨hab,h⟩
theorem putIf {R:World→Prop} {j:Nat} {oi oj:Oper} {v:Value} (hro:∀ o ∈ ops,noDefer o=true) (hj:ops[j]?=some oj) (hap:oi.apart ops oj=true)
  (hsi:∀ cs b,oi.op≠.select cs b) (hsj:∀ cs b,oj.op≠.select cs b)
  (hQ:∀ c a w,Q (.panic c) (a.put oi.dst v) w→Q (.panic c) a w) {K:Act→World→Prop} {a:Act} {w:World}
  (hy:YieldsIf P ops R oi v a) (h:wpOpIn F n P ops Q j K (a.put oi.dst v) w) :
  wpOpIn F n P ops Q j (fun a' w'=>YieldsIf P ops R oi v a'∧K (a'.put oi.dst v) w') a w:=by
 obtain ⟨h1,h2,h3⟩:=Oper.apart_spec hap;have keep:∀ (a:Act),YieldsIf P ops R oi v a→∀ u,YieldsIf P ops R oi v (a.put oj.dst u):=fun a hy u =>
  hy.of_same (execOp_put oi hsi a oj.dst u h3) (wanted_put oi a oj.dst u h3)
 have keepD:∀ d,YieldsIf P ops R oi v { a with defers:=d::a.defers }:=fun d=>hy.of_same rfl rfl
 have hmj:=Array.mem_of_getElem? hj;unfold wpOpIn at *
 simp only [hj] at *
 rw [wanted_put oj a oi.dst v h1,about_put oj w a oi.dst v h1] at h;split
 ·
  rename_i hw
  simp only [hw,if_true] at h;unfold Oper.wpIn at *
  rw [about_put oj w a oi.dst v h1] at h;refine ⟨h.1,?_⟩;have h:=h.2;rw [sem_of (F:=F) (hro oj hmj),execOp_put oj hsj a oi.dst v h1] at h;rw [sem_of (F:=F) (hro oj hmj)];generalize (execOp a.eval oj).run P w=r at *;cases r with
  | ok x w' =>
   cases x <;> simp only [Oper.uponIn] at h ⊢
   case value u=>exact ⟨keep a hy u,by rw [← Act.put_comm a v u h2];exact h⟩
   case skip=>exact ⟨keep a hy _,by rw [← Act.put_comm a v undef h2];exact h⟩
   case defer d =>
    refine ⟨keep _ (keepD d) _,?_⟩;rw [← Act.put_comm _ v undef h2, ← Act.put_defers];exact h
   case enter f args =>
    refine ⟨h.1,CallsIn.mono h.2 fun e w'' he=>?_⟩;cases e with
    | returned u=>exact ⟨keep a hy u,by rw [← Act.put_comm a v u h2];exact he⟩
    | panicked c=>exact hQ _ _ _ he
    | outgrown=>exact he
   case row row args=>exact ⟨h.1,RowsIn.mono h.2 fun u w'' he=>⟨keep a hy u,by rw [← Act.put_comm a v u h2];exact he⟩⟩
   case round l f tmps assign body =>
    refine ⟨h.1,RoundIn.mono h.2 fun e w'' he=>?_⟩;cases e with
    | returned u=>exact ⟨keep a hy u,by rw [← Act.put_comm a v u h2];exact he⟩
    | panicked c=>exact hQ _ _ _ he
    | outgrown=>exact he
  | halt x w' =>
   cases x <;> simp only [Oper.uponIn] at h ⊢
   case panic u=>exact hQ _ _ _ h
 ·
  rename_i hw
  simp only [hw] at h;exact ⟨h.1,keep a hy _,by rw [← Act.put_comm a v undef h2];exact h.2⟩
def onsOf (md:Region.Mode) (ops:Array Oper) (j:Nat):List Nat:=match ops[j]? with
 | some o=>(o.after.toList.filter (Region.binds md)).map (·.on)
 | none=>[]
def back (md:Region.Mode) (ops:Array Oper):Nat→List Nat→List Nat
 | 0,l=>l
 | i+1,l=>back md ops i (if l.contains i then onsOf md ops i++l else l)
def Closed (md:Region.Mode) (ops:Array Oper) (listed:Array Bool):Prop:=∀ j,listed.getD j false=true→∀ e ∈ onsOf md ops j,listed.getD e false=true
theorem back_listed {listed:Array Bool} (h:Closed md ops listed):∀ (m:Nat) (l:List Nat),(∀ j ∈ l,listed.getD j false=true)→∀ j ∈ back md ops m l,listed.getD j false=true
 | 0,_,hl,j,hj=>hl j hj
 | m+1,l,hl,j,hj=>back_listed h m _ (fun k hk=>by
   split at hk
   ·
    rename_i hc
    rcases List.mem_append.1 hk with hk | hk
    ·
     exact h m (hl m (by simpa using hc)) k hk
    ·
     exact hl k hk
   ·
    exact hl k hk) j hj
theorem ready_ons {listed:Array Bool} {j:Nat} (h:j ∈ Region.ready md ops listed):∀ e ∈ onsOf md ops j,listed.getD e false=true:=by
 obtain ⟨_,o,ho,hall⟩:=mem_ready.1 h;intro e he;simp only [onsOf,ho,List.mem_map,List.mem_filter] at he;obtain ⟨q,⟨h1,h2⟩,rfl⟩:=he;exact hall q (by simpa using h1) h2
theorem Closed.set {listed:Array Bool} {i:Nat} (h:Closed md ops listed) (hi:i ∈ Region.ready md ops listed):Closed md ops (listed.setIfInBounds i true):=by
 intro j hj e he;by_cases hij:i=j
 ·
  subst hij;exact getD_set_true (ready_ons hi e he)
 ·
  rw [getD_set_ne false hij] at hj;exact getD_set_true (h j hj e he)
theorem Closed.none (n:Nat):Closed md ops (Array.replicate n false):=by
 intro j hj;have:(Array.replicate n false).getD j false=false:=by
  simp only [Array.getD_eq_getD_getElem?,Array.getElem?_replicate];split <;> rfl
 rw [this] at hj;cases hj
theorem bar_not {bar:Nat→Bool} {listed:Array Bool} {i j:Nat} (h:Closed md ops listed) (hj:j ∈ Region.ready md ops listed) (hi:i ∈ Region.ready md ops listed)
  (hb:bar j=true→i ∈ back md ops ops.size (onsOf md ops j)):bar j=false:=by
 rw [Bool.eq_false_iff];intro hbj;obtain ⟨h0,o,ho,_⟩:=mem_ready.1 hi;have h4:=back_listed h _ _ (ready_ons hj) i (hb hbj);rcases Nat.lt_or_ge i listed.size with h' | h'
 ·
  simp [h'] at h0 h4;rw [h0] at h4;cases h4
 ·
  simp [Array.getElem?_eq_none h'] at h4
def Into (b:Bool) (R:World→Prop) (K:(World→Prop)→Act→World→Prop) (a:Act) (w:World):Prop:=∃ R':World→Prop,R' w∧(b=true∨R'=R)∧K R' a w
def anyR (bar:Nat→Bool) (F:Fence) (n:Nat) (P:Program) (md:Region.Mode) (ops:Array Oper) (Q:Exit→Act→World→Prop):Nat→Array Bool→(World→Prop)→Act→World→Prop
 | 0,listed,_,a,w=>Region.ready md ops listed=[]∧Q .normal a w
 | fuel+1,listed,R,a,w=>(Region.ready md ops listed=[]→Q .normal a w) ∧
   ∀ i ∈ Region.ready md ops listed,wpOpIn F n P ops Q i (Into (bar i) R (fun R' a' w'=>anyR bar F n P md ops Q fuel (listed.setIfInBounds i true) R' a' w')) a w
theorem any_of {bar:Nat→Bool}:∀ (fuel:Nat) (listed:Array Bool) (R:World→Prop) (a:Act) (w:World),anyR bar F n P md ops Q fuel listed R a w→wpAnyIn F n P md ops Q fuel listed a w
 | 0,_,_,_,_,h=>h
 | fuel+1,_,_,_,_,h=>⟨h.1,fun i hi=>wpOpIn_mono (fun a' w' ⟨R',_,_,h3⟩=>any_of fuel _ R' a' w' h3) (h.2 i hi)⟩
theorem first {bar:Nat→Bool} {i:Nat} {oi:Oper} {v:Value} (hro:∀ o ∈ ops,noDefer o=true) (hi:ops[i]?=some oi) (hc:noCall oi=true) (hsel:∀ (j:Nat) (o:Oper) cs b,ops[j]?=some o→o.op≠.select cs b)
  (hQ:∀ c a w,Q (.panic c) (a.put oi.dst v) w→Q (.panic c) a w) :
  ∀ (fuel:Nat) (listed:Array Bool) (R:World→Prop) (a:Act) (w:World),
   (∀ j oj,ops[j]?=some oj→j≠i→listed.getD j true=false→(∀ e ∈ oj.after,Region.binds md e=true→e.on≠i)→oi.apart ops oj=true) →
   (∀ j,listed.getD j true=false→j≠i→bar j=true→i ∈ back md ops ops.size (onsOf md ops j))→Closed md ops listed→i ∈ Region.ready md ops listed→R w→YieldsIf P ops R oi v a →
   anyR bar F n P md ops Q fuel (listed.setIfInBounds i true) R (a.put oi.dst v) w→anyR bar F n P md ops Q (fuel+1) listed R a w:=by
 intro fuel;induction fuel with
 | zero =>
  intro listed R a w _ _ _ hr hR hy H;refine ⟨fun h=>(by rw [h] at hr;cases hr),fun j hj=>?_⟩;by_cases hji:j=i
  ·
   subst hji;exact yif_op hro hi hy hc hR ⟨R,hR,.inr rfl,H⟩
  ·
   have:=ready_mono hj hji;rw [H.1] at this;cases this
 | succ fuel ih =>
  intro listed R a w hfree hbar hcl hr hR hy H;refine ⟨fun h=>(by rw [h] at hr;cases hr),fun j hj=>?_⟩;by_cases hji:j=i
  ·
   subst hji;exact yif_op hro hi hy hc hR ⟨R,hR,.inr rfl,H⟩
  ·
   have h1:=H.2 j (ready_mono hj hji);obtain ⟨hjun,oj,hoj,hall⟩:=mem_ready.1 hj;have hnot:∀ e ∈ oj.after,Region.binds md e=true→e.on≠i:=fun e he hb heq=>by
    have h1:=hall e he hb;have h0:=(mem_ready.1 hr).1;rw [heq] at h1;rcases Nat.lt_or_ge i listed.size with h' | h'
    ·
     simp [h'] at h0 h1;rw [h0] at h1;cases h1
    ·
     simp [Array.getElem?_eq_none h'] at h1
   have hb:bar j=false:=bar_not hcl hj hr (hbar j hjun hji);have h2:=putIf hro hoj (hfree j oj hoj hji hjun hnot) (fun cs b=>hsel i oi cs b hi) (fun cs b=>hsel j oj cs b hoj) hQ hy h1;have hfree':∀ k ok,ops[k]?=some ok→k≠i→(listed.setIfInBounds j true).getD k true=false →
     (∀ e ∈ ok.after,Region.binds md e=true→e.on≠i)→oi.apart ops ok=true:=fun k ok hk hki hun hno=>by
    refine hfree k ok hk hki ?_ hno;by_cases hjk:j=k
    ·
     subst hjk;exact hjun
    ·
     rw [getD_set_ne true hjk] at hun;exact hun
   have hbar':∀ k,(listed.setIfInBounds j true).getD k true=false→k≠i→bar k=true→i ∈ back md ops ops.size (onsOf md ops k):=fun k hun hki hbk=>by
    refine hbar k ?_ hki hbk;by_cases hjk:j=k
    ·
     subst hjk;exact hjun
    ·
     rw [getD_set_ne true hjk] at hun;exact hun
   refine wpOpIn_mono (fun a' w' ⟨hy',R',hR',hor,hK⟩=>?_) h2;obtain rfl:R'=R:=hor.resolve_left (by simp [hb]);refine ⟨R',hR',.inr rfl,ih (listed.setIfInBounds j true) R' a' w' hfree' hbar' (hcl.set hj) (ready_mono hr (Ne.symm hji)) hR' hy' ?_⟩;rw [Array.setIfInBounds_comm _ _ hji];exact hK
def can (F:Fence) (n:Nat) (P:Program) (ops:Array Oper) (Q:Exit→Act→World→Prop):List (Oper × Nat)→(World→Prop)→Act→World→Prop
 | [],_,a,w=>Q .normal a w
 | (o,0)::r,R,a,w =>
  if Region.wanted o (yielded ops a.tmps) then ∃ v,(∀ x,R x→(execOp a.eval o).run P x=.ok (.value v) x)∧can F n P ops Q r R (a.put o.dst v) w
  else can F n P ops Q r R (a.put o.dst undef) w
 | (o,1)::r,R,a,w =>
  if Region.wanted o (yielded ops a.tmps) then o.wpIn F n P a w (fun a' w'=>R w'∧can F n P ops Q r R a' w') Q
  else (∀ f,o.about P w a.eval=some f→F.fn f)∧can F n P ops Q r R (a.put o.dst undef) w
 | (o,_+2)::r,R,a,w =>
  if Region.wanted o (yielded ops a.tmps) then o.wpIn F n P a w (fun a' w'=>∃ R':World→Prop,R' w'∧can F n P ops Q r R' a' w') Q
  else (∀ f,o.about P w a.eval=some f→F.fn f)∧can F n P ops Q r R (a.put o.dst undef) w
def pick (l:List Oper):List (Nat × Nat)→List (Oper × Nat)
 | []=>[]
 | (k,e)::r=>match l[k]? with | some o=>(o,e)::pick l r | none=>[]
structure Can (F:Fence) (n:Nat) (P:Program) (ops:Array Oper) (Q:Exit→Act→World→Prop) (l:List (Oper × Nat)) (R:World→Prop) (a:Act) (w:World):Prop where
 out:can F n P ops Q l R a w
def barOf (σ:List (Nat × Nat)) (j:Nat):Bool:=σ.any fun p=>p.1 == j && decide (2≤p.2)
def noPanic (Q:Exit→Act→World→Prop):Exit→Act→World→Prop
 | .panic _,_,_=>False
 | e,a,w=>Q e a w
theorem can_nil {R:World→Prop} {a:Act} {w:World} (h:Q .normal a w):Can F n P ops Q [] R a w:=⟨h⟩
theorem can_calm {R:World→Prop} {a:Act} {w:World} (h:Q .normal a w):Can F n P ops (noPanic Q) [] R a w:=⟨h⟩
end
end Go.Proofs.YtbckjgageofldaaGreat.RegF
namespace Go.Proofs.YtbckjgageofldaaGreat.RegS
open Go RegR
section
variable {P : Program} {ops : Array Oper} {Q : Exit → Act → World → Prop}
structure Can (P:Program) (ops:Array Oper) (Q:Exit→Act→World→Prop) (l:List (Oper × Nat)) (R:World→Prop) (a:Act) (w:World):Prop where
 out:wpCan P ops Q l R a w
theorem wp_region (R:World→Prop) (σ:List (Nat × Nat)) {id:Nat} {a:Act} {w:World} {l:List Oper} (hm:P.follows .mixedOrders=true)
  (hB:(Region.noSelect l.toArray && canB (barOf σ) .any l.toArray σ (Array.replicate l.length false) && σ.all (fun p=>decide (p.1<l.length)) && (σ.length == l.length))=true)
  (hQ:∀ c a d v w,Q (.panic c) (Act.put a d v) w→Q (.panic c) a w)
  (hR:R { w with drawn:=w.drawn+1 })
  (h:Can P l.toArray Q (pick l σ) R a { w with drawn:=w.drawn+1 }):(Code.region id l.toArray true).wp P Q a w:=wp_region_can R σ hm hB hQ hR h.out
theorem reads {R:World→Prop} {a:Act} {w:World} {o:Oper} {r:List (Oper × Nat)}
  (h:∀ K:Act→Prop,(∀ a,Can P ops Q r R a w→K a)→if Region.wanted o (yielded ops a.tmps) then ∃ v,(∀ x,R x→(execOp a.eval o).run P x=.ok (.value v) x)∧K (a.put o.dst v) else K (a.put o.dst undef)) :
  Can P ops Q ((o,0)::r) R a w:=⟨can_reads (fun K hK=>h K (fun a hc=>hK a hc.out))⟩
theorem turns {R:World→Prop} {a:Act} {w:World} {o:Oper} {r:List (Oper × Nat)}
  (h:∀ (K:Act→World→Prop) (K0:Act→Prop),(∀ a w,R w→Can P ops Q r R a w→K a w)→(∀ a,Can P ops Q r R a w→K0 a) →
   if Region.wanted o (yielded ops a.tmps) then o.wp P a w K Q else K0 (a.put o.dst undef)) :
  Can P ops Q ((o,1)::r) R a w:=⟨can_turns (fun K K0 hK hK0=>h K K0 (fun a w h1 h2=>hK a w h1 h2.out) (fun a h1=>hK0 a h1.out))⟩
theorem frees {R:World→Prop} {a:Act} {w:World} {o:Oper} {r:List (Oper × Nat)}
  (h:∀ (K:Act→World→Prop) (K0:Act→Prop),(∀ a w,Can P ops Q r (fun x=>x=w) a w→K a w)→(∀ a,Can P ops Q r R a w→K0 a) →
   if Region.wanted o (yielded ops a.tmps) then o.wp P a w K Q else K0 (a.put o.dst undef)) :
  Can P ops Q ((o,3)::r) R a w:=⟨can_frees (fun K K0 hK hK0=>h K K0 (fun a w h1=>hK a w h1.out) (fun a h1=>hK0 a h1.out))⟩
theorem free {R:World→Prop} {a:Act} {w:World} {o:Oper} {r:List (Oper × Nat)} (hg:o.guard=none)
  (h:∀ K:Act→World→Prop,(∀ a w,Can P ops Q r (fun x=>x=w) a w→K a w)→o.wp P a w K Q):Can P ops Q ((o,3)::r) R a w :=
 frees (fun K _ hK _=>by rw [if_pos (by simp [Region.wanted,hg])];exact h K hK)
theorem turn {R:World→Prop} {a:Act} {w:World} {o:Oper} {r:List (Oper × Nat)} (hg:o.guard=none)
  (h:∀ K:Act→World→Prop,(∀ a w,R w→Can P ops Q r R a w→K a w)→o.wp P a w K Q):Can P ops Q ((o,1)::r) R a w :=
 turns (fun K _ hK _=>by rw [if_pos (by simp [Region.wanted,hg])];exact h K hK)
theorem last {R:World→Prop} {a:Act} {w:World} {o:Oper} {r:List (Oper × Nat)}
  (h:∀ K:Act→World→Prop,(∀ a w,Q .normal a w→K a w)→if Region.wanted o (yielded ops a.tmps) then o.wp P a w K Q else K (a.put o.dst undef) w) :
  Can P ops Q ((o,2)::r) R a w:=⟨can_last h⟩
theorem nil {R:World→Prop} {a:Act} {w:World} (h:Q .normal a w):Can P ops Q [] R a w:=⟨can_nil h⟩
end
end Go.Proofs.YtbckjgageofldaaGreat.RegS
namespace Go.Proofs.YtbckjgageofldaaGreat.Range
open Go Go.RowKit
variable {F : Fence} {n : Nat} {P : Program}
def Turned (B l:Nat) (W W':World):Prop:=B≤l∧∃ o o':Obj,W.heap[l]?=some o∧o.isCells=false∧o.isWalk=false∧W'=W.putObj l o'
def Ready {α:Type} (B l:Nat) (m:Nat) (P:Program) (F:Fence) (body:Code) (Kp:World→World→Prop) (I:List α→World→Prop) (Ix:Code→List α→World→Prop) (xs:List α) (W:World) (a:Act) (W1:World):Prop :=
 KeepsFrom B W W1∧Kp W W1∧∀ W2,Turned B l W1 W2→body.wpIn (F.inRound l) m P (ownPostG B Kp I Ix xs W2) a W2
theorem wpIn_range {α:Type} {g:Operand} {ps:Array Tmp} {assign body:Code} {Q:Exit→Act→World→Prop} {a:Act} {w:World}
  (hro:F.round=none) (h1:1≤n) {gf:Nat} {lb:Array Value} (hg:a.eval g=.func (.func gf) #[] lb) (hFg:F.fn gf) (eg:∀ args w,(callFunc gf args).run P w=.ok (.enter gf args) w)
  {encs:α→Array Value} {Kp:World→World→Prop} {S Sp:List α→Prop} {N:Nat} {w0:World} (hseq:SeqStopsK F (n - 1) P gf lb encs Kp S Sp N w0)
  (hKt:∀ {A B C:World},Kp A B→Kp B C→Kp A C) (hKb:∀ (W:World) (l:Nat) (o o':Obj),w.heap.size≤l→W.heap[l]?=some o→o.isCells=false→o.isWalk=false→Kp W (W.putObj l o')) (hb0:Below w0.heap.size w0 w) (hps:∀ x,(encs x).size=ps.size)
  (I:List α→World→Prop) (Ix:Code→List α→World→Prop) (hI:OwnFrom w.heap.size I) (hIx:∀ c,OwnFrom w.heap.size (Ix c)) (h0:I [] w)
  (hround:∀ (l:Nat) (pre:List α) (x:α) (W:World),I pre W→pre.length<N →
   assign.wpIn (F.inRound l) (n - 1 - 1) P (Exit.then (Ready w.heap.size l (n - 1 - 1) P F body Kp I Ix (pre++[x]) W) (fun _ _ _=>False)) { tmps:=(ps.zip (encs x)).foldl (fun t (p,v)=>t.setIfInBounds p v) a.tmps,defers:=[] } W)
  (hdone:∀ (D:Nat) (xs:List α) (W:World),w.heap.size≤D→S xs→I xs W→W.heap[D]?=some (.deferred (some []))→Q .normal { a with defers:={ target:=.collected D,args:=#[] }::a.defers } W)
  (hstop:∀ (D:Nat) (c:Code) (pre:List α) (W:World),w.heap.size≤D→Sp pre→Ix c pre W→W.heap[D]?=some (.deferred (some []))→c.wpIn F n P Q { a with defers:={ target:=.collected D,args:=#[] }::a.defers } W) :
  (Code.rangeFunc g ps assign body).wpIn F n P Q a w:=by
 refine wpIn_rangeFunc (fun fn hfn => ?_);rw [hro];-- the two blocks that the statement lays: D, what rounds defer; L, its record
 generalize hD:w.heap.size=D at *
 let rec0:LoopState→Option Code→Obj:=fun st pe=>.loop { state:=st,pending:=pe,fn,tmps:=a.tmps,params:=ps,assign,body,defers:=D }
 let V:=(w.alloc (.deferred (some []))).alloc (rec0 .ready none)
 have sV:V.heap.size=D+2:=by simp [V,hD]
 have rV:V.heap[D+1]?=some (rec0 .ready none):=by
  have h:=World.alloc_heap_new (w.alloc (.deferred (some []))) (rec0 .ready none);rwa [World.size_alloc,hD] at h
 have dV:V.heap[D]?=some (.deferred (some [])):=by
  have h:=World.alloc_heap_new w (.deferred (some []));rw [hD] at h;exact (Below.heap_alloc _ _ _ (by rw [World.size_alloc];omega)).trans h
 have iV:I [] V:=hI.alloc _ (hI.alloc _ h0);have bV:Below w0.heap.size w0 V:=hb0.trans ((((Below.refl _ w).alloc (Nat.le_refl _) _).alloc (by simp) _).mono hb0.size);refine ⟨D+1,[{ target:=.collected D,args:=#[] }],V,{ target:=.fn (.func gf) lb,args:=#[.func (.yield (D+1)) #[] #[]] },V,gf,#[.func (.yield (D+1)) #[] #[]]++lb,V,?_,?_,?_,?_,fun _=>h1,?_⟩
 ·
  subst hD;exact run_enterLoop_outer _ _ _ _ _
 ·
  simp only [resolve,hg];simp [go_sem]
 ·
  intro f' hf';simp [Target.leads] at hf';subst hf';exact hFg
 ·
  simp [invoke,go_sem,eg]
 -- the iterator's contract: beside the caller's invariant, the two blocks
 have away:∀ {A:World} {row:Option Nat},(∀ r,row=some r→V.heap.size≤r∧∃ o:Obj,A.heap[r]?=some o∧o.isWalk=true)→∀ r,row=some r→D≤r∧∃ o:Obj,A.heap[r]?=some o∧o.isCells=false:=fun hr r e=>by
  obtain ⟨h2,o,ho,hw⟩:=hr r e;exact ⟨by omega,o,ho,Obj.not_cells_of_walk hw⟩
 have abide:∀ {A B:World} {row:Option Nat} {q:Nat} {o:Obj},A.grownBy B row→(∀ r,row=some r→V.heap.size≤r∧∃ o:Obj,A.heap[r]?=some o∧o.isWalk=true)→A.heap[q]?=some o→o.isWalk=false→B.heap[q]?=some o:=fun hg hr h2 h3 =>
  (grownBy_keeps hg (fun r e=>(hr r e).2) h2 h3).trans h2
 refine (hseq (D+1) (fun pre W=>I pre W∧W.heap[D+1]?=some (rec0 .ready none)∧W.heap[D]?=some (.deferred (some [])))
  (fun pre W=>∃ c,Ix c pre W∧W.heap[D+1]?=some (rec0 .done (some c))∧W.heap[D]?=some (.deferred (some []))) V bV
  (fun s A B row hs hg' hr=>⟨hI s A B row hs.1 hg' (away hr),abide hg' hr hs.2.1 rfl,abide hg' hr hs.2.2 rfl⟩)
  (fun s A B row hs hg' hr=>hs.elim fun c hc=>⟨c,hIx c s A B row hc.1 hg' (away hr),abide hg' hr hc.2.1 rfl,abide hg' hr hc.2.2 rfl⟩) ?_ ⟨iV,rV,dV⟩).mono ?_
 ·
  rintro pre x W ⟨hi,hl,hk⟩ hlen;refine ⟨fn,_,assign,body,run_yield (P:=P) (args:=encs x) hl (hps x),roundIn_of_wpIn hfn (wpIn_mono (hround (D+1) pre x W hi hlen) (fun e a1 W1 he=>?_))⟩;cases e with
  | normal =>
   obtain ⟨k1,kp1,hb⟩:=he;have hl1:=k1.same _ _ (by omega) hl rfl;have hk1:=k1.same _ _ (Nat.le_refl _) hk rfl;have hlt:D+1<W1.heap.size:=(Array.getElem?_eq_some_iff.1 hl1).1;refine ⟨_,run_beginRound hl1 rfl,wpIn_mono (hb _ ⟨by omega,_,_,hl1,rfl,rfl,rfl⟩) ?_⟩;generalize hW2:W1.putObj (D+1) _=W2;have hl2:W2.heap[D+1]?=some (rec0 .busy none):=by rw [← hW2];exact World.putObj_heap_same hlt
   have hk2:W2.heap[D]?=some (.deferred (some [])):=by rw [← hW2];exact (World.putObj_heap_other (by omega)).trans hk1
   have kp2:Kp W W2:=by rw [← hW2];exact hKt kp1 (hKb _ _ _ _ (by omega) hl1 rfl rfl)
   -- the record behind the body
   have fin:∀ (jump:Option Code) (W3:World),KeepsFrom D W2 W3→W3.heap[D+1]?=some (rec0 .busy none)∧W3.heap[D]?=some (.deferred (some [])) ∧
     (Instr.endRound (D+1) jump).run P W3=.ok (.bool jump.isNone) (W3.putObj (D+1) (rec0 (if jump.isNone then .ready else .done) jump)):=fun jump W3 k3 =>
    ⟨k3.same _ _ (by omega) hl2 rfl,k3.same _ _ (Nat.le_refl _) hk2 rfl,run_endRound (P:=P) jump (k3.same _ _ (by omega) hl2 rfl)⟩
   have rest:∀ (st:LoopState) (pe:Option Code) (W3:World),W3.heap[D+1]?=some (rec0 .busy none)→W3.heap[D]?=some (.deferred (some [])) →
     (W3.putObj (D+1) (rec0 st pe)).heap[D+1]?=some (rec0 st pe)∧(W3.putObj (D+1) (rec0 st pe)).heap[D]?=some (.deferred (some [])):=fun st pe W3 h2 h3 =>
    ⟨World.putObj_heap_same (Array.getElem?_eq_some_iff.1 h2).1,(World.putObj_heap_other (by omega)).trans h3⟩
   intro e2 a3 W3 hp;cases e2 with
   | normal =>
    obtain ⟨k3,kp3,i3⟩:=hp;obtain ⟨h2,h3,hrun⟩:=fin none W3 k3;exact ⟨_,_,hrun,.inl ⟨rfl,⟨hI.putObj _ i3 (by omega) h2 rfl,rest _ _ _ h2 h3⟩,hKt (hKt kp2 kp3) (hKb _ _ _ _ (by omega) h2 rfl rfl)⟩⟩
   | ret =>
    obtain ⟨h2,h3,hrun⟩:=fin (some .ret) W3 hp.1;exact ⟨_,_,hrun,.inr ⟨rfl,.ret,(hIx _).putObj _ hp.2 (by omega) h2 rfl,rest _ _ _ h2 h3⟩⟩
   | exit id =>
    obtain ⟨h2,h3,hrun⟩:=fin (some (.exit id)) W3 hp.1;exact ⟨_,_,hrun,.inr ⟨rfl,.exit id,(hIx _).putObj _ hp.2 (by omega) h2 rfl,rest _ _ _ h2 h3⟩⟩
   | goto t =>
    obtain ⟨h2,h3,hrun⟩:=fin (some (.goto t)) W3 hp.1;exact ⟨_,_,hrun,.inr ⟨rfl,.goto t,(hIx _).putObj _ hp.2 (by omega) h2 rfl,rest _ _ _ h2 h3⟩⟩
   | panic ch=>exact hp.elim
   | outgrown=>exact hp.elim
  | exit id=>exact he.elim
  | goto t=>exact he.elim
  | ret=>exact he.elim
  | panic ch=>exact he.elim
  | outgrown=>exact he.elim
 ·
  rintro e W2 ⟨⟨v,rfl⟩,(⟨xs,hS,hi,hl,hk⟩ | ⟨pre,hSp,c,hi,hl,hk⟩)⟩
  ·
   exact ⟨none,_,run_endLoop (P:=P) hl (by simp),hdone D xs _ (by omega) hS (hI.putObj _ hi (by omega) hl rfl) ((World.putObj_heap_other (by omega)).trans hk)⟩
  ·
   exact ⟨some c,_,run_endLoop (P:=P) hl (by simp),hstop D c pre _ (by omega) hSp ((hIx c).putObj _ hi (by omega) hl rfl) ((World.putObj_heap_other (by omega)).trans hk)⟩
end Go.Proofs.YtbckjgageofldaaGreat.Range
namespace Go.Proofs.YtbckjgageofldaaGreat
open Go.RowKit Go.Shelf
attribute [local go_sem] Oper.semAt_some
theorem turned_cells {B l q:Nat} {W W':World} {cs:Array Value} {t:TypeId} {f:Nat × Nat} (h:Range.Turned B l W W') (hq:W.heap[q]?=some (.cells cs t f)):W'.heap[q]?=some (.cells cs t f):=by
 obtain ⟨_,o,o',h2,h3,_,rfl⟩:=h;have hne:q≠l:=fun e=>by subst e;rw [hq] at h2;cases h2;cases h3
 exact (World.putObj_heap_other hne).trans hq
theorem turned_below {B l n:Nat} {W W':World} (hn:n≤B) (h:Range.Turned B l W W'):Below n W W':=by
 obtain ⟨h1,o,o',h2,_,_,rfl⟩:=h;have hg:=grownBy_putObj' W l o';exact ⟨hg.os,hg.tape,hg.output,hg.size,fun q hq=>World.putObj_heap_other (by omega)⟩
theorem keepsFrom_below {B:Nat} {W W':World} (h:Below W.heap.size W W'):KeepsFrom B W W':=⟨h.size,fun k _ _ hk _=>(h.block k (Array.getElem?_eq_some_iff.1 hk).1).trans hk⟩
theorem tl_inj {a b:ByteArray} (h:a.toList=b.toList):a=b:=by
 rw [ByteArray.toList_eq,ByteArray.toList_eq] at h;cases a;cases b
 simpa using h
theorem keepsFrom_set {B:Nat} {W W3:World} {a:Addr} {v:Value} (h:KeepsFrom B W W3):KeepsFrom B W (W3.setCell a v):=h.trans ((KeepsOthers.setCell _ _ _).from B)
theorem TreeAt.set {w:World} {g i:Nat} {v x:Value} {t:TypeId} (h:BoxAt w g v t):∀ {T:Tr},TreeAt w T→TreeAt (w.setCell ⟨g,i,none⟩ x) T
 | .nil,_=>trivial
 | .node b _ _ _ _ _,⟨h1,h2,h3⟩=>⟨(Below.heap_setCell _ _ _ _ (by
   show b≠g;rintro rfl;unfold NodeAt at h1;unfold BoxAt at h;rw [h1] at h;simp [nodeCells] at h)).trans h1,TreeAt.set h h2,TreeAt.set h h3⟩
theorem KeptW.refl (w:World):KeptW w w:=Below.refl _ _
theorem KeptW.drew (w:World):KeptW w w.drew:=⟨rfl,rfl,rfl,Nat.le_refl _,fun _ _=>rfl⟩
theorem below_own {W0 W W':World} {row:Option Nat} {B0:Nat} (hB:W0.heap.size≤B0) (h:Below W0.heap.size W0 W) (hg:W.grownBy W' row) (hr:∀ r,row=some r→B0≤r∧∃ o:Obj,W.heap[r]?=some o∧o.isCells=false):Below W0.heap.size W0 W' :=
 ⟨hg.os.trans h.os,hg.tape.trans h.tape,hg.output.trans h.output,Nat.le_trans h.size hg.size,fun q hq=>(hg.block q (Nat.lt_of_lt_of_le hq h.size) (fun e=>by have:=(hr q e.symm).1;omega)).trans (h.block q hq)⟩
theorem calls_round {l n:Nat} {P:Program} {f:FuncId} {args:Array Value} {w:World} {R:Ending→World→Prop} (h:Calls P f args w R):CallsIn (Fence.wide.inRound l) n P f args w R :=
 show CallsIn Fence.wide n P f args w R from callsIn_wide.2 h
open Go.RowKit Go.Shelf
attribute [local go_sem] Oper.semAt_some
def lastE (l m:LastV):Bool:=decide (l.seq.toNat=m.seq.toNat) && decide (l.code=m.code) && decide (l.text.toList=m.text.toList)
theorem lastE_iff {l m:LastV}:lastE l m=true ↔ l=m:=by
 unfold lastE;simp only [Bool.and_eq_true,decide_eq_true_eq];constructor
 ·
  rintro ⟨⟨h1,h2⟩,h3⟩;obtain ⟨a,b,c⟩:=l;obtain ⟨d,e,f⟩:=m;simp only at h1 h2 h3;have e1:=BitVec.eq_of_toNat_eq h1;have e3:c=f:=by
   rw [ByteArray.toList_eq,ByteArray.toList_eq] at h3;cases c;cases f
   simpa using h3
  subst e1 h2 e3;rfl
 ·
  rintro rfl;exact ⟨⟨rfl,rfl⟩,rfl⟩
theorem last_eql2 (l m:LastV) (d:Nat) (w:World):(Op.equalIn (d+3) 29 (.agg (lastCells l).toArray) (.agg (lastCells m).toArray)).run Tryz.prog w=.ok (lastE l m) w:=by
 unfold lastCells lastE;have i1:((l.seq.toNat:Int)=(m.seq.toNat:Int))=(l.seq.toNat=m.seq.toNat):=by apply propext;omega
 have i2:((l.code:Int)=(m.code:Int))=(l.code=m.code):=by apply propext;omega
 go_simp;by_cases h1:l.seq.toNat=m.seq.toNat <;> by_cases h2:l.code=m.code <;> by_cases h3:l.text.toList=m.text.toList <;> simp [h1,h2,h3]
theorem wpList_make_lc {P:Program} (w:World) {ops:Array Oper} {rest:List Oper} {o:Oper} {a:Act} {Q:Exit→Act→World→Prop}
  (hg:o.guard=none) (l c:Operand) (t:TypeId) (hop:o.op=Op.makeSlice t l c)
  (e:TypeId) (i:TypeInfo) (z:Value) (h1:P.underlying t=some (.slice e)) (h2:P.info? e=some i) (h3:i.zero=some z)
  (kl kc:IntKind) (L C:Int) (n m:Nat) (hl:a.eval l=.int kl L) (hc:a.eval c=.int kc C) (hL:L=(n:Int)) (hC:C=(m:Int)) (hLC:n≤m) (b2:i.bytes*m≤281474976710656) (b3:m≤maxLen)
  (hK:wpList P ops Q rest (a.put o.dst (.slice (some ⟨w.heap.size,0,none⟩) n m)) (w.alloc (.cells (madeCells z.cells (m*i.size)) e))) :
  wpList P ops Q (o::rest) a w:=by
 refine wpList_plain hg fun K hK'=>?_
 subst hL;subst hC;unfold maxLen at b3;have hb':(i.bytes:Int)*(m:Int)≤281474976710656:=by
  have h:((i.bytes*m:Nat):Int)≤281474976710656:=by omega
  rwa [Int.natCast_mul] at h
 have hr:=run_make (P:=P) w t e i z h1 h2 h3 kl kc n m (by omega) (by omega) hb' (by omega);simp only [Int.toNat_natCast] at hr;unfold Oper.wp;simp [execOp,hop,hl,hc,hr,Result.andThen];exact hK' _ _ hK
def bcells (l:List UInt8):List Value:=l.map fun b=>Value.int .u8 b.toNat
theorem bcells_len (l:List UInt8):(bcells l).length=l.length:=by simp [bcells]
theorem bcells_one (l:List UInt8):∀ u ∈ bcells l,u.oneCell'=true:=by
 intro u hu;simp only [bcells,List.mem_map] at hu;obtain ⟨b,_,rfl⟩:=hu;rfl
theorem bcells_get {l:List UInt8} {j:Nat} (hj:j<l.length):(bcells l)[j]?=some (.int .u8 (l[j].toNat:Int)):=by
 unfold bcells;rw [List.getElem?_map,List.getElem?_eq_getElem hj];rfl
theorem bcells_app (l k:List UInt8):bcells (l++k)=bcells l++bcells k:=by simp [bcells]
theorem bcells_str (s:ByteArray):Lib.strCells s=bcells s.data.toList:=rfl
structure ReadB (w:World) (v:Value) (l:List UInt8):Prop where
 out:∃ a cap,v=.slice a l.length cap∧(a=none→cap=0)∧∀ j u,(bcells l)[j]?=some u→∃ b o,a=some ⟨b,o,none⟩∧b<w.heap.size∧w.cell? ⟨b,o+j,none⟩=some u
theorem ReadB.below {w w':World} {v:Value} {l:List UInt8} (h:ReadB w v l) (hb:Below w.heap.size w w'):ReadB w' v l:=by
 obtain ⟨a,cap,e,h0,h2⟩:=h.out;exact ⟨a,cap,e,h0,fun j u hj=>by obtain ⟨b,o,e1,e2,e3⟩:=h2 j u hj;exact ⟨b,o,e1,Nat.lt_of_lt_of_le e2 hb.size,(hb.cell (p:=⟨b,_,none⟩) e2).trans e3⟩⟩
theorem ReadB.slice {w:World} {v:Value} {l:List UInt8} (h:ReadB w v l):∃ a n c,v=.slice a n c:=by
 obtain ⟨a,cap,e,_⟩:=h.out;exact ⟨a,_,cap,e⟩
theorem ReadB.nil (w:World):ReadB w (.slice none 0 0) []:=⟨none,0,rfl,fun _=>rfl,fun j u hj=>by simp [bcells] at hj⟩
theorem ReadB.conv {P:Program} {w:World} {v:Value} {l:List UInt8} {src dst e:TypeId} (h:ReadB w v l) (hs:P.underlying src=some (.slice e)) (he:P.underlying e=some (.int .u8)) (hd:P.underlying dst=some .string) :
  (convert src dst v).run P w=.ok (.string ⟨l.toArray⟩) w:=by
 obtain ⟨a,cap,rfl,_,h2⟩:=h.out;match l,h2 with
 | [],_ =>
  cases a with
  | none=>exact Lib.run_convert_nil_bytes w src dst e cap hs he hd
  | some a=>exact run_convert_bytes_back w src dst e a cap [] hs he hd (fun j hj=>by simp at hj)
 | b::r,h2 =>
  obtain ⟨g,o,rfl,_,_⟩:=h2 0 _ (List.getElem?_eq_getElem (show 0<(bcells (b::r)).length by simp [bcells]));refine run_convert_bytes_back w src dst e ⟨g,o,none⟩ cap (b::r) hs he hd (fun j hj=>?_);obtain ⟨g',o',e1,_,e3⟩:=h2 j (.int .u8 ((b::r)[j].toNat:Int)) (bcells_get hj);cases e1
  rw [Addr.add_lit];exact e3
theorem ReadB.cells (w:World) (l:List UInt8) (t:TypeId) (cs:Array Value) (hcs:cs=(bcells l).toArray) (cap:Nat):ReadB (w.alloc (.cells cs t)) (.slice (some ⟨w.heap.size,0,none⟩) l.length cap) l:=by
 subst hcs;refine ⟨some ⟨w.heap.size,0,none⟩,cap,rfl,(fun e=>by cases e),fun j u hj=>⟨w.heap.size,0,rfl,by simp,?_⟩⟩;have h:=heap_alloc_new w (.cells (bcells l).toArray t);unfold World.cell?;simp only [h,Nat.zero_add];simpa using hj
theorem ReadB.one (w:World) (b:UInt8) (t:TypeId):ReadB (w.alloc (.cells #[.int .u8 (b.toNat:Int)] t)) (.slice (some ⟨w.heap.size,0,none⟩) 1 1) [b]:=by
 refine ⟨some ⟨w.heap.size,0,none⟩,1,rfl,(fun e=>by cases e),fun j u hj=>?_⟩;match j,hj with
 | 0,hj =>
  rw [show bcells [b]=[.int .u8 (b.toNat:Int)] from rfl,List.getElem?_cons_zero,Option.some.injEq] at hj;subst hj;have h:=heap_alloc_new w (.cells #[.int .u8 (b.toNat:Int)] t);refine ⟨w.heap.size,0,rfl,by simp,?_⟩;unfold World.cell?;simp only [h];rfl
theorem cells_one (v:Value) (t:TypeId) (w:World):∀ j u,[v][j]?=some u→(w.alloc (.cells #[v] t)).cell? ((⟨w.heap.size,0,none⟩:Addr).add j)=some u:=by
 intro j u hj;match j,hj with
 | 0,hj =>
  rw [List.getElem?_cons_zero,Option.some.injEq] at hj;subst hj;have h:=heap_alloc_new w (.cells #[v] t);show (w.alloc (.cells #[v] t)).cell? ⟨w.heap.size,0,none⟩=_;unfold World.cell?;simp only [h];rfl
def OwnB (w:World) (base:Nat) (t:TypeId) (v:Value) (l:List UInt8):Prop:=w.ownsRow base t 1 v l.length (bcells l)
theorem OwnB.read {w:World} {base:Nat} {t:TypeId} {v:Value} {l:List UInt8} (h:OwnB w base t v l):ReadB w v l:=by
 unfold OwnB at h;obtain ⟨h1,h2⟩:=h;rcases h2 with ⟨rfl,h3⟩ | ⟨g,cap,cur,rfl,_,hg,_,_,hs,ht⟩
 ·
  have:l=[]:=List.eq_nil_of_length_eq_zero h3;subst this;exact ReadB.nil w
 ·
  refine ⟨some ⟨g,0,none⟩,cap,rfl,(fun e=>by cases e),fun j u hj=>⟨g,0,rfl,(Array.getElem?_eq_some_iff.1 hg).1,?_⟩⟩;have hjl:j<l.length:=by
   have:=(List.getElem?_eq_some_iff.1 hj).1;rwa [bcells_len] at this
  rw [Nat.mul_one] at ht;rw [← ht,List.getElem?_take,if_pos hjl,Array.getElem?_toList] at hj;simp only [World.cell?,hg,Nat.zero_add];simpa using hj
theorem OwnB.below {w w':World} {base:Nat} {t:TypeId} {v:Value} {l:List UInt8} (h:OwnB w base t v l) (hb:Below w.heap.size w w'):OwnB w' base t v l:=by
 unfold OwnB at *
 obtain ⟨h1,h2⟩:=h;refine ⟨h1,?_⟩;rcases h2 with h2 | ⟨g,cap,cur,e,h3,hg,h4⟩
 ·
  exact .inl h2
 ·
  exact .inr ⟨g,cap,cur,e,h3,(hb.block g (Array.getElem?_eq_some_iff.1 hg).1).trans hg,h4⟩
theorem OwnB.mono {w:World} {base base':Nat} {t:TypeId} {v:Value} {l:List UInt8} (h:OwnB w base t v l) (hb:base'≤base):OwnB w base' t v l:=by
 unfold OwnB at *
 obtain ⟨h1,h2⟩:=h;refine ⟨h1,?_⟩;rcases h2 with h2 | ⟨g,cap,cur,e,h3,h4⟩
 ·
  exact .inl h2
 ·
  exact .inr ⟨g,cap,cur,e,Nat.le_trans hb h3,h4⟩
theorem OwnB.setCell {w:World} {base:Nat} {t:TypeId} {v:Value} {l:List UInt8} {g i:Nat} {x:Value} (h:OwnB w base t v l) (hg:g<base):OwnB (w.setCell ⟨g,i,none⟩ x) base t v l:=by
 unfold OwnB at *
 obtain ⟨h1,h2⟩:=h;refine ⟨h1,?_⟩;rcases h2 with h2 | ⟨q,cap,cur,e,h3,hq,h4⟩
 ·
  exact .inl h2
 ·
  exact .inr ⟨q,cap,cur,e,h3,(Below.heap_setCell _ _ _ _ (by show q≠g;omega)).trans hq,h4⟩
theorem OwnB.of {w:World} {base:Nat} {t:TypeId} {v:Value} {l k:List UInt8} {n:Nat} {xs:List Value} (h:w.ownsRow base t 1 v n xs) (hn:n=l.length+k.length) (hx:xs=bcells l++bcells k):OwnB w base t v (l++k):=by
 subst hn hx;unfold OwnB;rw [bcells_app,List.length_append];exact h
theorem OwnB.splice {w:World} {base g cap:Nat} {t:TypeId} {l:List UInt8} {cur:List Value} (hg:w.heap[g]?=some (.cells (splice cur 0 (bcells l)).toArray t (0,0))) (hb:base≤g) (hlen:cur.length=cap) (hl:l.length≤cap) (hm:cap≤maxLen) :
  OwnB w base t (.slice (some ⟨g,0,none⟩) l.length cap) l:=by
 refine ⟨by rw [bcells_len];simp,.inr ⟨g,cap,_,rfl,hb,hg,hl,hm,?_,?_⟩⟩
 ·
  rw [List.size_toArray,length_splice _ _ _ (by rw [bcells_len];omega)];omega
 ·
  rw [Nat.mul_one,show l.length=(bcells l).length from (bcells_len l).symm];simp [Go.splice]
theorem OwnB.one (w:World) (b:UInt8) (t:TypeId):OwnB (w.alloc (.cells #[.int .u8 (b.toNat:Int)] t)) w.heap.size t (.slice (some ⟨w.heap.size,0,none⟩) 1 1) [b] :=
 ⟨rfl,.inr ⟨w.heap.size,1,_,rfl,Nat.le_refl _,heap_alloc_new w _,Nat.le_refl _,by unfold maxLen;omega,rfl,rfl⟩⟩
theorem wp_append_read {P:Program} {w:World} {o:Oper} {a:Act} {K:Act→World→Prop} {Q:Exit→Act→World→Prop} (s x:Operand) (t:TypeId)
  (ho:o.op=.call { callee:=.builtin .append,args:=#[s,x],argTypes:=#[t,t] })
  (base:Nat) (e:TypeId) (i:TypeInfo) (z:Value) (ht:P.underlying t=some (.slice e)) (hi:P.info? e=some i) (hz:i.zero=some z)
  (hsize:i.size=1) (hby:i.bytes=1) (hzs:z.cells.size=1)
  (v:Value) (n:Nat) (xs:List Value) (hs:a.eval s=v) (hown:w.ownsRow base e 1 v n xs) (V:Value) (k:List UInt8) (hx:a.eval x=V) (hr:ReadB w V k)
  (h63:n+k.length≤140737488355328) (hbase:base≤w.heap.size)
  (h:∀ v' w',w'.ownsRow base e 1 v' (n+k.length) (xs++bcells k)→w.grownBy w' v.ownBlock→K (a.put o.dst v') w'):o.wp P a w K Q:=by
 obtain ⟨ad,cap,rfl,h0,h2⟩:=hr.out;cases ad with
 | none =>
  obtain rfl:=h0 rfl;have hk:k=[]:=by
   match k,h2 with
   | [],_=>rfl
   | b::r,h2 =>
    obtain ⟨_,_,e1,_⟩:=h2 0 _ (bcells_get (show 0<(b::r).length by simp));cases e1
  subst hk;have hrun:=run_append_owned_none (P:=P) (w:=w) base t o.type e i 1 ht hi v n xs hown;have hh:=h v w (by simpa [bcells] using hown) (World.grownBy.refl w _);have hx':a.eval x=.slice none 0 0:=hx;unfold Oper.wp;simp [execOp,ho,resolve,invoke,builtin,hs,hx',hrun,Result.andThen];exact hh
 | some ad =>
  refine wp_append_own w s x t ho base e i z 1 1 ht hi hz hsize hby hzs (by omega) v n xs hs hown ad k.length cap (bcells k) hx (by rw [bcells_len,Nat.mul_one]) (fun j u hj=>?_) (bcells_one k) (by unfold maxLen;omega) (by omega) hbase (fun v' w' h3 h4 _=>h v' w' h3 h4);obtain ⟨b,o',e1,_,e3⟩:=h2 j u hj;cases e1
  rw [Addr.add_lit];exact e3
theorem wpList_append_read {P:Program} {w:World} {ops:Array Oper} {rest:List Oper} {o:Oper} {a:Act} {Q:Exit→Act→World→Prop} (hgd:o.guard=none) (s x:Operand) (t:TypeId)
  (ho:o.op=.call { callee:=.builtin .append,args:=#[s,x],argTypes:=#[t,t] })
  (base:Nat) (e:TypeId) (i:TypeInfo) (z:Value) (ht:P.underlying t=some (.slice e)) (hi:P.info? e=some i) (hz:i.zero=some z)
  (hsize:i.size=1) (hby:i.bytes=1) (hzs:z.cells.size=1)
  (v:Value) (n:Nat) (xs:List Value) (hs:a.eval s=v) (hown:w.ownsRow base e 1 v n xs) (V:Value) (k:List UInt8) (hx:a.eval x=V) (hr:ReadB w V k)
  (h63:n+k.length≤140737488355328) (hbase:base≤w.heap.size)
  (h:∀ v' w',w'.ownsRow base e 1 v' (n+k.length) (xs++bcells k)→w.grownBy w' v.ownBlock→wpList P ops Q rest (a.put o.dst v') w'):wpList P ops Q (o::rest) a w :=
 wpList_plain hgd fun _ hK=>wp_append_read s x t ho base e i z ht hi hz hsize hby hzs v n xs hs hown V k hx hr h63 hbase fun v' w' h3 h4=>hK _ _ (h v' w' h3 h4)
theorem below_grown {w w':World} {row:Option Nat} {n:Nat} {w0:World} (hg:w.grownBy w' row) (hb:Below n w0 w) (hn:n≤w.heap.size) (hr:∀ k,row=some k→n≤k):Below n w0 w' :=
 hb.trans ⟨hg.os,hg.tape,hg.output,hg.size,fun k hk=>hg.block k (Nat.lt_of_lt_of_le hk hn) (fun e=>by have:=hr k e.symm;omega)⟩
open Go.Shelf
def wid (n:Nat):Nat:=if n=0 then 0 else if n<256 then 1 else if n<65536 then 2 else if n<16777216 then 3 else if n<4294967296 then 4 else if n<1099511627776 then 5 else if n<281474976710656 then 6 else if n<72057594037927936 then 7 else 8
def bigB:Nat→Nat→List UInt8
 | 0,_=>[]
 | k+1,n=>UInt8.ofNat (n / 256 ^ k)::bigB k n
def numL (n:Nat):List UInt8:=if n<248 then [UInt8.ofNat n] else UInt8.ofNat (247+wid n)::bigB (wid n) n
theorem bigB_len:∀ k n,(bigB k n).length=k
 | 0,_=>rfl
 | k+1,n=>by simp [bigB,bigB_len k n]
theorem wid_le (n:Nat):wid n≤8:=by
 unfold wid;repeat' split
 all_goals omega
theorem wid_pos {n:Nat} (h:n≠0):1≤wid n:=by
 unfold wid;rw [if_neg h];repeat' split
 all_goals omega
theorem numL_len (n:Nat):(numL n).length≤9∧1≤(numL n).length:=by
 unfold numL;have:=wid_le n;split
 ·
  simp
 ·
  simp [bigB_len];omega
theorem len_most (n:Nat) (hn:n<2 ^ 64):Lib.bitLen n≤64:=Lib.bitLen_le n 64 (by omega) hn
theorem len_eq (n:Nat) (_:n≠0) (hn:n<2 ^ 64) (k:Nat) (h:2 ^ k≤n) (h2:n<2 ^ (k+8)) (hk:k+8≤64):k<Lib.bitLen n∧Lib.bitLen n≤k+8:=by
 refine ⟨?_,Lib.bitLen_le n (k+8) hk h2⟩;have e:=Lib.bitLen_shift k n h hn;have h3:n / 2 ^ k≠0:=by
  have:0<n / 2 ^ k:=Nat.div_pos h (Nat.two_pow_pos k);omega
 have h4:=Lib.bitLen_half (n / 2 ^ k) h3 (Nat.lt_of_le_of_lt (Nat.div_le_self _ _) hn);omega
theorem len_wid (n:Nat) (hn:n<18446744073709551616):(Lib.bitLen n+7) / 8=wid n:=by
 have h64:n<2 ^ 64:=hn;unfold wid;by_cases h0:n=0
 ·
  subst h0;rw [if_pos rfl];decide
 rw [if_neg h0];repeat' split
 ·
  have:=len_eq n h0 h64 0 (by omega) (by omega) (by omega);omega
 ·
  have:=len_eq n h0 h64 8 (by omega) (by omega) (by omega);omega
 ·
  have:=len_eq n h0 h64 16 (by omega) (by omega) (by omega);omega
 ·
  have:=len_eq n h0 h64 24 (by omega) (by omega) (by omega);omega
 ·
  have:=len_eq n h0 h64 32 (by omega) (by omega) (by omega);omega
 ·
  have:=len_eq n h0 h64 40 (by omega) (by omega) (by omega);omega
 ·
  have:=len_eq n h0 h64 48 (by omega) (by omega) (by omega);omega
 ·
  have:=len_eq n h0 h64 56 (by omega) (by omega) (by omega);omega
def len64_ren:Go.Shelf.Ren:=⟨fun | 129=>160 | n=>n,fun | 3=>3 | 4=>4 | 5=>5 | 9=>9 | 46=>250 | 53=>22 | n=>n,fun n=>n⟩
theorem len64_lays:Lays.n129 Tryz.prog len64_ren :=
  { mixed:=by kernel_rfl,f129:=by kernel_rfl
    t3:=by kernel_rfl,a3:=fun _=>by kernel_rfl,z3:=fun _=>by kernel_rfl,v3:=fun _=>by kernel_rfl
    t4:=by kernel_rfl,a4:=fun _=>by kernel_rfl,z4:=fun _=>by kernel_rfl,v4:=fun _=>by kernel_rfl
    t5:=by kernel_rfl,a5:=fun _=>by kernel_rfl,z5:=fun _=>by kernel_rfl,v5:=fun _=>by kernel_rfl
    t9:=by kernel_rfl,a9:=fun _=>by kernel_rfl,z9:=fun _=>by kernel_rfl,v9:=fun _=>by kernel_rfl
    t46:=by kernel_rfl,a46:=fun _=>by kernel_rfl,z46:=fun _=>by kernel_rfl,v46:=fun _=>by kernel_rfl
    t53:=by kernel_rfl,a53:=fun _=>by kernel_rfl,z53:=fun _=>by kernel_rfl,v53:=fun _=>by kernel_rfl
  }
theorem len64_any (n:Nat) (hn:n<18446744073709551616) (w:World):Calls Tryz.prog 160 #[.int .u64 (n:Int)] w fun e w'=>e=.returned (.int .i64 (Lib.bitLen n:Int))∧w=w':=by
 have h:=Any.bits_Len64 len64_lays (n:Int) w (by omega) (by omega);rw [Int.toNat_natCast] at h;exact h.mono fun e w' hh=>⟨hh.1,hh.2.symm⟩
theorem width_any (n:Nat) (hn:n<18446744073709551616) (w:World):Calls Tryz.prog 106 #[.int .u64 (n:Int)] w fun e w'=>e=.returned (.int .i64 (wid n:Int))∧w=w':=by
 have H:=Lib.hid (len64_any n hn w);have hm:=len_most n hn;have hq:=len_wid n hn;rw [← hq];clear hq;generalize Lib.bitLen n=L at *;go_enter Tryz.func106,Tryz.ntmps106
 go_wp2_with ((with_reducible refine H.out.mono ?_);rintro e w' ⟨rfl,rfl⟩);go_ret;refine ⟨congrArg Ending.returned (congrArg (Value.int IntKind.i64) ?_),rfl⟩;try rw [IntKind.wrap_i64]
 omega
theorem info8:(Tryz.prog.info? 5).map (fun i=>(i.zero,i.size,i.bytes))=some (some (.int .u8 0),1,1):=by kernel_rfl
theorem info8s:(Tryz.prog.info? 5).map (·.size)=some 1:=by kernel_rfl
set_option maxHeartbeats 4000000 in
theorem num_any (v:Value) (l:List UInt8) (n:Nat) (hn:n<18446744073709551616) (hl:l.length≤1099511627776) (w:World) (h:ReadB w v l) :
  Calls Tryz.prog 52 #[v,.int .u64 (n:Int)] w fun e w'=>∃ v',e=.returned v'∧OwnB w' w.heap.size 5 v' (l++numL n)∧Below w.heap.size w w':=by
 obtain ⟨i0,hi0,hz0,hs0,hb0⟩:=info_parts info8;obtain ⟨a,cap,rfl,hcap0,hread⟩:=h.out;have Hr:=Lib.hid hread;clear hread
 go_enter Tryz.func52,Tryz.ntmps52
 go_upto_region 2 with (refine wpList_make_lc _ rfl _ _ 44 rfl 5 i0 (.int .u8 0) Tryz.underlying44 hi0 hz0 .i64 .i64 _ _ l.length (l.length+9) rfl rfl (by simp) (by first | omega | (rw [IntKind.wrap_i64];omega)) (by omega) (by rw [hb0];omega) (by unfold maxLen;omega) ?_)
 have hb1:=(Below.refl w.heap.size w).alloc (Nat.le_refl _) (.cells (madeCells #[Value.int .u8 0] (l.length+9)) 5);have hr1:=(ReadB.below (w:=w) (v:=.slice a l.length cap) (l:=l) ⟨a,cap,rfl,hcap0,Hr.out⟩ ((Below.refl w.heap.size w).alloc (Nat.le_refl _) (.cells (madeCells #[Value.int .u8 0] (l.length+9)) 5))).out;have hg1:(w.alloc (.cells (madeCells #[Value.int .u8 0] (l.length+9)) 5)).heap[w.heap.size]?=some (.cells (madeCells #[Value.int .u8 0] (l.length+9)).toList.toArray 5 (0,0)):=heap_alloc_new _ _;generalize w.alloc (.cells (madeCells #[Value.int .u8 0] (l.length+9)) 5)=w1 at *;have hc1:(madeCells #[Value.int .u8 0] (l.length+9)).toList.length=l.length+9:=by simp [size_madeCells]
 generalize (madeCells #[Value.int .u8 0] (l.length+9)).toList=cur at *;have Hb1:=Lib.hid hb1;clear hb1
 have Hg1:=Lib.hid hg1;clear hg1
 have Hr1:=Lib.hid hr1;clear hr1
 have Hc1:=Lib.hid hc1;clear hc1 Hr h
 obtain ⟨X,hX⟩:∃ X,bcells l=X:=⟨_,rfl⟩;have HX:=Lib.hid hX;have hpos:0<X.length→(some ⟨w.heap.size,0,none⟩:Option Addr)=some ⟨w.heap.size,0,none⟩∧∃ ad,a=some ad∧∀ j u,X[j]?=some u→w1.cell? (ad.add j)=some u:=by
  intro hp;obtain ⟨a',cap',e,_,h2⟩:=Hr1.out;cases e
  rw [← hX] at hp ⊢;obtain ⟨b,o,e1,_,_⟩:=h2 0 _ (List.getElem?_eq_getElem hp);refine ⟨rfl,⟨b,o,none⟩,e1,fun j u hj=>?_⟩;obtain ⟨b',o',e2,_,e3⟩:=h2 j u hj;rw [e1] at e2;cases e2
  rw [Addr.add_lit];exact e3
 have Hpos:=Lib.hid hpos;clear hpos
 have Hlen:=Lib.hid (show X.length=Nat.min l.length l.length by rw [← hX,bcells_len];exact (Nat.min_self _).symm);have Hfit:=Lib.hid (show 0+X.length≤cur.length by rw [← hX,bcells_len,Hc1.out];omega);have Hone:=Lib.hid (show ∀ u ∈ X,u.oneCell'=true by rw [← hX];exact bcells_one l);clear hX Hr1;go_upto_region 3 with (with_reducible refine wpList_copy_splice rfl (.tmp 14) (.tmp 15) 44 44 rfl 5 Tryz.underlying44 info8s _ _ _ _ _ _ rfl rfl w.heap.size 0 cur 5 Hg1.out X Hlen.out Hpos.out Hfit.out Hone.out w.heap.size w Hb1.out (Nat.le_refl _) ?_;intro w2 hg2 hb2;have Hb2:=Lib.hid hb2;clear hb2)
 have hown:OwnB w2 w.heap.size 5 (.slice (some ⟨w.heap.size,0,none⟩) l.length (l.length+9)) l:=by
  have hg:=hg2.out;rw [← HX.out] at hg;exact OwnB.splice hg (Nat.le_refl _) Hc1.out (by omega) (by unfold maxLen;omega)
 have Hown:=Lib.hid hown;clear hown
 have Hlt:=Lib.hid (show w.heap.size≤w2.heap.size from Hb2.out.size);clear hg2 Hg1 Hb1 Hpos Hlen Hfit Hone Hc1 HX;by_cases h248:n<248
 ·
  have h248':(n:Int)<248:=by omega
  have hnum:numL n=[UInt8.ofNat n]:=by unfold numL;rw [if_pos h248]
  have Hnum:=Lib.hid hnum;clear hnum
  have hmod:(n:Int) % 256=(n:Int):=by omega
  have hnews:bcells [UInt8.ofNat n]=[.int .u8 (n:Int)]:=by simp [bcells];omega
  have Hnews:=Lib.hid hnews;clear hnews
  go_wp2_with (at_builtin;refine wpList_append_fits _ rfl _ _ 44 rfl w.heap.size 5 i0 1 Tryz.underlying44 hi0 hs0 w.heap.size l.length (l.length+9) (bcells l) rfl (World.ownsRow.alloc Hown.out _) ⟨w2.heap.size,0,none⟩ 1 1 (bcells [UInt8.ofNat n]) rfl rfl (by rw [Hnews.out];exact cells_one _ _ _) (bcells_one _) (by omega) ?_;intro w3 ho3 hg3;have Hg3:=Lib.hid hg3;clear hg3;have Ho3:=Lib.hid ho3;clear ho3);go_ret;refine ⟨_,rfl,?_,?_⟩
  ·
   rw [Hnum.out];exact OwnB.of Ho3.out rfl rfl
  ·
   exact below_grown Hg3.out (Hb2.out.alloc Hlt.out _) (by simp;have:=Hlt.out;omega) (fun k hk=>by cases hk;exact Nat.le_refl _)
 ·
  have h248' : ¬ (n:Int)<248:=by omega
  have Hw:=Lib.hid (fun y:World=>width_any n hn y);have hw8:=wid_le n;have hw1:=wid_pos (n:=n) (by omega);have hnum:numL n=UInt8.ofNat (247+wid n)::bigB (wid n) n:=by unfold numL;rw [if_neg h248]
  have Hnum:=Lib.hid hnum;clear hnum
  obtain ⟨k,hk⟩:∃ k,wid n=k:=⟨_,rfl⟩;rw [hk] at Hw Hnum hw8 hw1;clear hk;have hmod:(247+(k:Int)) % 256=247+(k:Int):=by omega
  have hnews:bcells [UInt8.ofNat (247+k)]=[.int .u8 (247+(k:Int))]:=by simp [bcells];omega
  have Hnews:=Lib.hid hnews;clear hnews
  go_upto_region 7 with (first
   | ((with_reducible refine (Hw.out _).mono ?_);rintro e w' ⟨rfl,rfl⟩)
   | (at_builtin;refine wpList_append_fits _ rfl _ _ 44 rfl w.heap.size 5 i0 1 Tryz.underlying44 hi0 hs0 w.heap.size l.length (l.length+9) (bcells l) rfl (World.ownsRow.alloc Hown.out _) ⟨w2.heap.size,0,none⟩ 1 1 (bcells [UInt8.ofNat (247+k)]) rfl rfl (by rw [Hnews.out];exact cells_one _ _ _) (bcells_one _) (by omega) ?_;intro w3 ho3 hg3;have Hg3:=Lib.hid hg3;clear hg3;have Ho3:=Lib.hid ho3;clear ho3))
  have hb3:=below_grown Hg3.out (Hb2.out.alloc Hlt.out _) (by simp;have:=Hlt.out;omega) (fun k hk=>by cases hk;exact Nat.le_refl _);have ho3:OwnB w3 w.heap.size 5 (.slice (some ⟨w.heap.size,0,none⟩) (l.length+1) (l.length+9)) (l++[UInt8.ofNat (247+k)]):=OwnB.of Ho3.out rfl rfl;clear Ho3 Hg3 Hown Hb2 Hlt Hnews;have Hb3:=Lib.hid hb3;clear hb3
  have Ho3:=Lib.hid ho3;clear ho3
  go_wp2_with fail;go_loopw [5,7] (fun s5 s7 wr=>∃ (j:Nat) (q:List UInt8),j≤k∧s7=.int .i64 ((j:Int) - 1)∧s5=.slice (some ⟨w.heap.size,0,none⟩) q.length (l.length+9)∧q.length+j=l.length+1+k∧OwnB wr w.heap.size 5 s5 q∧q++bigB j n=l++numL n∧Below w.heap.size w wr) (fun _ s7 _=>(intOf s7+1).toNat)
  case atStart=>exact ⟨k,l++[UInt8.ofNat (247+k)],Nat.le_refl _,rfl,by simp,by simp,Ho3.out,by rw [Hnum.out];simp,Hb3.out⟩
  case round =>
   clear Ho3 Hb3;obtain ⟨j,q,hj,rfl,rfl,hql,ho,hq,hb⟩:=hrel;have Ho:=Lib.hid ho;clear ho
   have Hq:=Lib.hid hq;clear hq
   have Hb:=Lib.hid hb;clear hb
   match j with
   | 0 =>
    go_wp2_with fail;go_ret;refine ⟨_,rfl,?_,Hb.out⟩;have e:=Hq.out;simp only [bigB,List.append_nil] at e;rw [← e];exact Ho.out
   | i+1 =>
    have hi:((i+1:Nat):Int) - 1=(i:Int):=by omega
    rw [hi];clear hi;have hi0':(0:Int)≤(i:Int):=by omega
    have hi7:(i:Int)≤7:=by omega
    have hnews:bcells [UInt8.ofNat (n / 256 ^ i)]=[.int .u8 ((n:Int) / 2 ^ (8*i) % 256)]:=by
     have e:(2:Nat) ^ (8*i)=256 ^ i:=by rw [Nat.pow_mul]
     simp [bcells, ← e]
    have Hnews:=Lib.hid hnews;clear hnews
    have Hlt:=Lib.hid (show w.heap.size≤wr.heap.size from Hb.out.size);go_wp2_with (at_builtin;refine wpList_append_fits _ rfl _ _ 44 rfl w.heap.size 5 i0 1 Tryz.underlying44 hi0 hs0 w.heap.size q.length (l.length+9) (bcells q) rfl (World.ownsRow.alloc Ho.out _) ⟨wr.heap.size,0,none⟩ 1 1 (bcells [UInt8.ofNat (n / 256 ^ i)]) rfl rfl (by rw [Hnews.out];exact cells_one _ _ _) (bcells_one _) (by omega) ?_;intro w4 ho4 hg4;have Hg4:=Lib.hid hg4;clear hg4;have Ho4:=Lib.hid ho4;clear ho4);go_roundw
    case rel =>
     refine ⟨i,q++[UInt8.ofNat (n / 256 ^ i)],by omega,rfl,by simp,by rw [List.length_append];show q.length+1+i=_;omega,OwnB.of Ho4.out rfl rfl,?_,below_grown Hg4.out (Hb.out.alloc Hlt.out _) (by simp;have:=Hlt.out;omega) (fun k hk=>by cases hk;exact Nat.le_refl _)⟩;rw [← Hq.out];simp [bigB]
    case measure=>simp [intOf]
theorem str_len (s:ByteArray):s.data.toList.length=s.size:=by rw [Array.length_toList];rfl
def strL (s:ByteArray):List UInt8:=numL s.size++s.data.toList
theorem strL_len (s:ByteArray):(strL s).length≤s.size+9:=by
 have h:=(numL_len s.size).1;have e:=str_len s;unfold strL;rw [List.length_append,e];omega
set_option maxHeartbeats 4000000 in
theorem str_any (v:Value) (l:List UInt8) (s:ByteArray) (hl:l.length+s.size≤1099511627776) (w:World) (h:ReadB w v l) :
  Calls Tryz.prog 56 #[v,.string s] w fun e w'=>∃ v',e=.returned v'∧OwnB w' w.heap.size 5 v' (l++strL s)∧Below w.heap.size w w':=by
 obtain ⟨i0,hi0,hz0,hs0,hb0⟩:=info_parts info8;have Hn:=Lib.hid (num_any v l s.size (by omega) (by omega) w h);clear h
 have hn9:=(numL_len s.size).1;have hlen:=str_len s;go_enter Tryz.func56,Tryz.ntmps56
 go_wp2_with (first
  | ((with_reducible refine Hn.out.mono ?_);rintro e w1 ⟨v1,rfl,ho1,hb1⟩;have Ho1:=Lib.hid ho1;clear ho1;have Hb1:=Lib.hid hb1;clear hb1)
  | (at_builtin;refine Lib.wpList_append_own_string _ rfl _ _ 44 9 rfl w.heap.size 5 i0 Tryz.underlying44 Tryz.underlying9 hi0 hz0 hs0 hb0 _ _ _ rfl Ho1.out s rfl (by rw [List.length_append];unfold maxLen;omega) (by rw [List.length_append];omega) Hb1.out.size ?_;intro v2 w2 ho2 hg2 hn2;have Ho2:=Lib.hid ho2;clear ho2;have Hg2:=Lib.hid hg2;clear hg2 hn2))
 go_ret;refine ⟨_,rfl,?_,?_⟩
 ·
  unfold strL;rw [← List.append_assoc];exact OwnB.of Ho2.out (by rw [hlen]) (by rw [bcells_str])
 ·
  exact below_grown Hg2.out Hb1.out Hb1.out.size (fun k hk=>(World.ownsRow.lt Ho1.out k hk).1)
end Go.Proofs.YtbckjgageofldaaGreat
