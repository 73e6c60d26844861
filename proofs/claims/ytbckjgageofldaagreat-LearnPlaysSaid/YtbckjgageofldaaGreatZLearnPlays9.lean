/- A law on regions that draw their order, inside a fence: what only reads is taken as early as it may come up, in every world of a class R that the region's own turns do not leave; what turns the world comes up alone. No condition. -/
import Derived.OrdersHeld
import Derived.OrdersIn
import Derived.RangeFuncKeeps
import Derived.RangeFuncBound
import Derived.RangeFuncLeaves
import Derived.RangeFuncNested
import Derived.RangeFuncCalls
import Derived.Shelf.Abstract
import Derived.Shelf.RegionOpen
import Derived.OwnWalkIn
import Derived.TacticsInMore
import Derived.LoopNIn
import Derived.LoopIn
import Derived.Test.YtbckjgageofldaaGreatZLearnPlays6
import Derived.RangeFuncFrom
import Derived.Laws.EntriesVeiled
import Derived.IntWalk
import Derived.Test.YtbckjgageofldaaGreatZLearnPlays7
set_option maxRecDepth 100000
namespace Go.Proofs.YtbckjgageofldaaGreat.RegIn
open Go
section
variable {F : Fence} {n : Nat} {P : Program} {ops : Array Oper} {Q : Exit → Act → World → Prop} {md : Region.Mode}
def noCall (o:Oper):Bool:=match o.op with
 | .call c=>(match c.callee with | .builtin _=>true | _=>false)
 | _=>true
theorem about_none {o:Oper} (h:noCall o=true) (w:World) (ρ:Operand→Value):o.about P w ρ=none:=by
 unfold noCall at h;unfold Oper.about;cases ho:o.op <;> rw [ho] at h <;> first | rfl | skip
 rename_i c
 simp only at h ⊢;cases hc:c.callee <;> rw [hc] at h <;> first | (cases h;done) | skip
 simp [resolve,hc,Target.leads]
theorem yif_op {R:World→Prop} {i:Nat} {o:Oper} {v:Value} {a:Act} (hro:F.round=none) (hi:ops[i]?=some o) (hy:YieldsIf P ops R o v a) (hc:noCall o=true)
  {K:Act→World→Prop} {w:World} (hR:R w) (h:K (a.put o.dst v) w):wpOpIn F n P ops Q i K a w:=by
 unfold Go.wpOpIn;simp only [hi];have hab:∀ f,o.about P w a.eval=some f→F.fn f:=fun f hf=>by rw [about_none hc] at hf;cases hf
 rcases hy with ⟨hw,hv⟩ | ⟨hw,rfl⟩
 ·
  simp only [hw,if_true,Oper.wpIn,hro,Oper.semAt_none,hv w hR,Oper.uponIn];exact ⟨hab,h⟩
 ·
  simp only [hw,Bool.false_eq_true,if_false];exact ⟨hab,h⟩
theorem putIf {R:World→Prop} {j:Nat} {oi oj:Oper} {v:Value} (hro:F.round=none) (hj:ops[j]?=some oj) (hap:oi.apart ops oj=true)
  (hsi:∀ cs b,oi.op≠.select cs b) (hsj:∀ cs b,oj.op≠.select cs b)
  (hQ:∀ c a w,Q (.panic c) (a.put oi.dst v) w→Q (.panic c) a w) {K:Act→World→Prop} {a:Act} {w:World}
  (hy:YieldsIf P ops R oi v a) (h:wpOpIn F n P ops Q j K (a.put oi.dst v) w) :
  wpOpIn F n P ops Q j (fun a' w'=>YieldsIf P ops R oi v a'∧K (a'.put oi.dst v) w') a w:=by
 obtain ⟨h1,h2,h3⟩:=Oper.apart_spec hap;have keep:∀ (a:Act),YieldsIf P ops R oi v a→∀ u,YieldsIf P ops R oi v (a.put oj.dst u):=fun a hy u =>
  hy.of_same (execOp_put oi hsi a oj.dst u h3) (wanted_put oi a oj.dst u h3)
 have keepD:∀ d,YieldsIf P ops R oi v { a with defers:=d::a.defers }:=fun d=>hy.of_same rfl rfl
 unfold wpOpIn at *
 simp only [hj] at *
 rw [wanted_put oj a oi.dst v h1,about_put oj w a oi.dst v h1] at h;split
 ·
  rename_i hw
  simp only [hw,if_true] at h;unfold Oper.wpIn at *
  rw [about_put oj w a oi.dst v h1] at h;refine ⟨h.1,?_⟩;have h:=h.2;rw [hro,Oper.semAt_none,execOp_put oj hsj a oi.dst v h1] at h;rw [hro,Oper.semAt_none];generalize (execOp a.eval oj).run P w=r at *;cases r with
  | ok x w' =>
   cases x <;> simp only [Oper.uponIn] at h ⊢
   case value u=>exact ⟨keep a hy u,by rw [← Act.put_comm a v u h2];exact h⟩
   case skip=>exact ⟨keep a hy _,by rw [← Act.put_comm a v undef h2];exact h⟩
   case defer d =>
    refine ⟨keep _ (keepD d) _,?_⟩;rw [← Act.put_comm _ v undef h2, ← Act.put_defers];exact h
   case enter f args =>
    refine ⟨h.1,CallsIn.mono h.2 fun e w'' he=>?_⟩;cases e with
    | returned u=>exact ⟨keep a hy u,by rw [← Act.put_comm a v u h2];exact he⟩
    | panicked c=>exact hQ _ _ _ he
    | outgrown=>exact he
   case row row args=>exact ⟨h.1,RowsIn.mono h.2 fun u w'' he=>⟨keep a hy u,by rw [← Act.put_comm a v u h2];exact he⟩⟩
   case round l f tmps assign body =>
    refine ⟨h.1,RoundIn.mono h.2 fun e w'' he=>?_⟩;cases e with
    | returned u=>exact ⟨keep a hy u,by rw [← Act.put_comm a v u h2];exact he⟩
    | panicked c=>exact hQ _ _ _ he
    | outgrown=>exact he
  | halt x w' =>
   cases x <;> simp only [Oper.uponIn] at h ⊢
   case panic u=>exact hQ _ _ _ h
 ·
  rename_i hw
  simp only [hw] at h;exact ⟨h.1,keep a hy _,by rw [← Act.put_comm a v undef h2];exact h.2⟩
def onsOf (md:Region.Mode) (ops:Array Oper) (j:Nat):List Nat:=match ops[j]? with
 | some o=>(o.after.toList.filter (Region.binds md)).map (·.on)
 | none=>[]
def back (md:Region.Mode) (ops:Array Oper):Nat→List Nat→List Nat
 | 0,l=>l
 | i+1,l=>back md ops i (if l.contains i then onsOf md ops i++l else l)
def Closed (md:Region.Mode) (ops:Array Oper) (listed:Array Bool):Prop:=∀ j,listed.getD j false=true→∀ e ∈ onsOf md ops j,listed.getD e false=true
theorem back_listed {listed:Array Bool} (h:Closed md ops listed):∀ (m:Nat) (l:List Nat),(∀ j ∈ l,listed.getD j false=true)→∀ j ∈ back md ops m l,listed.getD j false=true
 | 0,_,hl,j,hj=>hl j hj
 | m+1,l,hl,j,hj=>back_listed h m _ (fun k hk=>by
   split at hk
   ·
    rename_i hc
    rcases List.mem_append.1 hk with hk | hk
    ·
     exact h m (hl m (by simpa using hc)) k hk
    ·
     exact hl k hk
   ·
    exact hl k hk) j hj
theorem ready_ons {listed:Array Bool} {j:Nat} (h:j ∈ Region.ready md ops listed):∀ e ∈ onsOf md ops j,listed.getD e false=true:=by
 obtain ⟨_,o,ho,hall⟩:=mem_ready.1 h;intro e he;simp only [onsOf,ho,List.mem_map,List.mem_filter] at he;obtain ⟨q,⟨h1,h2⟩,rfl⟩:=he;exact hall q (by simpa using h1) h2
theorem Closed.set {listed:Array Bool} {i:Nat} (h:Closed md ops listed) (hi:i ∈ Region.ready md ops listed):Closed md ops (listed.setIfInBounds i true):=by
 intro j hj e he;by_cases hij:i=j
 ·
  subst hij;exact getD_set_true (ready_ons hi e he)
 ·
  rw [getD_set_ne false hij] at hj;exact getD_set_true (h j hj e he)
theorem Closed.none (n:Nat):Closed md ops (Array.replicate n false):=by
 intro j hj;have:(Array.replicate n false).getD j false=false:=by
  simp only [Array.getD_eq_getD_getElem?,Array.getElem?_replicate];split <;> rfl
 rw [this] at hj;cases hj
theorem bar_not {bar:Nat→Bool} {listed:Array Bool} {i j:Nat} (h:Closed md ops listed) (hj:j ∈ Region.ready md ops listed) (hi:i ∈ Region.ready md ops listed)
  (hb:bar j=true→i ∈ back md ops ops.size (onsOf md ops j)):bar j=false:=by
 rw [Bool.eq_false_iff];intro hbj;obtain ⟨h0,o,ho,_⟩:=mem_ready.1 hi;have h4:=back_listed h _ _ (ready_ons hj) i (hb hbj);rcases Nat.lt_or_ge i listed.size with h' | h'
 ·
  simp [h'] at h0 h4;rw [h0] at h4;cases h4
 ·
  simp [Array.getElem?_eq_none h'] at h4
def Into (b:Bool) (R:World→Prop) (K:(World→Prop)→Act→World→Prop) (a:Act) (w:World):Prop:=∃ R':World→Prop,R' w∧(b=true∨R'=R)∧K R' a w
def anyR (bar:Nat→Bool) (F:Fence) (n:Nat) (P:Program) (md:Region.Mode) (ops:Array Oper) (Q:Exit→Act→World→Prop):Nat→Array Bool→(World→Prop)→Act→World→Prop
 | 0,listed,_,a,w=>Region.ready md ops listed=[]∧Q .normal a w
 | fuel+1,listed,R,a,w=>(Region.ready md ops listed=[]→Q .normal a w) ∧
   ∀ i ∈ Region.ready md ops listed,wpOpIn F n P ops Q i (Into (bar i) R (fun R' a' w'=>anyR bar F n P md ops Q fuel (listed.setIfInBounds i true) R' a' w')) a w
theorem any_of {bar:Nat→Bool}:∀ (fuel:Nat) (listed:Array Bool) (R:World→Prop) (a:Act) (w:World),anyR bar F n P md ops Q fuel listed R a w→wpAnyIn F n P md ops Q fuel listed a w
 | 0,_,_,_,_,h=>h
 | fuel+1,_,_,_,_,h=>⟨h.1,fun i hi=>wpOpIn_mono (fun a' w' ⟨R',_,_,h3⟩=>any_of fuel _ R' a' w' h3) (h.2 i hi)⟩
theorem first {bar:Nat→Bool} {i:Nat} {oi:Oper} {v:Value} (hro:F.round=none) (hi:ops[i]?=some oi) (hc:noCall oi=true) (hsel:∀ (j:Nat) (o:Oper) cs b,ops[j]?=some o→o.op≠.select cs b)
  (hQ:∀ c a w,Q (.panic c) (a.put oi.dst v) w→Q (.panic c) a w) :
  ∀ (fuel:Nat) (listed:Array Bool) (R:World→Prop) (a:Act) (w:World),
   (∀ j oj,ops[j]?=some oj→j≠i→listed.getD j true=false→(∀ e ∈ oj.after,Region.binds md e=true→e.on≠i)→oi.apart ops oj=true) →
   (∀ j,listed.getD j true=false→j≠i→bar j=true→i ∈ back md ops ops.size (onsOf md ops j))→Closed md ops listed→i ∈ Region.ready md ops listed→R w→YieldsIf P ops R oi v a →
   anyR bar F n P md ops Q fuel (listed.setIfInBounds i true) R (a.put oi.dst v) w→anyR bar F n P md ops Q (fuel+1) listed R a w:=by
 intro fuel;induction fuel with
 | zero =>
  intro listed R a w _ _ _ hr hR hy H;refine ⟨fun h=>(by rw [h] at hr;cases hr),fun j hj=>?_⟩;by_cases hji:j=i
  ·
   subst hji;exact yif_op hro hi hy hc hR ⟨R,hR,.inr rfl,H⟩
  ·
   have:=ready_mono hj hji;rw [H.1] at this;cases this
 | succ fuel ih =>
  intro listed R a w hfree hbar hcl hr hR hy H;refine ⟨fun h=>(by rw [h] at hr;cases hr),fun j hj=>?_⟩;by_cases hji:j=i
  ·
   subst hji;exact yif_op hro hi hy hc hR ⟨R,hR,.inr rfl,H⟩
  ·
   have h1:=H.2 j (ready_mono hj hji);obtain ⟨hjun,oj,hoj,hall⟩:=mem_ready.1 hj;have hnot:∀ e ∈ oj.after,Region.binds md e=true→e.on≠i:=fun e he hb heq=>by
    have h1:=hall e he hb;have h0:=(mem_ready.1 hr).1;rw [heq] at h1;rcases Nat.lt_or_ge i listed.size with h' | h'
    ·
     simp [h'] at h0 h1;rw [h0] at h1;cases h1
    ·
     simp [Array.getElem?_eq_none h'] at h1
   have hb:bar j=false:=bar_not hcl hj hr (hbar j hjun hji);have h2:=putIf hro hoj (hfree j oj hoj hji hjun hnot) (fun cs b=>hsel i oi cs b hi) (fun cs b=>hsel j oj cs b hoj) hQ hy h1;have hfree':∀ k ok,ops[k]?=some ok→k≠i→(listed.setIfInBounds j true).getD k true=false →
     (∀ e ∈ ok.after,Region.binds md e=true→e.on≠i)→oi.apart ops ok=true:=fun k ok hk hki hun hno=>by
    refine hfree k ok hk hki ?_ hno;by_cases hjk:j=k
    ·
     subst hjk;exact hjun
    ·
     rw [getD_set_ne true hjk] at hun;exact hun
   have hbar':∀ k,(listed.setIfInBounds j true).getD k true=false→k≠i→bar k=true→i ∈ back md ops ops.size (onsOf md ops k):=fun k hun hki hbk=>by
    refine hbar k ?_ hki hbk;by_cases hjk:j=k
    ·
     subst hjk;exact hjun
    ·
     rw [getD_set_ne true hjk] at hun;exact hun
   refine wpOpIn_mono (fun a' w' ⟨hy',R',hR',hor,hK⟩=>?_) h2;obtain rfl:R'=R:=hor.resolve_left (by simp [hb]);refine ⟨R',hR',.inr rfl,ih (listed.setIfInBounds j true) R' a' w' hfree' hbar' (hcl.set hj) (ready_mono hr (Ne.symm hji)) hR' hy' ?_⟩;rw [Array.setIfInBounds_comm _ _ hji];exact hK
def can (F:Fence) (n:Nat) (P:Program) (ops:Array Oper) (Q:Exit→Act→World→Prop):List (Oper × Nat)→(World→Prop)→Act→World→Prop
 | [],_,a,w=>Q .normal a w
 | (o,0)::r,R,a,w =>
  if Region.wanted o (yielded ops a.tmps) then ∃ v,(∀ x,R x→(execOp a.eval o).run P x=.ok (.value v) x)∧can F n P ops Q r R (a.put o.dst v) w
  else can F n P ops Q r R (a.put o.dst undef) w
 | (o,1)::r,R,a,w =>
  if Region.wanted o (yielded ops a.tmps) then o.wpIn F n P a w (fun a' w'=>R w'∧can F n P ops Q r R a' w') Q
  else (∀ f,o.about P w a.eval=some f→F.fn f)∧can F n P ops Q r R (a.put o.dst undef) w
 | (o,_+2)::r,R,a,w =>
  if Region.wanted o (yielded ops a.tmps) then o.wpIn F n P a w (fun a' w'=>∃ R':World→Prop,R' w'∧can F n P ops Q r R' a' w') Q
  else (∀ f,o.about P w a.eval=some f→F.fn f)∧can F n P ops Q r R (a.put o.dst undef) w
def canB (bar:Nat→Bool) (md:Region.Mode) (ops:Array Oper):List (Nat × Nat)→Array Bool→Bool
 | [],listed=>(Region.ready md ops listed).isEmpty
 | (k,0)::r,listed=>(Region.ready md ops listed).contains k && Region.free md ops listed k && (match ops[k]? with | some o=>noCall o | none=>false) &&
   ((List.range ops.size).all fun j=>listed.getD j true || j == k || !bar j || (back md ops ops.size (onsOf md ops j)).contains k) && canB bar md ops r (listed.setIfInBounds k true)
 | (k,1)::r,listed=>Region.ready md ops listed == [k] && !bar k && canB bar md ops r (listed.setIfInBounds k true)
 | (k,_+2)::r,listed=>Region.ready md ops listed == [k] && bar k && canB bar md ops r (listed.setIfInBounds k true)
def pick (l:List Oper):List (Nat × Nat)→List (Oper × Nat)
 | []=>[]
 | (k,e)::r=>match l[k]? with | some o=>(o,e)::pick l r | none=>[]
theorem bar_spec {bar:Nat→Bool} {listed:Array Bool} {k:Nat} (h:((List.range ops.size).all fun j=>listed.getD j true || j == k || !bar j || (back md ops ops.size (onsOf md ops j)).contains k)=true) (hsz:listed.size≤ops.size) :
  ∀ j,listed.getD j true=false→j≠k→bar j=true→k ∈ back md ops ops.size (onsOf md ops j):=by
 intro j h1 h2 h3;have hj:j<ops.size:=by
  rcases Nat.lt_or_ge j listed.size with h' | h'
  ·
   omega
  ·
   simp [Array.getElem?_eq_none h'] at h1
 have:=List.all_eq_true.1 h j (List.mem_range.2 hj);rw [h1,h3] at this;simpa [h2] using this
theorem any_can {bar:Nat→Bool} (hro:F.round=none) (hs:Region.noSelect ops=true) (hQ:∀ c a d v w,Q (.panic c) (Act.put a d v) w→Q (.panic c) a w):∀ (r:List (Nat × Nat)) (listed:Array Bool) (R:World→Prop) (a:Act) (w:World),
  listed.size=ops.size→Closed md ops listed→canB bar md ops r listed=true→r.all (fun p=>decide (p.1<ops.size))=true→R w→can F n P ops Q (pick ops.toList r) R a w→anyR bar F n P md ops Q r.length listed R a w
 | [],_,_,_,_,_,_,hB,_,_,h=>⟨by simpa [canB] using hB,h⟩
 | (k,0)::r,listed,R,a,w,hsz,hcl,hB,hl,hR,h=>by
  simp only [List.all_cons,Bool.and_eq_true,decide_eq_true_eq] at hl;obtain ⟨hk,hl'⟩:=hl;have h0:ops[k]?=some ops[k]:=Array.getElem?_eq_getElem hk;have h0':ops.toList[k]?=some ops[k]:=by simp [hk]
  simp only [canB,Bool.and_eq_true,h0] at hB;obtain ⟨⟨⟨⟨hr,hf⟩,hc⟩,hbar⟩,hB'⟩:=hB;have hsz':(listed.setIfInBounds k true).size=ops.size:=by simpa using hsz
  have hcl':=hcl.set (i:=k) (by simpa using hr);have hbs:=bar_spec hbar (Nat.le_of_eq hsz);simp only [pick,h0',can] at h;by_cases hw:Region.wanted ops[k] (yielded ops a.tmps)=true
  ·
   simp only [hw,if_true] at h;obtain ⟨v,hv,hK⟩:=h;exact first hro h0 hc (Region.noSelect_spec hs) (fun c a w=>hQ c a _ _ w) r.length listed R a w (Region.free_spec h0 hf) hbs hcl (by simpa using hr) hR (.inl ⟨hw,hv⟩) (any_can hro hs hQ r _ R _ w hsz' hcl' hB' hl' hR hK)
  ·
   simp only [hw] at h;exact first hro h0 hc (Region.noSelect_spec hs) (fun c a w=>hQ c a _ _ w) r.length listed R a w (Region.free_spec h0 hf) hbs hcl (by simpa using hr) hR (.inr ⟨by simpa using hw,rfl⟩) (any_can hro hs hQ r _ R _ w hsz' hcl' hB' hl' hR h)
 | (k,1)::r,listed,R,a,w,hsz,hcl,hB,hl,hR,h=>by
  simp only [canB,Bool.and_eq_true,beq_iff_eq,Bool.not_eq_true'] at hB;obtain ⟨⟨hr,hbk⟩,hB'⟩:=hB;simp only [List.all_cons,Bool.and_eq_true,decide_eq_true_eq] at hl;obtain ⟨hk,hl'⟩:=hl;have h0:ops[k]?=some ops[k]:=Array.getElem?_eq_getElem hk;have h0':ops.toList[k]?=some ops[k]:=by simp [hk]
  have hsz':(listed.setIfInBounds k true).size=ops.size:=by simpa using hsz
  have hcl':=hcl.set (i:=k) (by rw [hr];simp);simp only [pick,h0',can] at h;refine ⟨fun h=>(by rw [hr] at h;cases h),fun j hj=>?_⟩;rw [hr] at hj;obtain rfl:j=k:=by simpa using hj
  unfold wpOpIn;simp only [h0];by_cases hw:Region.wanted ops[j] (yielded ops a.tmps)=true
  ·
   simp only [hw,if_true] at h ⊢;exact Oper.wpIn_mono (fun a' w' ⟨g1,g2⟩=>⟨R,g1,.inr rfl,any_can hro hs hQ r _ R a' w' hsz' hcl' hB' hl' g1 g2⟩) h
  ·
   simp only [hw] at h ⊢;exact ⟨h.1,R,hR,.inr rfl,any_can hro hs hQ r _ R _ w hsz' hcl' hB' hl' hR h.2⟩
 | (k,m+2)::r,listed,R,a,w,hsz,hcl,hB,hl,hR,h=>by
  simp only [canB,Bool.and_eq_true,beq_iff_eq] at hB;obtain ⟨⟨hr,hbk⟩,hB'⟩:=hB;simp only [List.all_cons,Bool.and_eq_true,decide_eq_true_eq] at hl;obtain ⟨hk,hl'⟩:=hl;have h0:ops[k]?=some ops[k]:=Array.getElem?_eq_getElem hk;have h0':ops.toList[k]?=some ops[k]:=by simp [hk]
  have hsz':(listed.setIfInBounds k true).size=ops.size:=by simpa using hsz
  have hcl':=hcl.set (i:=k) (by rw [hr];simp);simp only [pick,h0',can] at h;refine ⟨fun h=>(by rw [hr] at h;cases h),fun j hj=>?_⟩;rw [hr] at hj;obtain rfl:j=k:=by simpa using hj
  unfold wpOpIn;simp only [h0];by_cases hw:Region.wanted ops[j] (yielded ops a.tmps)=true
  ·
   simp only [hw,if_true] at h ⊢;exact Oper.wpIn_mono (fun a' w' ⟨R',g1,g2⟩=>⟨R',g1,.inl hbk,any_can hro hs hQ r _ R' a' w' hsz' hcl' hB' hl' g1 g2⟩) h
  ·
   simp only [hw] at h ⊢;exact ⟨h.1,R,hR,.inr rfl,any_can hro hs hQ r _ R _ w hsz' hcl' hB' hl' hR h.2⟩
structure Can (F:Fence) (n:Nat) (P:Program) (ops:Array Oper) (Q:Exit→Act→World→Prop) (l:List (Oper × Nat)) (R:World→Prop) (a:Act) (w:World):Prop where
 out:can F n P ops Q l R a w
def barOf (σ:List (Nat × Nat)) (j:Nat):Bool:=σ.any fun p=>p.1 == j && decide (2≤p.2)
theorem wpIn_region_can (R:World→Prop) (σ:List (Nat × Nat)) {id:Nat} {a:Act} {w:World} {l:List Oper} (hro:F.round=none) (hm:P.follows .mixedOrders=true)
  (hB:(Region.noSelect l.toArray && canB (barOf σ) .any l.toArray σ (Array.replicate l.length false) && σ.all (fun p=>decide (p.1<l.length)) && (σ.length == l.length))=true)
  (hQ:∀ c a d v w,Q (.panic c) (Act.put a d v) w→Q (.panic c) a w)
  (hR:R { w with drawn:=w.drawn+1 })
  (h:Can F n P l.toArray Q (pick l σ) R a { w with drawn:=w.drawn+1 }):(Code.region id l.toArray true).wpIn F n P Q a w:=by
 simp only [Bool.and_eq_true,beq_iff_eq] at hB;obtain ⟨⟨⟨h1,h2⟩,h3⟩,h4⟩:=hB;refine wpIn_region_any hm (any_of (bar:=barOf σ) _ _ R _ _ ?_);have:=any_can (bar:=barOf σ) (F:=F) (n:=n) (P:=P) (ops:=l.toArray) (md:=.any) (Q:=Q) hro h1 hQ σ (Array.replicate l.length false) R a _ (by simp) (Closed.none _) h2 (by simpa using h3) hR (by simpa using h.out);simpa [h4] using this
def noPanic (Q:Exit→Act→World→Prop):Exit→Act→World→Prop
 | .panic _,_,_=>False
 | e,a,w=>Q e a w
theorem can_reads {R:World→Prop} {a:Act} {w:World} {o:Oper} {r:List (Oper × Nat)}
  (h:∀ K:Act→Prop,(∀ a,Can F n P ops Q r R a w→K a)→if Region.wanted o (yielded ops a.tmps) then ∃ v,(∀ x,R x→(execOp a.eval o).run P x=.ok (.value v) x)∧K (a.put o.dst v) else K (a.put o.dst undef)) :
  Can F n P ops Q ((o,0)::r) R a w:=⟨h _ (fun _ h=>h.out)⟩
theorem can_frees {R:World→Prop} {a:Act} {w:World} {o:Oper} {r:List (Oper × Nat)}
  (h:∀ (K:Act→World→Prop) (K0:Act→Prop),(∀ (R':World→Prop) a w,R' w→Can Fence.wide n P ops Q r R' a w→K a w)→(∀ a,Can Fence.wide n P ops Q r R a w→K0 a) →
   if Region.wanted o (yielded ops a.tmps) then o.wpIn Fence.wide n P a w K Q else K0 (a.put o.dst undef)) :
  Can Fence.wide n P ops Q ((o,2)::r) R a w:=by
 have h':=h (fun a' w'=>∃ R':World→Prop,R' w'∧can Fence.wide n P ops Q r R' a' w') (fun a=>can Fence.wide n P ops Q r R a w) (fun R' _ _ h1 h2=>⟨R',h1,h2.out⟩) (fun _ h=>h.out);refine ⟨?_⟩;simp only [can];split
 ·
  rename_i hw;rw [if_pos hw] at h';exact h'
 ·
  rename_i hw;rw [if_neg hw] at h';exact ⟨fun _ _=>trivial,h'⟩
theorem can_nil {R:World→Prop} {a:Act} {w:World} (h:Q .normal a w):Can F n P ops Q [] R a w:=⟨h⟩
theorem can_calm {R:World→Prop} {a:Act} {w:World} (h:Q .normal a w):Can F n P ops (noPanic Q) [] R a w:=⟨h⟩
end
end Go.Proofs.YtbckjgageofldaaGreat.RegIn
namespace Go.Proofs.YtbckjgageofldaaGreat
open Go.RowKit Go.Shelf
attribute [local go_sem] Oper.semAt_some
theorem room_none {F:Fence} (hd:F.depth=none) (k:Nat):F.room k:=fun d h=>by rw [hd] at h;cases h
theorem round_any {F:Fence} (hd:F.depth=none) {m m':Nat} {P:Program} {l:Nat} {f:FuncId} {tmps:Array Value} {assign body:Code} {w:World} {R:Ending→World→Prop}
  (h:RoundIn F m P l f tmps assign body w R):RoundIn F m' P l f tmps assign body w R:=⟨h.1,fun c cs _=>h.2 c cs (room_none hd _)⟩
theorem yield_any {F:Fence} (hd:F.depth=none) {m:Nat} (m':Nat) {P:Program} {l:Nat} {args:Array Value} {W:World} {R:Ending→World→Prop} (h:YieldAt F m P l args W R):YieldAt F m' P l args W R:=by
 obtain ⟨fn,tmps,assign,body,hy,hR⟩:=h;exact ⟨fn,tmps,assign,body,hy,round_any hd hR⟩
def KeepC (n₀ Bl:Nat) (W W':World):Prop:=Below n₀ W W'∧∀ q cs t f,Bl≤q→W.heap[q]?=some (.cells cs t f)→W'.heap[q]?=some (.cells cs t f)
theorem KeepC.refl (n₀ Bl:Nat) (W:World):KeepC n₀ Bl W W:=⟨Below.refl _ _,fun _ _ _ _ _ h=>h⟩
theorem KeepC.trans {n₀ Bl:Nat} {A B C:World} (h:KeepC n₀ Bl A B) (k:KeepC n₀ Bl B C):KeepC n₀ Bl A C:=⟨h.1.trans k.1,fun q cs t f hq e=>k.2 q cs t f hq (h.2 q cs t f hq e)⟩
theorem KeepC.of_below {n₀ Bl:Nat} {W W':World} (h:Below W.heap.size W W') (hn:n₀≤W.heap.size):KeepC n₀ Bl W W' :=
 ⟨h.mono hn,fun q _ _ _ _ e=>(h.block q (Array.getElem?_eq_some_iff.1 e).1).trans e⟩
theorem keepC_b {n₀ Bl:Nat} {w:World} (hn:n₀≤w.heap.size) (W:World) (l:Nat) (o o':Obj) (hl:w.heap.size≤l) (h:W.heap[l]?=some o) (hc:o.isCells=false) (hk:o.isWalk=false):KeepC n₀ Bl W (W.putObj l o') :=
 ⟨belowK_b hn W l o o' hl h hc hk,fun q cs t f _ e=>by
  have hne:q≠l:=fun e'=>by
   subst e';rw [e] at h;cases h
   cases hc
  exact ((grownBy_putObj' W l o').block q (Array.getElem?_eq_some_iff.1 e).1 (fun e'=>hne (by cases e';rfl))).trans e⟩
structure IterAt (W:World) (l Y Wk:Nat):Prop where
 y:W.heap[Y]?=some (.cells #[.func (.yield l) #[] #[]] 196 (0,0))
 k:W.heap[Wk]?=some (.cells #[.func (.func 109) #[] #[.pointer (some ⟨Wk,0,none⟩),.pointer (some ⟨Y,0,none⟩)]] 197 (0,0))
theorem IterAt.keep {n₀ Bl:Nat} {W W':World} {l Y Wk:Nat} (h:IterAt W l Y Wk) (hk:KeepC n₀ Bl W W') (hY:Bl≤Y) (hW:Bl≤Wk):IterAt W' l Y Wk:=⟨hk.2 _ _ _ _ hY h.y,hk.2 _ _ _ _ hW h.k⟩
theorem IterAt.cells {W:World} {l Y Wk:Nat} (h:IterAt W l Y Wk):W.cell? ⟨Y,0,none⟩=some (.func (.yield l) #[] #[])∧W.cell? ⟨Wk,0,none⟩=some (.func (.func 109) #[] #[.pointer (some ⟨Wk,0,none⟩),.pointer (some ⟨Y,0,none⟩)]) :=
 ⟨cell_of_row _ _ _ _ _ _ h.y,cell_of_row _ _ _ _ _ _ h.k⟩
def Tr.kvs (T:Tr):List (ByteArray × ByteArray):=T.sh.kv
theorem TreeAt.keepC {n₀ Bl:Nat} {W W':World} {T:Tr} (h:TreeAt W T) (hk:KeepC n₀ Bl W W') (hlo:T.Lo n₀):TreeAt W' T:=h.keep hlo (fun q hq=>hk.1.block q hq)
set_option maxHeartbeats 2000000 in
theorem allWalkG_in (G:ByteArray × ByteArray→Prop) (l Y Wk n₀ Bl N:Nat) (hYB:Bl≤Y) (hWB:Bl≤Wk) (J Jx:List (ByteArray × ByteArray)→World→Prop) (hJd:∀ pre W,J pre W→J pre W.drew)
  (hY:∀ m pre x W,J pre W→pre.length<N→G x→YieldAt Fence.wide m Tryz.prog l #[.string x.1,.string x.2] W fun e W' =>
   (e=.returned (.bool true)∧J (pre++[x]) W'∧KeepC n₀ Bl W W')∨(e=.returned (.bool false)∧Jx (pre++[x]) W')) (T:Tr) :
  ∀ (n:Nat) (pre:List (ByteArray × ByteArray)) (W:World),TreeAt W T→T.Lo n₀→IterAt W l Y Wk→J pre W→pre.length+T.kvs.length≤N→(∀ p ∈ T.kvs,G p) →
   CallsIn Fence.wide n Tryz.prog 109 #[.pointer T.ptr,.pointer (some ⟨Wk,0,none⟩),.pointer (some ⟨Y,0,none⟩)] W fun e W' =>
    (e=.returned (.bool true)∧J (pre++T.kvs) W'∧KeepC n₀ Bl W W')∨(e=.returned (.bool false)∧∃ q,q <+: T.kvs∧Jx (pre++q) W'):=by
 induction T with
 | nil =>
  intro n pre W hat hlo hit hJ hN _;change CallsIn _ _ _ _ #[.pointer none,.pointer (some ⟨Wk,0,none⟩),.pointer (some ⟨Y,0,none⟩)] W _;refine callsIn_of_wp Tryz.func109 rfl trivial ?_ rfl;simp only [Tryz.ntmps109,List.size_toArray,List.length_cons,List.length_nil,Nat.reduceAdd,Nat.reduceSub,Array.replicate_succ,Array.replicate_zero,List.push_toArray,List.append_toArray,List.nil_append,List.cons_append];gi_wp2
  refine RegIn.wpIn_region_can (fun _=>True) [(0,0),(1,0),(2,0),(3,0),(4,0),(5,0),(6,0),(7,0),(8,2),(9,0),(10,0),(11,0),(12,0),(13,0),(14,0),(15,0),(16,0),(17,0),(18,0),(19,2),(20,0),(21,0),(22,0),(23,0),(24,0),(25,0),(26,0),(27,2),(28,0),(29,0),(30,0)] rfl (by kernel_rfl) (by kernel_rfl) (fun _ _ d _ _ h=>by cases d <;> exact h) trivial ?_;dsimp only [RegIn.pick,List.getElem?_cons_zero,List.getElem?_cons_succ];have hj1:=hJd _ _ hJ;have hk1:KeepC n₀ Bl W W.drew:=⟨⟨rfl,rfl,rfl,Nat.le_refl _,fun _ _=>rfl⟩,fun _ _ _ _ _ h=>h⟩;change RegIn.Can _ _ _ _ _ _ _ _ W.drew;generalize W.drew=W1 at *;iterate 8 (refine RegIn.can_reads ?_;intro K hK;go_simp;(first | (refine ⟨_,fun _ _=>rfl,hK _ ?_⟩) | (refine hK _ ?_));clear hK K)
  refine RegIn.can_frees ?_;intro K K0 hK hK0;go_simp;refine hK0 _ ?_;clear hK hK0 K K0;iterate 10 (refine RegIn.can_reads ?_;intro K hK;go_simp;(first | (refine ⟨_,fun _ _=>rfl,hK _ ?_⟩) | (refine hK _ ?_));clear hK K)
  refine RegIn.can_frees ?_;intro K K0 hK hK0;go_simp;refine hK0 _ ?_;clear hK hK0 K K0;iterate 7 (refine RegIn.can_reads ?_;intro K hK;go_simp;(first | (refine ⟨_,fun _ _=>rfl,hK _ ?_⟩) | (refine hK _ ?_));clear hK K)
  refine RegIn.can_frees ?_;intro K K0 hK hK0;go_simp;refine hK0 _ ?_;clear hK hK0 K K0;iterate 3 (refine RegIn.can_reads ?_;intro K hK;go_simp;(first | (refine ⟨_,fun _ _=>rfl,hK _ ?_⟩) | (refine hK _ ?_));clear hK K)
  refine RegIn.can_nil ?_;gi_wp2
  go_ret;exact .inl ⟨rfl,by simpa [Tr.kvs,Tr.sh,Sh.kv] using hj1,hk1⟩
 | node b k v wt tl tr ihl ihr =>
  intro n pre W hat hlo hit hJ hN hG;have hkv:(Tr.node b k v wt tl tr).kvs=tl.kvs++(k,v)::tr.kvs:=rfl;rw [hkv] at hN hG ⊢;have HG:=Lib.hid hG;clear hG
  simp only [List.length_append,List.length_cons] at hN;have Hat:=Lib.hid hat;clear hat
  have Hlo:=Lib.hid hlo;clear hlo
  have Hit:=Lib.hid hit;clear hit
  have HY:=Lib.hid hY;clear hY
  have Hl:=Lib.hid ihl;clear ihl
  have Hr:=Lib.hid ihr;clear ihr
  have HJ:=Lib.hid hJ;clear hJ
  have HJd:=Lib.hid hJd;clear hJd
  have hk0:KeepC n₀ Bl W W.drew:=⟨⟨rfl,rfl,rfl,Nat.le_refl _,fun _ _=>rfl⟩,fun _ _ _ _ _ h=>h⟩;have Hk0:=Lib.hid hk0;clear hk0
  change CallsIn _ _ _ _ #[.pointer (some ⟨b,0,none⟩),.pointer (some ⟨Wk,0,none⟩),.pointer (some ⟨Y,0,none⟩)] W _;refine callsIn_of_wp Tryz.func109 rfl trivial ?_ rfl;simp only [Tryz.ntmps109,List.size_toArray,List.length_cons,List.length_nil,Nat.reduceAdd,Nat.reduceSub,Array.replicate_succ,Array.replicate_zero,List.push_toArray,List.append_toArray,List.nil_append,List.cons_append];gi_wp2
  refine RegIn.wpIn_region_can (KeepC n₀ Bl W) [(0,0),(1,0),(2,0),(3,0),(4,0),(5,0),(6,0),(7,0),(8,2),(9,0),(10,0),(11,0),(12,0),(13,0),(14,0),(15,0),(16,0),(17,0),(18,0),(19,2),(20,0),(21,0),(22,0),(23,0),(24,0),(25,0),(26,0),(27,2),(28,0),(29,0),(30,0)] rfl (by kernel_rfl) (by kernel_rfl) (fun _ _ d _ _ h=>by cases d <;> exact h) Hk0.out ?_;dsimp only [RegIn.pick,List.getElem?_cons_zero,List.getElem?_cons_succ];have hj1:=HJd.out _ _ HJ.out;have hk1:=Hk0.out;change RegIn.Can _ _ _ _ _ _ _ _ W.drew;clear Hk0;generalize W.drew=W0 at *;have Hj1:=Lib.hid hj1;clear hj1
  have Hk1:=Lib.hid hk1;clear hk1
  iterate 3 (refine RegIn.can_reads ?_;intro K hK;go_simp;(first | (refine ⟨_,fun _ _=>rfl,hK _ ?_⟩) | (refine hK _ ?_));clear hK K)
  refine RegIn.can_reads ?_;intro K hK;go_simp;refine ⟨.func (.func 109) #[] #[.pointer (some ⟨Wk,0,none⟩),.pointer (some ⟨Y,0,none⟩)],fun y hy=>?_,hK _ ?_⟩
  ·
   have f0:=(Hit.out.keep hy hYB hWB).cells.2;go_simp
  clear hK K;iterate 3 (refine RegIn.can_reads ?_;intro K hK;go_simp;(first | (refine ⟨_,fun _ _=>rfl,hK _ ?_⟩) | (refine hK _ ?_));clear hK K)
  refine RegIn.can_reads ?_;intro K hK;go_simp;refine ⟨.pointer tl.ptr,fun y hy=>?_,hK _ ?_⟩
  ·
   obtain ⟨f0,f1,f2,f3,f4,f5,f6⟩:=(show NodeAt y b k v wt tl.ptr tr.ptr _ _ from (Hat.out.keepC hy Hlo.out).1).cells;clear f2 f5 f6;go_simp
  clear hK K;refine RegIn.can_frees ?_;intro K K0 hK hK0;go_simp;refine ⟨trivial,(fun h=>(by cases h)),?_⟩;refine (Hl.out (n - 1) pre W0 (Hat.out.2.1.keepC Hk1.out Hlo.out.2.1) Hlo.out.2.1 (Hit.out.keep Hk1.out hYB hWB) Hj1.out (by omega) (fun p hp=>HG.out p (List.mem_append_left _ hp))).mono ?_;rintro e W1 (⟨rfl,hJ1,hk2⟩ | ⟨rfl,q,hq,hx1⟩)
  ·
   have Hk2:=Lib.hid (Hk1.out.trans hk2);clear hk2
   have hy1:=HY.out (n - 1) (pre++tl.kvs) (k,v) W1 hJ1 (by simp;omega) (HG.out _ (List.mem_append_right _ (List.mem_cons_self ..)));obtain ⟨fn,tmps,assign,body,hy,hR⟩:=hy1;dsimp only at hy;have HR:=Lib.hid hR;clear hR hJ1
   refine hK (KeepC n₀ Bl W) _ _ Hk2.out ?_;clear hK hK0 K K0;iterate 1 (refine RegIn.can_reads ?_;intro K hK;go_simp;(first | (refine ⟨_,fun _ _=>rfl,hK _ ?_⟩) | (refine hK _ ?_));clear hK K)
   refine RegIn.can_reads ?_;intro K hK;go_simp;refine ⟨.func (.yield l) #[] #[],fun y hy=>?_,hK _ ?_⟩
   ·
    have f0:=(Hit.out.keep hy hYB hWB).cells.1;go_simp
   clear hK K;iterate 3 (refine RegIn.can_reads ?_;intro K hK;go_simp;(first | (refine ⟨_,fun _ _=>rfl,hK _ ?_⟩) | (refine hK _ ?_));clear hK K)
   refine RegIn.can_reads ?_;intro K hK;go_simp;refine ⟨.string k,fun y hy=>?_,hK _ ?_⟩
   ·
    obtain ⟨f0,f1,f2,f3,f4,f5,f6⟩:=(show NodeAt y b k v wt tl.ptr tr.ptr _ _ from (Hat.out.keepC hy Hlo.out).1).cells;clear f2 f5 f6;go_simp
   clear hK K;iterate 3 (refine RegIn.can_reads ?_;intro K hK;go_simp;(first | (refine ⟨_,fun _ _=>rfl,hK _ ?_⟩) | (refine hK _ ?_));clear hK K)
   refine RegIn.can_reads ?_;intro K hK;go_simp;refine ⟨.string v,fun y hy=>?_,hK _ ?_⟩
   ·
    obtain ⟨f0,f1,f2,f3,f4,f5,f6⟩:=(show NodeAt y b k v wt tl.ptr tr.ptr _ _ from (Hat.out.keepC hy Hlo.out).1).cells;clear f2 f5 f6;go_simp
   clear hK K;refine RegIn.can_frees ?_;intro K K0 hK hK0;go_simp;refine ⟨(fun h=>(by cases h)),?_⟩;refine HR.out.mono ?_;rintro e W2 (⟨rfl,hJ2,hk3⟩ | ⟨rfl,hx2⟩)
   ·
    have Hk3:=Lib.hid (Hk2.out.trans hk3);clear hk3
    have Hj2:=Lib.hid hJ2;clear hJ2 HR hy
    refine hK (KeepC n₀ Bl W) _ _ Hk3.out ?_;clear hK hK0 K K0;iterate 2 (refine RegIn.can_reads ?_;intro K hK;go_simp;(first | (refine ⟨_,fun _ _=>rfl,hK _ ?_⟩) | (refine hK _ ?_));clear hK K)
    refine RegIn.can_reads ?_;intro K hK;go_simp;refine ⟨.func (.func 109) #[] #[.pointer (some ⟨Wk,0,none⟩),.pointer (some ⟨Y,0,none⟩)],fun y hy=>?_,hK _ ?_⟩
    ·
     have f0:=(Hit.out.keep hy hYB hWB).cells.2;go_simp
    clear hK K;iterate 3 (refine RegIn.can_reads ?_;intro K hK;go_simp;(first | (refine ⟨_,fun _ _=>rfl,hK _ ?_⟩) | (refine hK _ ?_));clear hK K)
    refine RegIn.can_reads ?_;intro K hK;go_simp;refine ⟨.pointer tr.ptr,fun y hy=>?_,hK _ ?_⟩
    ·
     obtain ⟨f0,f1,f2,f3,f4,f5,f6⟩:=(show NodeAt y b k v wt tl.ptr tr.ptr _ _ from (Hat.out.keepC hy Hlo.out).1).cells;clear f2 f5 f6;go_simp
    clear hK K;refine RegIn.can_frees ?_;intro K K0 hK hK0;go_simp;refine ⟨trivial,(fun h=>(by cases h)),?_⟩;refine (Hr.out (n - 1) (pre++tl.kvs++[(k,v)]) W2 (Hat.out.2.2.keepC Hk3.out Hlo.out.2.2) Hlo.out.2.2 (Hit.out.keep Hk3.out hYB hWB) Hj2.out (by simp;omega) (fun p hp=>HG.out p (List.mem_append_right _ (List.mem_cons_of_mem _ hp)))).mono ?_;rintro e W3 (⟨rfl,hJ3,hk4⟩ | ⟨rfl,q,hq,hx3⟩)
    ·
     have Hj3:=Lib.hid hJ3;clear hJ3
     have Hk4:=Lib.hid (Hk3.out.trans hk4);clear hk4
     refine hK (fun _=>True) _ _ trivial ?_;clear hK hK0 K K0;iterate 3 (refine RegIn.can_reads ?_;intro K hK;go_simp;(first | (refine ⟨_,fun _ _=>rfl,hK _ ?_⟩) | (refine hK _ ?_));clear hK K)
     refine RegIn.can_nil ?_;gi_wp2
     go_ret;exact .inl ⟨rfl,by simpa [List.append_assoc] using Hj3.out,Hk4.out⟩
    ·
     have Hx3:=Lib.hid hx3;clear hx3
     refine hK (fun _=>True) _ _ trivial ?_;clear hK hK0 K K0;iterate 3 (refine RegIn.can_reads ?_;intro K hK;go_simp;(first | (refine ⟨_,fun _ _=>rfl,hK _ ?_⟩) | (refine hK _ ?_));clear hK K)
     refine RegIn.can_nil ?_;gi_wp2
     go_ret;exact .inr ⟨rfl,tl.kvs++(k,v)::q,(by obtain ⟨r,hr⟩:=hq;exact ⟨r,by rw [← hr];simp⟩),by simpa [List.append_assoc] using Hx3.out⟩
   ·
    have Hx2:=Lib.hid hx2;clear hx2 HR hy
    refine hK (fun _=>True) _ _ trivial ?_;clear hK hK0 K K0;iterate 7 (refine RegIn.can_reads ?_;intro K hK;go_simp;(first | (refine ⟨_,fun _ _=>rfl,hK _ ?_⟩) | (refine hK _ ?_));clear hK K)
    refine RegIn.can_frees ?_;intro K K0 hK hK0;go_simp;refine hK0 _ ?_;clear hK hK0 K K0;iterate 3 (refine RegIn.can_reads ?_;intro K hK;go_simp;(first | (refine ⟨_,fun _ _=>rfl,hK _ ?_⟩) | (refine hK _ ?_));clear hK K)
    refine RegIn.can_nil ?_;gi_wp2
    go_ret;exact .inr ⟨rfl,tl.kvs++[(k,v)],⟨tr.kvs,by simp⟩,by simpa [List.append_assoc] using Hx2.out⟩
  ·
   have Hx1:=Lib.hid hx1;clear hx1
   refine hK (fun _=>True) _ _ trivial ?_;clear hK hK0 K K0;iterate 10 (refine RegIn.can_reads ?_;intro K hK;go_simp;(first | (refine ⟨_,fun _ _=>rfl,hK _ ?_⟩) | (refine hK _ ?_));clear hK K)
   refine RegIn.can_frees ?_;intro K K0 hK hK0;go_simp;refine hK0 _ ?_;clear hK hK0 K K0;iterate 7 (refine RegIn.can_reads ?_;intro K hK;go_simp;(first | (refine ⟨_,fun _ _=>rfl,hK _ ?_⟩) | (refine hK _ ?_));clear hK K)
   refine RegIn.can_frees ?_;intro K K0 hK hK0;go_simp;refine hK0 _ ?_;clear hK hK0 K K0;iterate 3 (refine RegIn.can_reads ?_;intro K hK;go_simp;(first | (refine ⟨_,fun _ _=>rfl,hK _ ?_⟩) | (refine hK _ ?_));clear hK K)
   refine RegIn.can_nil ?_;gi_wp2
   go_ret;exact .inr ⟨rfl,q,hq.trans (by simp),Hx1.out⟩
open Go.RowKit Go.Shelf
attribute [local go_sem] Oper.semAt_some
theorem frozen_cells {w:World} {b:Nat} {cs:Array Value} {t:TypeId} (h:w.heap[b]?=some (.cells cs t (0,0))) (j:Nat):w.frozen? ⟨b,j,none⟩=false:=by simp [World.frozen?,h]
set_option maxHeartbeats 1000000 in
theorem all1G_in (G:ByteArray × ByteArray→Prop) (n l Bt n₀ Bl:Nat) (T:Tr) (J Jx:List (ByteArray × ByteArray)→World→Prop) (B0:Nat) (hJ:AbidesFrom B0 J)
  (hY:∀ m pre x W,J pre W→pre.length<T.kvs.length→G x→YieldAt Fence.wide m Tryz.prog l #[.string x.1,.string x.2] W fun e W' =>
   (e=.returned (.bool true)∧J (pre++[x]) W'∧KeepC n₀ Bl W W')∨(e=.returned (.bool false)∧Jx (pre++[x]) W'))
  (W:World) (hBl:Bl≤W.heap.size) (_:n₀≤W.heap.size) (hBt:W.cell? ⟨Bt,0,none⟩=some (.pointer T.ptr)) (hat:TreeAt W T) (hlo:T.Lo n₀) (h0:J [] W) (hG:∀ p ∈ T.kvs,G p) :
  CallsIn Fence.wide n Tryz.prog 108 #[.func (.yield l) #[] #[],.pointer (some ⟨Bt,0,none⟩)] W fun e W'=>(∃ v,e=.returned v) ∧
   ((∃ ys,ys=T.kvs∧J ys W')∨(∃ pre,pre <+: T.kvs∧Jx pre W')):=by
 have HY:=Lib.hid hY;clear hY
 have Hat:=Lib.hid hat;clear hat
 have Hlo:=Lib.hid hlo;clear hlo
 have hJd:∀ pre W,J pre W→J pre W.drew:=fun pre W h=>hJ pre W _ none h ⟨rfl,rfl,rfl,Nat.le_refl _,fun _ _ _=>rfl⟩ (fun r e=>by cases e)
 obtain ⟨P,hP⟩:∃ P,T.ptr=P:=⟨_,rfl⟩;rw [hP] at hBt;have HP:=Lib.hid hP;clear hP
 have hs1:(W.alloc (.cells #[.func (.yield l) #[] #[]] 196)).heap.size=W.heap.size+1:=by simp
 have hb3:Below W.heap.size W ((W.alloc (.cells #[.func (.yield l) #[] #[]] 196)).alloc (.cells #[(.func (.func 109) #[] #[.pointer (some ⟨W.heap.size+1,0,none⟩),.pointer (some ⟨W.heap.size,0,none⟩)])] 197)):=((Below.refl _ _).alloc (Nat.le_refl _) _).alloc (by simp) _;have hi3:IterAt ((W.alloc (.cells #[.func (.yield l) #[] #[]] 196)).alloc (.cells #[(.func (.func 109) #[] #[.pointer (some ⟨W.heap.size+1,0,none⟩),.pointer (some ⟨W.heap.size,0,none⟩)])] 197)) l W.heap.size (W.heap.size+1) :=
  ⟨(Below.heap_alloc _ _ _ (by simp)).trans (heap_alloc_new W _),by
   have:=heap_alloc_new (W.alloc (.cells #[.func (.yield l) #[] #[]] 196)) (.cells #[(.func (.func 109) #[] #[.pointer (some ⟨W.heap.size+1,0,none⟩),.pointer (some ⟨W.heap.size,0,none⟩)])] 197);rwa [hs1] at this⟩
 have hc1:=hi3.cells.2;have hc2:((W.alloc (.cells #[.func (.yield l) #[] #[]] 196)).alloc (.cells #[(.func (.func 109) #[] #[.pointer (some ⟨W.heap.size+1,0,none⟩),.pointer (some ⟨W.heap.size,0,none⟩)])] 197)).cell? ⟨Bt,0,none⟩=some (.pointer P):=by
  have hlt:Bt<W.heap.size:=by
   rcases Nat.lt_or_ge Bt W.heap.size with h | h
   ·
    exact h
   ·
    simp [World.cell?,Array.getElem?_eq_none h] at hBt
  exact (hb3.cell (p:=⟨Bt,0,none⟩) hlt).trans hBt
 have hj3:J [] ((W.alloc (.cells #[.func (.yield l) #[] #[]] 196)).alloc (.cells #[(.func (.func 109) #[] #[.pointer (some ⟨W.heap.size+1,0,none⟩),.pointer (some ⟨W.heap.size,0,none⟩)])] 197)):=hJ _ _ _ none h0 ⟨hb3.os,hb3.tape,hb3.output,hb3.size,fun q hq _=>hb3.block q hq⟩ (fun r e=>by cases e);have Hw:=Lib.hid (allWalkG_in G l W.heap.size (W.heap.size+1) n₀ Bl T.kvs.length hBl (by omega) J Jx hJd HY.out T (n - 1) [] _ (Hat.out.below hb3) Hlo.out hi3 hj3 (by simp) hG);rw [HP.out] at Hw;clear hb3 hi3 hj3 hs1;refine callsIn_of_wp Tryz.func108 rfl trivial ?_ rfl;simp only [Tryz.ntmps108,List.size_toArray,List.length_cons,List.length_nil,Nat.reduceAdd,Nat.reduceSub,Array.replicate_succ,Array.replicate_zero,List.push_toArray,List.append_toArray,List.nil_append,List.cons_append];gi_wp2_with (refine ⟨trivial,(fun h=>(by cases h)),?_⟩;refine Hw.out.mono ?_;rintro e W1 (⟨rfl,hJ1,_⟩ | ⟨rfl,q,hq,hx⟩))
 ·
  go_end0
  exact ⟨⟨_,rfl⟩,.inl ⟨_,rfl,by simpa using hJ1⟩⟩
 ·
  go_end0
  exact ⟨⟨_,rfl⟩,.inr ⟨q,hq,by simpa using hx⟩⟩
theorem all1_in (n l Bt n₀ Bl:Nat) (T:Tr) (J Jx:List (ByteArray × ByteArray)→World→Prop) (B0:Nat) (hJ:AbidesFrom B0 J)
  (hY:∀ m pre x W,J pre W→pre.length<T.kvs.length→YieldAt Fence.wide m Tryz.prog l #[.string x.1,.string x.2] W fun e W' =>
   (e=.returned (.bool true)∧J (pre++[x]) W'∧KeepC n₀ Bl W W')∨(e=.returned (.bool false)∧Jx (pre++[x]) W'))
  (W:World) (hBl:Bl≤W.heap.size) (hn:n₀≤W.heap.size) (hBt:W.cell? ⟨Bt,0,none⟩=some (.pointer T.ptr)) (hat:TreeAt W T) (hlo:T.Lo n₀) (h0:J [] W) :
  CallsIn Fence.wide n Tryz.prog 108 #[.func (.yield l) #[] #[],.pointer (some ⟨Bt,0,none⟩)] W fun e W'=>(∃ v,e=.returned v) ∧
   ((∃ ys,ys=T.kvs∧J ys W')∨(∃ pre,pre <+: T.kvs∧Jx pre W')) :=
 all1G_in (fun _=>True) n l Bt n₀ Bl T J Jx B0 hJ (fun m pre x W h1 h2 _=>hY m pre x W h1 h2) W hBl hn hBt hat hlo h0 (fun _ _=>trivial)
set_option maxHeartbeats 1000000 in
theorem all_in (n:Nat) (p0:Option Addr) (w:World) :
  CallsIn Fence.wide n Tryz.prog 55 #[.pointer p0] w fun e w'=>e=.returned (.func (.func 108) #[] #[.pointer (some ⟨w.heap.size,0,none⟩)])∧w'=w.alloc (.cells #[.pointer p0] 32):=by
 refine callsIn_of_wp Tryz.func55 rfl trivial ?_ rfl;simp only [Tryz.ntmps55,List.size_toArray,List.length_cons,List.length_nil,Nat.reduceAdd,Nat.reduceSub,Array.replicate_succ,Array.replicate_zero,List.push_toArray,List.append_toArray,List.nil_append,List.cons_append];gi_wp2
 go_ret;exact ⟨rfl,rfl⟩
theorem all_stops (n Bt n₀ Bl:Nat) (T:Tr) (w:World) (hBt:Bt<w.heap.size) (hBl:Bl≤w.heap.size) (hn₀:n₀≤w.heap.size) (hc:w.cell? ⟨Bt,0,none⟩=some (.pointer T.ptr)) (hat:TreeAt w T) (hlo:T.Lo n₀) :
  SeqStopsK Fence.wide n Tryz.prog 108 #[.pointer (some ⟨Bt,0,none⟩)] (fun x:ByteArray × ByteArray=>#[Value.string x.1,Value.string x.2]) (KeepC n₀ Bl) (fun ys=>ys=T.kvs) (fun pre=>pre <+: T.kvs) T.kvs.length w :=
 fun l J Jx W hW hJ _ hY h0 =>
  all1_in n l Bt n₀ Bl T J Jx _ hJ (fun m pre x W hj hl=>yield_any rfl m (hY pre x W hj hl)) W (Nat.le_trans hBl hW.size) (Nat.le_trans hn₀ hW.size) ((hW.cell (p:=⟨Bt,0,none⟩) hBt).trans hc) (hat.below hW) hlo h0
theorem all_stopsG (G:ByteArray × ByteArray→Prop) (n Bt n₀ Bl:Nat) (T:Tr) (w:World) (hBt:Bt<w.heap.size) (hBl:Bl≤w.heap.size) (hn₀:n₀≤w.heap.size) (hc:w.cell? ⟨Bt,0,none⟩=some (.pointer T.ptr)) (hat:TreeAt w T) (hlo:T.Lo n₀) (hG:∀ p ∈ T.kvs,G p) :
  SeqStopsK Fence.wide n Tryz.prog 108 #[.pointer (some ⟨Bt,0,none⟩)] (fun x:{p:ByteArray × ByteArray // G p}=>#[Value.string x.val.1,Value.string x.val.2]) (KeepC n₀ Bl) (fun ys=>ys.map (·.val)=T.kvs) (fun pre=>pre.map (·.val) <+: T.kvs) T.kvs.length w:=by
 intro l J Jx W hW hJ _ hY h0;refine (all1G_in G n l Bt n₀ Bl T (fun p W=>∃ q:List {p:ByteArray × ByteArray // G p},p=q.map (·.val)∧J q W) (fun p W=>∃ q:List {p:ByteArray × ByteArray // G p},p=q.map (·.val)∧Jx q W) _
  (fun p W W' row h hg hr=>by obtain ⟨q,rfl,h⟩:=h;exact ⟨q,rfl,hJ q W W' row h hg hr⟩)
  (fun m pre x W hj hl hx=>yield_any rfl m (by
   obtain ⟨q,rfl,hj⟩:=hj;exact (hY q ⟨x,hx⟩ W hj (by simpa using hl)).mono fun e W' he=>by
    rcases he with ⟨h1,h2,h3⟩ | ⟨h1,h2⟩
    ·
     exact .inl ⟨h1,⟨q++[⟨x,hx⟩],by simp,h2⟩,h3⟩
    ·
     exact .inr ⟨h1,⟨q++[⟨x,hx⟩],by simp,h2⟩⟩)) W (Nat.le_trans hBl hW.size) (Nat.le_trans hn₀ hW.size) ((hW.cell (p:=⟨Bt,0,none⟩) hBt).trans hc) (hat.below hW) hlo ⟨[],rfl,h0⟩ hG).mono ?_
 rintro e W' ⟨h1,h2⟩;refine ⟨h1,?_⟩;rcases h2 with ⟨ys,rfl,q,h3,h4⟩ | ⟨pre,h3,q,rfl,h4⟩
 ·
  exact .inl ⟨q,h3.symm,h4⟩
 ·
  exact .inr ⟨q,h3,h4⟩
def crAt (L:Prs) (j:Nat):Nat:=(crcOf (L.getD j pdflt).1).toNat
def TopAt (L:Prs) (t i:Nat):Prop:=(∀ j,j<i→crAt L j≤crAt L t)∧∀ j,j<t→crAt L j<crAt L t
theorem getD_left {L M:Prs} {j:Nat} (h:j<L.length):(L++M).getD j pdflt=L.getD j pdflt:=by
 simp [List.getD,List.getElem?_append_left h]
theorem getD_right {L M:Prs} {j:Nat} (h:L.length≤j):(L++M).getD j pdflt=M.getD (j - L.length) pdflt:=by
 simp [List.getD,List.getElem?_append_right h]
theorem getD_in {L:Prs} {j:Nat} (h:j<L.length):L.getD j pdflt ∈ L:=by
 rw [List.getD,List.getElem?_eq_getElem h];exact List.getElem_mem _
theorem top_root {k v:ByteArray} {wt:BitVec 64} {l r:Sh} (h:(Sh.node k v wt l r).Heap):TopAt (l.kv++(k,v)::r.kv) l.kv.length (l.kv++(k,v)::r.kv).length:=by
 obtain ⟨h1,h2,h3,_,_⟩:=h;have hm:crAt (l.kv++(k,v)::r.kv) l.kv.length=wt.toNat:=by
  unfold crAt;rw [getD_right (Nat.le_refl _),Nat.sub_self,h1];rfl
 refine ⟨fun j hj=>?_,fun j hj=>?_⟩
 ·
  rw [hm];unfold crAt;rcases Nat.lt_or_ge j l.kv.length with hl | hl
  ·
   rw [getD_left hl];exact Nat.le_of_lt (h2 _ (getD_in hl))
  ·
   rw [getD_right hl];match hj':j - l.kv.length with
   | 0=>rw [h1];exact Nat.le_refl _
   | q+1 =>
    have hq:q<r.kv.length:=by simp at hj;omega
    show (crcOf (r.kv.getD q pdflt).1).toNat≤_;exact h3 _ (getD_in hq)
 ·
  rw [hm];unfold crAt;rw [getD_left hj];exact h2 _ (getD_in hj)
theorem top_uniq {L:Prs} {t m:Nat} (h:TopAt L t L.length) (g:TopAt L m L.length) (ht:t<L.length) (hm:m<L.length):t=m:=by
 rcases Nat.lt_trichotomy t m with e | e | e
 ·
  have:=g.2 t e;have:=h.1 m hm;omega
 ·
  exact e
 ·
  have:=h.2 m e;have:=g.1 t ht;omega
theorem pairs_none {w:World} {A:Option Addr}:PairsAt w A 0 []:=⟨rfl,Nat.zero_le _,fun i x hi=>by simp at hi⟩
theorem Sh.dep_cnt:∀ S:Sh,S.dep≤S.cnt
 | .nil=>Nat.le_refl _
 | .node _ _ _ l r=>by
  have:=l.dep_cnt;have:=r.dep_cnt;simp only [Sh.dep,Sh.cnt];omega
open Go.RowKit Go.Shelf
attribute [local go_sem] Oper.semAt_some
def BoxAt (W:World) (B:Nat) (v:Value) (t:TypeId):Prop:=W.heap[B]?=some (.cells #[v] t (0,0))
theorem BoxAt.cell {W:World} {B:Nat} {v:Value} {t:TypeId} (h:BoxAt W B v t):W.cell? ⟨B,0,none⟩=some v:=cell_of_row _ _ _ _ _ _ h
theorem BoxAt.frozen {W:World} {B:Nat} {v:Value} {t:TypeId} (h:BoxAt W B v t):W.frozen? ⟨B,0,none⟩=false:=frozen_cells h 0
theorem BoxAt.lt {W:World} {B:Nat} {v:Value} {t:TypeId} (h:BoxAt W B v t):B<W.heap.size:=(Array.getElem?_eq_some_iff.1 h).1
theorem BoxAt.own {B0:Nat} {β:Type} {B:Nat} {f:β→Value} {t:TypeId}:OwnFrom B0 (fun (s:β) W=>BoxAt W B (f s) t):=fun s W W' row hs hg hr=>(hg.block B hs.lt (fun e=>by
 obtain ⟨_,o,ho,hc⟩:=hr B e.symm;unfold BoxAt at hs;rw [hs] at ho;cases ho
 cases hc)).trans hs
theorem BoxAt.below {W W':World} {B:Nat} {v:Value} {t:TypeId} (h:BoxAt W B v t) (hb:Below W.heap.size W W'):BoxAt W' B v t:=(hb.block B h.lt).trans h
theorem BoxAt.new (W:World) (v:Value) (t:TypeId):BoxAt (W.alloc (.cells #[v] t)) W.heap.size v t:=heap_alloc_new W _
theorem BoxAt.set {W:World} {B:Nat} {v v':Value} {t:TypeId} (h:BoxAt W B v t):BoxAt (W.setCell ⟨B,0,none⟩ v') B v' t:=by
 unfold BoxAt;rw [heap_setCell_same _ _ _ _ _ _ h];rfl
theorem BoxAt.other {W:World} {B B':Nat} {v v':Value} {t:TypeId} (h:BoxAt W B v t) (hne:B≠B'):BoxAt (W.setCell ⟨B',0,none⟩ v') B v t:=(Below.heap_setCell _ _ _ _ (by exact hne)).trans h
structure Chg where
 key:ByteArray
 old:ByteArray
 new:ByteArray
 had:Bool
 has:Bool
def cDel (p:ByteArray × ByteArray):Chg:=⟨p.1,p.2,ByteArray.empty,true,false⟩
def cAdd (q:ByteArray × ByteArray):Chg:=⟨q.1,ByteArray.empty,q.2,false,true⟩
def diffL:Prs→Prs→List Chg
 | [],[]=>[]
 | p::A,[]=>cDel p::diffL A []
 | [],q::B=>cAdd q::diffL [] B
 | p::A,q::B=>if slt p.1 q.1=true then cDel p::diffL A (q::B) else if slt q.1 p.1=true then cAdd q::diffL (p::A) B else if p.2=q.2 then diffL A B else ⟨p.1,p.2,q.2,true,true⟩::diffL A B
termination_by A B=>A.length+B.length
theorem diff_nil_nil:diffL [] []=[]:=by rw [diffL]
theorem diff_cons_nil (p:ByteArray × ByteArray) (A:Prs):diffL (p::A) []=cDel p::diffL A []:=by rw [diffL]
theorem diff_nil_cons (q:ByteArray × ByteArray) (B:Prs):diffL [] (q::B)=cAdd q::diffL [] B:=by rw [diffL]
theorem diff_cons_cons (p q:ByteArray × ByteArray) (A B:Prs):diffL (p::A) (q::B)=if slt p.1 q.1=true then cDel p::diffL A (q::B) else if slt q.1 p.1=true then cAdd q::diffL (p::A) B else if p.2=q.2 then diffL A B else ⟨p.1,p.2,q.2,true,true⟩::diffL A B:=by rw [diffL]
theorem diff_del {p:ByteArray × ByteArray} {A B:Prs} (h:∀ q ∈ B,slt p.1 q.1=true):diffL (p::A) B=cDel p::diffL A B:=by
 cases B with
 | nil=>rw [diff_cons_nil]
 | cons q B=>rw [diff_cons_cons,if_pos (h q (by simp))]
theorem diff_add {q:ByteArray × ByteArray} {A B:Prs} (h:∀ p ∈ A,slt q.1 p.1=true):diffL A (q::B)=cAdd q::diffL A B:=by
 cases A with
 | nil=>rw [diff_nil_cons]
 | cons p A =>
  have h1:=h p (by simp);rw [diff_cons_cons,if_neg (by rw [slt_asymm h1];exact Bool.false_ne_true),if_pos h1]
theorem diff_append:∀ (n:Nat) {A1 B1 A2 B2:Prs},A1.length+B1.length≤n→(∀ p ∈ A1++B1,∀ q ∈ A2++B2,slt p.1 q.1=true)→diffL (A1++A2) (B1++B2)=diffL A1 B1++diffL A2 B2
 | n,[],[],_,_,_,_=>by rw [diff_nil_nil];rfl
 | 0,p::A1,_,_,_,h,_=>by simp at h
 | 0,[],q::B1,_,_,h,_=>by simp at h
 | n+1,p::A1,[],A2,B2,h,hs=>by
  have ih:=diff_append n (A1:=A1) (B1:=[]) (A2:=A2) (B2:=B2) (by simpa using h) (fun x hx y hy=>hs x (by simp at hx ⊢; exact .inr hx) y hy);show diffL (p::(A1++A2)) B2=_;rw [diff_del (fun q hq=>hs p (by simp) q (by simp [hq])),diff_cons_nil,List.cons_append, ← ih];rfl
 | n+1,[],q::B1,A2,B2,h,hs=>by
  have ih:=diff_append n (A1:=[]) (B1:=B1) (A2:=A2) (B2:=B2) (by simpa using h) (fun x hx y hy=>hs x (by simp at hx ⊢; exact .inr hx) y hy);show diffL A2 (q::(B1++B2))=_;rw [diff_add (fun p hp=>hs q (by simp) p (by simp [hp])),diff_nil_cons,List.cons_append, ← ih];rfl
 | n+1,p::A1,q::B1,A2,B2,h,hs=>by
  simp only [List.length_cons] at h;show diffL (p::(A1++A2)) (q::(B1++B2))=_;rw [diff_cons_cons,diff_cons_cons];split
  ·
   have ih:=diff_append n (A1:=A1) (B1:=q::B1) (A2:=A2) (B2:=B2) (by simp;omega) (fun x hx y hy=>hs x (by simp at hx ⊢; exact .inr hx) y hy);rw [List.cons_append, ← ih];rfl
  split
  ·
   have ih:=diff_append n (A1:=p::A1) (B1:=B1) (A2:=A2) (B2:=B2) (by simp;omega) (fun x hx y hy=>hs x (by simp at hx ⊢; rcases hx with h | h | h <;> simp [h]) y hy);rw [List.cons_append, ← ih];rfl
  have ih:=diff_append n (A1:=A1) (B1:=B1) (A2:=A2) (B2:=B2) (by omega) (fun x hx y hy=>hs x (by simp at hx ⊢; rcases hx with h | h <;> simp [h]) y hy);split
  ·
   exact ih
  ·
   rw [List.cons_append, ← ih]
theorem diff_self:∀ A:Prs,diffL A A=[]
 | []=>diff_nil_nil
 | p::A=>by rw [diff_cons_cons,if_neg (by rw [slt_irrefl];exact Bool.false_ne_true),if_neg (by rw [slt_irrefl];exact Bool.false_ne_true),if_pos rfl,diff_self A]
def atK (k:ByteArray):Option ByteArray→Prs
 | some v=>[(k,v)]
 | none=>[]
theorem asc_three (k:ByteArray):∀ {S:Sh},Asc S.kv→S.kv=S.kv.filter (ltB k)++(atK k (S.look k)++S.kv.filter (gtB k))
 | .nil,_=>rfl
 | .node k0 v0 wt l r,h=>by
  have h':Asc (l.kv++(k0,v0)::r.kv):=h;obtain ⟨hl,hr,_,_⟩:=asc_node h';unfold Sh.look;simp only [Sh.kv];by_cases e:k0=k
  ·
   subst e;obtain ⟨f1,f2⟩:=filt_eq h';rw [if_pos rfl,f1,f2];rfl
  ·
   rw [if_neg e];by_cases hk:slt k k0=true
   ·
    obtain ⟨f1,f2⟩:=filt_lt h' hk;have ih:=asc_three k hl;rw [if_pos hk,f1,f2];conv=>lhs;rw [ih]
    simp
   ·
    have hk':slt k0 k=true:=by
     rw [← Bool.not_eq_false];intro h2;exact e (slt_total h2 (by simpa using hk))
    obtain ⟨f1,f2⟩:=filt_gt h' hk';have ih:=asc_three k hr;rw [if_neg hk,f1,f2];conv=>lhs;rw [ih]
    simp
def chgOf (k:ByteArray) (a b:Option ByteArray):Chg:=⟨k,a.getD ByteArray.empty,b.getD ByteArray.empty,a.isSome,b.isSome⟩
def Chg.real (c:Chg):Bool:=decide (c.had≠c.has) || decide (c.old≠c.new)
theorem diff_mid (k:ByteArray) (a b:Option ByteArray):diffL (atK k a) (atK k b)=if (chgOf k a b).real=true then [chgOf k a b] else []:=by
 cases a with
 | none =>
  cases b with
  | none=>simp [atK,diff_nil_nil,chgOf,Chg.real]
  | some v=>simp [atK,diff_nil_cons,diff_nil_nil,chgOf,Chg.real,cAdd]
 | some v =>
  cases b with
  | none=>simp [atK,diff_cons_nil,diff_nil_nil,chgOf,Chg.real,cDel]
  | some u =>
   simp only [atK];rw [diff_cons_cons,if_neg (by rw [slt_irrefl];exact Bool.false_ne_true),if_neg (by rw [slt_irrefl];exact Bool.false_ne_true),diff_nil_nil];by_cases e:v=u
   ·
    subst e;simp [chgOf,Chg.real]
   ·
    simp [chgOf,Chg.real,e]
theorem mem_atK {k:ByteArray} {o:Option ByteArray} {p:ByteArray × ByteArray} (h:p ∈ atK k o):p.1=k:=by
 cases o <;> simp [atK] at h
 rw [h]
theorem diff_three (k:ByteArray) {S U:Sh} (hS:Asc S.kv) (hU:Asc U.kv) :
  diffL S.kv U.kv=diffL (S.kv.filter (ltB k)) (U.kv.filter (ltB k))++((if (chgOf k (S.look k) (U.look k)).real=true then [chgOf k (S.look k) (U.look k)] else [])++diffL (S.kv.filter (gtB k)) (U.kv.filter (gtB k))):=by
 have e1:=asc_three k hS;have e2:=asc_three k hU;have lo:∀ (L:Prs),∀ p ∈ L.filter (ltB k),slt p.1 k=true:=fun L p hp=>(List.mem_filter.1 hp).2
 have hi:∀ (L:Prs),∀ p ∈ L.filter (gtB k),slt k p.1=true:=fun L p hp=>(List.mem_filter.1 hp).2
 conv=>lhs;rw [e1,e2]
 rw [diff_append _ (Nat.le_refl _),diff_append _ (Nat.le_refl _),diff_mid]
 ·
  intro p hp q hq;have h1:p.1=k:=by
   rcases List.mem_append.1 hp with h | h <;> exact mem_atK h
  rw [h1];rcases List.mem_append.1 hq with h | h <;> exact hi _ q h
 ·
  intro p hp q hq;have h1:slt p.1 k=true:=by
   rcases List.mem_append.1 hp with h | h <;> exact lo _ p h
  have h2:q.1=k∨slt k q.1=true:=by
   rcases List.mem_append.1 hq with h | h <;> rcases List.mem_append.1 h with h | h
   ·
    exact .inl (mem_atK h)
   ·
    exact .inr (hi _ q h)
   ·
    exact .inl (mem_atK h)
   ·
    exact .inr (hi _ q h)
  rcases h2 with h2 | h2
  ·
   rw [h2];exact h1
  ·
   exact slt_trans h1 h2
theorem diff_len:∀ (n:Nat) {A B:Prs},A.length+B.length≤n→(diffL A B).length≤A.length+B.length
 | n,[],[],_=>by rw [diff_nil_nil];simp
 | 0,p::A,_,h=>by simp at h
 | 0,[],q::B,h=>by simp at h
 | n+1,p::A,[],h=>by
  have:=diff_len n (A:=A) (B:=[]) (by simpa using h);rw [diff_cons_nil];simp at this ⊢;omega
 | n+1,[],q::B,h=>by
  have:=diff_len n (A:=[]) (B:=B) (by simpa using h);rw [diff_nil_cons];simp at this ⊢;omega
 | n+1,p::A,q::B,h=>by
  simp only [List.length_cons] at h;have h1:=diff_len n (A:=A) (B:=q::B) (by simp;omega);have h2:=diff_len n (A:=p::A) (B:=B) (by simp;omega);have h3:=diff_len n (A:=A) (B:=B) (by omega);rw [diff_cons_cons];simp only [List.length_cons] at h1 h2 h3 ⊢;split
  ·
   simp only [List.length_cons];omega
  split
  ·
   simp only [List.length_cons];omega
  split
  ·
   omega
  ·
   simp only [List.length_cons];omega
end Go.Proofs.YtbckjgageofldaaGreat
