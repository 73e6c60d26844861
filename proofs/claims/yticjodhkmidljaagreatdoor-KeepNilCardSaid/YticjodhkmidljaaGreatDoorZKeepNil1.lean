/- A law on regions that draw their order and lay variables of their own: each lay (an 'alloc' that waits for nothing) may come at any time; what turns memory besides only adds to it, until the last operations, which wait for all. One walk serves every order. No condition. -/
import Derived.Below
import Derived.Test.YticjodhkmidljaaGreatDoorZKeepNil0
import Derived.MapKept
import Derived.WalkKit
import Derived.OwnWalk
import Derived.Deep.DeepCutAuto
import Derived.Deep.Slices
import Derived.Deep.Fields
import Derived.ChangeSame
import Derived.Maps.AppendAt
import Derived.Laws.AppendOwnNone
import Derived.Laws.BitsAllLaws
namespace Go.Proofs.YticjodhkmidljaaGreatDoor.RegL
open Go Go.RowKit RegK
/-- An operation that lays a variable: its number, its slot, what it lays. -/
structure Fl where
  i:Nat
  d:Nat
  z:Obj
section
variable {F : Fence} {n : Nat} {P : Program} {ops : Array Oper} {Q : Exit → Act → World → Prop} {md : Region.Mode}
def Mono (C:World→Prop):Prop:=∀ x y,C x→Below x.heap.size x y→C y
def ptr (g:Nat):Value:=.pointer (some ⟨g,0,none⟩)
/-- The frame with the variables that have been laid. -/
def putS (g:Nat→Nat) (S:Nat→Bool) (a:Act):List Fl→Act
  | []=>a
  | p::r=>if S p.i=true then (putS g S a r).put (some p.d) (ptr (g p.i)) else putS g S a r
theorem putS_congr {g g':Nat→Nat} {S S':Nat→Bool} {a:Act}:∀ {l:List Fl},(∀ p ∈ l,S p.i=S' p.i∧g p.i=g' p.i)→putS g S a l=putS g' S' a l
  | [],_=>rfl
  | p::r,h=>by
    have h1:=h p (by simp)
    have h2:=putS_congr (a:=a) (l:=r) (fun q hq=>h q (by simp [hq]))
    simp only [putS,h1.1,h1.2,h2]
/-- One more has been laid. -/
theorem putS_add {g:Nat→Nat} {S:Nat→Bool} {a:Act} {q:Fl} {v:Nat}:∀ {l:List Fl},q ∈ l→l.Pairwise (fun x y=>x.i≠y.i∧x.d≠y.d)→S q.i=false →
    (putS g S a l).put (some q.d) (ptr v)=putS (fun k=>if k=q.i then v else g k) (fun k=>if k=q.i then true else S k) a l
  | [],h,_,_=>by simp at h
  | p::r,h,hp,hS=>by
    obtain ⟨h1,h2⟩:=List.pairwise_cons.1 hp
    rcases List.mem_cons.1 h with rfl | h
    · have hc:putS (fun k=>if k=q.i then v else g k) (fun k=>if k=q.i then true else S k) a r=putS g S a r:=putS_congr (fun x hx=>by
        have:=(h1 x hx).1
        simp [Ne.symm this])
      simp only [putS]
      rw [hc]
      simp [hS]
    · have hne:=(h1 q h).1
      have ih:=putS_add (g:=g) (S:=S) (a:=a) (v:=v) h h2 hS
      simp only [putS,if_neg hne]
      rw [← ih]
      split
      · exact Act.put_comm _ _ _ (fun d e f=>(h1 q h).2 ((Option.some.inj e).trans (Option.some.inj f).symm))
      · rfl
theorem wpOp_put {j:Nat} {oj:Oper} {d:Nat} {v:Value} (hro:∀ o ∈ ops,noDefer o=true) (hj:ops[j]?=some oj) (h1:d ∉ oj.looksAt ops) (h2:oj.dst≠some d)
    (hsj:∀ cs b,oj.op≠.select cs b) (hQ:∀ c a w,Q (.panic c) a w→Q (.panic c) (a.put (some d) v) w) {K:Act→World→Prop} {a:Act} {w:World}
    (h:wpOpIn F n P ops Q j (fun a' w'=>K (a'.put (some d) v) w') a w):wpOpIn F n P ops Q j K (a.put (some d) v) w:=by
  have h1':∀ e,some d=some e→e ∉ oj.looksAt ops:=fun e he=>by cases he;exact h1
  have h2':∀ e,some d=some e→oj.dst≠some e:=fun e he=>by cases he;exact h2
  have hmj:=Array.mem_of_getElem? hj
  unfold wpOpIn at *
  simp only [hj] at *
  rw [wanted_put oj a (some d) v h1',about_put oj w a (some d) v h1']
  split
  · rename_i hw
    simp only [hw,if_true] at h
    unfold Oper.wpIn at *
    rw [about_put oj w a (some d) v h1']
    refine ⟨h.1,?_⟩
    have h:=h.2
    rw [sem_of (F:=F) (hro oj hmj)] at h
    rw [sem_of (F:=F) (hro oj hmj),execOp_put oj hsj a (some d) v h1']
    generalize (execOp a.eval oj).run P w=r at *
    cases r with
    | ok x w' =>
      cases x <;> simp only [Oper.uponIn] at h ⊢
      case value u=>rw [Act.put_comm a v u h2'];exact h
      case skip=>rw [Act.put_comm a v undef h2'];exact h
      case defer e=>rw [Act.put_defers,Act.put_comm _ v undef h2'];exact h
      case enter f args =>
        refine ⟨h.1,CallsIn.mono h.2 fun e w'' he=>?_⟩
        cases e with
        | returned u=>simp only at he ⊢; rw [Act.put_comm a v u h2'];exact he
        | panicked c=>exact hQ _ _ _ he
        | outgrown=>exact he
      case row row args=>exact ⟨h.1,RowsIn.mono h.2 fun u w'' he=>by rw [Act.put_comm a v u h2'];exact he⟩
      case round l f tmps assign body =>
        refine ⟨h.1,RoundIn.mono h.2 fun e w'' he=>?_⟩
        cases e with
        | returned u=>simp only at he ⊢; rw [Act.put_comm a v u h2'];exact he
        | panicked c=>exact hQ _ _ _ he
        | outgrown=>exact he
    | halt x w' =>
      cases x <;> simp only [Oper.uponIn] at h ⊢
      case panic u=>exact hQ _ _ _ h
  · rename_i hw
    simp only [hw] at h
    rw [Act.put_comm a v undef h2']
    exact h
theorem wpOp_putS {j:Nat} {oj:Oper} {g:Nat→Nat} {S:Nat→Bool} (hro:∀ o ∈ ops,noDefer o=true) (hj:ops[j]?=some oj) (hsj:∀ cs b,oj.op≠.select cs b)
    (hQ:∀ c a d v w,Q (.panic c) a w→Q (.panic c) (Act.put a d v) w) {a:Act} {w:World} :
    ∀ {l:List Fl} {K:Act→World→Prop},(∀ p ∈ l,p.d ∉ oj.looksAt ops∧oj.dst≠some p.d)→wpOpIn F n P ops Q j (fun a' w'=>K (putS g S a' l) w') a w→wpOpIn F n P ops Q j K (putS g S a l) w
  | [],_,_,h=>h
  | p::r,K,hp,h=>by
    simp only [putS] at h ⊢
    have h1:=hp p (by simp)
    split
    · rename_i hs
      simp only [hs,if_true] at h
      exact wpOp_put hro hj h1.1 h1.2 hsj (fun c a w=>hQ c a _ _ w) (wpOp_putS hro hj hsj hQ (l:=r) (K:=fun a' w'=>K (a'.put (some p.d) (ptr (g p.i))) w') (fun q hq=>hp q (by simp [hq])) h)
    · rename_i hs
      simp only [hs] at h
      exact wpOp_putS hro hj hsj hQ (l:=r) (fun q hq=>hp q (by simp [hq])) h
/-- What memory holds of the variables that have been laid. -/
def Facts (B:Nat) (fs:List Fl) (g:Nat→Nat) (S:Nat→Bool) (x:World):Prop :=
  (∀ p ∈ fs,S p.i=true→x.heap[g p.i]?=some p.z∧B≤g p.i)∧∀ p ∈ fs,∀ q ∈ fs,S p.i=true→S q.i=true→p.i≠q.i→g p.i≠g q.i
theorem Facts.below {B:Nat} {fs:List Fl} {g:Nat→Nat} {S:Nat→Bool} {x y:World} (h:Facts B fs g S x) (hb:Below x.heap.size x y):Facts B fs g S y :=
  ⟨fun p hp hs=>by obtain ⟨h1,h2⟩:=h.1 p hp hs;exact ⟨(hb.block _ (Array.getElem?_eq_some_iff.1 h1).1).trans h1,h2⟩,h.2⟩
/-- All of them listed. -/
def virt (fs:List Fl) (listed:Array Bool):Array Bool:=fs.foldr (fun p l=>l.setIfInBounds p.i true) listed
theorem virt_set (j:Nat):∀ (fs:List Fl) (listed:Array Bool),virt fs (listed.setIfInBounds j true)=(virt fs listed).setIfInBounds j true
  | [],_=>rfl
  | p::r,listed=>by
    simp only [virt,List.foldr_cons]
    rw [show List.foldr (fun p l=>l.setIfInBounds p.i true) (listed.setIfInBounds j true) r=virt r (listed.setIfInBounds j true) from rfl,virt_set j r listed]
    show ((virt r listed).setIfInBounds j true).setIfInBounds p.i true=((virt r listed).setIfInBounds p.i true).setIfInBounds j true
    by_cases h:j=p.i
    · rw [h]
    · rw [Array.setIfInBounds_comm _ _ h]
theorem set_set (l:Array Bool) (i:Nat):(l.setIfInBounds i true).setIfInBounds i true=l.setIfInBounds i true:=by
  apply Array.ext
  · simp
  · intro k h1 h2
    simp
theorem virt_mem {q:Fl}:∀ {fs:List Fl} {listed:Array Bool},q ∈ fs→virt fs (listed.setIfInBounds q.i true)=virt fs listed
  | [],_,h=>by simp at h
  | p::r,listed,h=>by
    rcases List.mem_cons.1 h with rfl | h
    · show (virt r (listed.setIfInBounds q.i true)).setIfInBounds q.i true=(virt r listed).setIfInBounds q.i true
      rw [virt_set,set_set]
    · show (virt r (listed.setIfInBounds q.i true)).setIfInBounds p.i true=(virt r listed).setIfInBounds p.i true
      rw [virt_mem h]
theorem set_self {l:Array Bool} {i:Nat} (h:l.getD i false=true):l.setIfInBounds i true=l:=by
  apply Array.ext
  · simp
  · intro k h1 h2
    rw [Array.getElem_setIfInBounds]
    split
    · rename_i e
      subst e
      simp [h2] at h
      rw [h]
    · rfl
theorem virt_full:∀ {fs:List Fl} {listed:Array Bool},(∀ p ∈ fs,listed.getD p.i false=true)→virt fs listed=listed
  | [],_,_=>rfl
  | p::r,listed,h=>by
    show (virt r listed).setIfInBounds p.i true=listed
    rw [virt_full (fun q hq=>h q (by simp [hq])),set_self (h p (by simp))]
theorem virt_ready {j:Nat}:∀ {fs:List Fl} {listed:Array Bool},(∀ p ∈ fs,j≠p.i)→j ∈ Region.ready md ops listed→j ∈ Region.ready md ops (virt fs listed)
  | [],_,_,h=>h
  | p::r,listed,hne,h=>ready_mono (virt_ready (fun q hq=>hne q (by simp [hq])) h) (hne p (by simp))
theorem virt_size:∀ (fs:List Fl) (listed:Array Bool),(virt fs listed).size=listed.size
  | [],_=>rfl
  | p::r,listed=>by
    show ((virt r listed).setIfInBounds p.i true).size=_
    rw [Array.size_setIfInBounds,virt_size r listed]
/-- What the law asks of the numbers that lay. -/
structure Lays (P:Program) (ops:Array Oper) (md:Region.Mode) (bar:Nat→Bool) (fs:List Fl):Prop where
  pw:fs.Pairwise (fun x y=>x.i≠y.i∧x.d≠y.d)
  op:∀ p ∈ fs,∃ o,ops[p.i]?=some o∧o.dst=some p.d∧o.guard=none∧noCall o=true∧onsOf md ops p.i=[]∧bar p.i=false ∧
    ∀ (ρ:Operand→Value) (x:World),(execOp ρ o).run P x=.ok (.value (ptr x.heap.size)) (x.alloc p.z)
  apart:∀ p ∈ fs,∀ j o,ops[j]?=some o→bar j=false→(∀ q ∈ fs,j≠q.i)→p.d ∉ o.looksAt ops∧o.dst≠some p.d
  waits:∀ j,bar j=true→∀ p ∈ fs,p.i ∈ back md ops ops.size (onsOf md ops j)
/-- The walk, where no world is at hand, the variables listed. -/
def anyC (bar:Nat→Bool) (B:Nat) (fs:List Fl) (F:Fence) (n:Nat) (P:Program) (md:Region.Mode) (ops:Array Oper) (Q:Exit→Act→World→Prop):Nat→Array Bool→(World→Prop)→Act→Prop
  | 0,listed,C,a=>Region.ready md ops listed=[]∧∀ g x,Facts B fs g (fun _=>true) x→C x→Q .normal (putS g (fun _=>true) a fs) x
  | k+1,listed,C,a=>(Region.ready md ops listed=[]→∀ g x,Facts B fs g (fun _=>true) x→C x→Q .normal (putS g (fun _=>true) a fs) x) ∧
    ∀ i ∈ Region.ready md ops listed,
      (bar i=true→∀ g x,Facts B fs g (fun _=>true) x→C x→wpOpIn F n P ops Q i (fun a' x'=>∃ R':World→Prop,R' x'∧anyR bar F n P md ops Q k (listed.setIfInBounds i true) R' a' x') (putS g (fun _=>true) a fs) x) ∧
      (bar i=false→∀ x,C x→wpOpIn F n P ops Q i (fun a' x'=>Below x.heap.size x x'∧∃ C':World→Prop,(∀ y,C' y→C y)∧Mono C'∧C' x' ∧
        anyC bar B fs F n P md ops Q k (listed.setIfInBounds i true) C' a') a x)
/-- How many are still to be laid. -/
def pend (fs:List Fl) (listed:Array Bool):Nat:=(fs.filter fun p => !listed.getD p.i false).length
theorem pend_set {fs:List Fl} {listed:Array Bool} {q:Fl} (hq:q ∈ fs) (hp:fs.Pairwise (fun x y=>x.i≠y.i∧x.d≠y.d)) (h0:listed.getD q.i false=false) (hlt:q.i<listed.size) :
    pend fs (listed.setIfInBounds q.i true)+1=pend fs listed:=by
  induction fs with
  | nil=>simp at hq
  | cons p r ih =>
    obtain ⟨h1,h2⟩:=List.pairwise_cons.1 hp
    unfold pend at *
    rcases List.mem_cons.1 hq with rfl | hq
    · have e1:(listed.setIfInBounds q.i true).getD q.i false=true:=by simp [hlt]
      have e2:r.filter (fun p => !(listed.setIfInBounds q.i true).getD p.i false)=r.filter (fun p => !listed.getD p.i false):=List.filter_congr (fun x hx=>by rw [getD_set_ne false (h1 x hx).1])
      rw [List.filter_cons,List.filter_cons,e1,h0,e2]
      simp
    · have ih':=ih hq h2
      have hne:q.i≠p.i:=fun e=>(h1 q hq).1 e.symm
      rw [List.filter_cons,List.filter_cons,getD_set_ne false hne]
      split
      · simp only [List.length_cons];omega
      · exact ih'
theorem pend_zero {fs:List Fl} {listed:Array Bool} (h:pend fs listed=0):∀ p ∈ fs,listed.getD p.i false=true:=by
  intro p hp
  have:=List.filter_eq_nil_iff.1 (List.length_eq_zero_iff.1 h) p hp
  simpa using this
theorem pw_inj:∀ {fs:List Fl} {p q:Fl},fs.Pairwise (fun x y=>x.i≠y.i∧x.d≠y.d)→p ∈ fs→q ∈ fs→p.i=q.i→p=q
  | [],_,_,_,h,_,_=>by simp at h
  | x::r,p,q,hp,h1,h2,e=>by
    obtain ⟨g1,g2⟩:=List.pairwise_cons.1 hp
    rcases List.mem_cons.1 h1 with k1 | k1
    · rcases List.mem_cons.1 h2 with k2 | k2
      · rw [k1,k2]
      · exact absurd (by rw [← k1];exact e) (g1 q k2).1
    · rcases List.mem_cons.1 h2 with k2 | k2
      · exact absurd (by rw [← k2];exact e.symm) (g1 p k1).1
      · exact pw_inj g2 k1 k2 e
set_option maxHeartbeats 1000000 in
theorem real_of {bar:Nat→Bool} {B:Nat} {fs:List Fl} (hro:∀ o ∈ ops,noDefer o=true) (hsel:∀ (j:Nat) (o:Oper) cs b,ops[j]?=some o→o.op≠.select cs b)
    (hQ2:∀ c a d v w,Q (.panic c) a w→Q (.panic c) (Act.put a d v) w) (hL:Lays P ops md bar fs) :
    ∀ (m:Nat) (listed:Array Bool) (C:World→Prop) (a:Act) (g:Nat→Nat) (w:World) (k:Nat),anyC bar B fs F n P md ops Q k (virt fs listed) C a→C w→Mono C→Facts B fs g (fun i=>listed.getD i false) w →
      B≤w.heap.size→listed.size=ops.size→Closed md ops listed→k+pend fs listed=m→wpAnyIn F n P md ops Q m listed (putS g (fun i=>listed.getD i false) a fs) w:=by
  intro m
  induction m with
  | zero =>
    intro listed C a g w k h hC hM hF hB hsz hcl hk
    have hk0:k=0:=by omega
    subst hk0
    have hfull:=pend_zero (show pend fs listed=0 by omega)
    rw [virt_full hfull] at h
    refine ⟨h.1,?_⟩
    have:=h.2 g w ⟨fun p hp _=>hF.1 p hp (hfull p hp),fun p hp q hq _ _=>hF.2 p hp q hq (hfull p hp) (hfull q hq)⟩ hC
    rwa [putS_congr (S':=fun i=>listed.getD i false) (g':=g) (fun p hp=>⟨(hfull p hp).symm,rfl⟩)] at this
  | succ m ih =>
    intro listed C a g w k h hC hM hF hB hsz hcl hk
    -- one more variable is laid
    have lay:∀ q ∈ fs,q.i ∈ Region.ready md ops listed→wpOpIn F n P ops Q q.i (wpAnyIn F n P md ops Q m (listed.setIfInBounds q.i true)) (putS g (fun i=>listed.getD i false) a fs) w:=fun q hq hr=>by
      obtain ⟨o,ho,hd,hg,hc,_,_,hrun⟩:=hL.op q hq
      have h0:listed.getD q.i false=false:=by
        have:=(mem_ready.1 hr).1
        have hlt:q.i<listed.size:=by rw [hsz];exact (Array.getElem?_eq_some_iff.1 ho).1
        simpa [hlt] using this
      have hlt:q.i<listed.size:=by rw [hsz];exact (Array.getElem?_eq_some_iff.1 ho).1
      unfold wpOpIn
      simp only [ho]
      have hw:Region.wanted o (yielded ops (putS g (fun i=>listed.getD i false) a fs).tmps)=true:=by simp [Region.wanted,hg]
      rw [if_pos hw]
      unfold Oper.wpIn
      refine ⟨fun f hf=>(by rw [about_none hc] at hf;cases hf),?_⟩
      rw [sem_of (F:=F) (hro o (Array.mem_of_getElem? ho)),hrun]
      simp only [Oper.uponIn,hd]
      rw [putS_add hq hL.pw h0]
      have hal:Below w.heap.size w (w.alloc q.z):=(Below.refl _ _).alloc (Nat.le_refl _) _
      have hS:∀ p ∈ fs,((fun k=>if k=q.i then true else listed.getD k false) p.i=(listed.setIfInBounds q.i true).getD p.i false):=fun p _=>by
        by_cases e:p.i=q.i
        · simp only [e,if_true];simp [hlt]
        · simp only [if_neg e];rw [getD_set_ne false (Ne.symm e)]
      rw [putS_congr (g':=fun k=>if k=q.i then w.heap.size else g k) (S':=fun i=>(listed.setIfInBounds q.i true).getD i false) (fun p hp=>⟨hS p hp,rfl⟩)]
      refine ih (listed.setIfInBounds q.i true) C a _ _ k (by rw [virt_mem hq];exact h) (hM _ _ hC hal) hM ?_ (Nat.le_trans hB hal.size) (by simpa using hsz) (hcl.set hr) (by have:=pend_set hq hL.pw h0 hlt;omega)
      have hF':=hF.below hal
      refine ⟨fun p hp hs=>?_,fun p hp p' hp' hs hs' hne=>?_⟩
      · by_cases e:p.i=q.i
        · have hpq:p=q:=pw_inj hL.pw hp hq e
          subst hpq
          simp only [if_true]
          exact ⟨heap_alloc_new w _,hB⟩
        · simp only [if_neg e]
          exact hF'.1 p hp (by show listed.getD p.i false=true;rw [← getD_set_ne false (Ne.symm e)];exact hs)
      · have hsz':∀ r ∈ fs,r.i≠q.i→(listed.setIfInBounds q.i true).getD r.i false=true→g r.i<w.heap.size:=fun r hr' hn hs1 =>
          (Array.getElem?_eq_some_iff.1 (hF.1 r hr' (by show listed.getD r.i false=true;rw [← getD_set_ne false (Ne.symm hn)];exact hs1)).1).1
        by_cases e:p.i=q.i
        · have e':p'.i≠q.i:=fun h=>hne (e.trans h.symm)
          simp only [e,if_true,if_neg e']
          have:=hsz' p' hp' e' hs'
          omega
        · by_cases e':p'.i=q.i
          · simp only [e',if_true,if_neg e]
            have:=hsz' p hp e hs
            omega
          · simp only [if_neg e,if_neg e']
            exact hF.2 p hp p' hp' (by show listed.getD p.i false=true;rw [← getD_set_ne false (Ne.symm e)];exact hs) (by show listed.getD p'.i false=true;rw [← getD_set_ne false (Ne.symm e')];exact hs') hne
    -- an operation that lays nothing, ahead of the last ones
    have other:∀ j k',k=k'+1→j ∈ Region.ready md ops listed→(∀ p ∈ fs,j≠p.i)→bar j=false →
        (∀ x,C x→wpOpIn F n P ops Q j (fun a' x'=>Below x.heap.size x x'∧∃ C':World→Prop,(∀ y,C' y→C y)∧Mono C'∧C' x'∧anyC bar B fs F n P md ops Q k' ((virt fs listed).setIfInBounds j true) C' a') a x) →
        wpOpIn F n P ops Q j (wpAnyIn F n P md ops Q m (listed.setIfInBounds j true)) (putS g (fun i=>listed.getD i false) a fs) w:=fun j k' hkk hr hne hb hst=>by
      obtain ⟨_,oj,hoj,_⟩:=mem_ready.1 hr
      refine wpOp_putS hro hoj (fun cs b=>hsel j oj cs b hoj) hQ2 (fun p hp=>hL.apart p hp j oj hoj hb hne) ?_
      refine wpOpIn_mono (fun a' x' ⟨hbl,C',_,hM',hC',hst'⟩=>?_) (hst w hC)
      have hS:∀ p ∈ fs,listed.getD p.i false=(listed.setIfInBounds j true).getD p.i false:=fun p hp=>(getD_set_ne false (hne p hp)).symm
      rw [putS_congr (g':=g) (S':=fun i=>(listed.setIfInBounds j true).getD i false) (fun p hp=>⟨hS p hp,rfl⟩)]
      refine ih (listed.setIfInBounds j true) C' a' g x' k' (by rw [virt_set];exact hst') hC' hM' ?_ (Nat.le_trans hB hbl.size) (by simpa using hsz) (hcl.set hr) ?_
      · have:=hF.below hbl
        exact ⟨fun p hp hs=>this.1 p hp ((hS p hp).trans hs),fun p hp q hq hs hs'=>this.2 p hp q hq ((hS p hp).trans hs) ((hS q hq).trans hs')⟩
      · have:pend fs (listed.setIfInBounds j true)=pend fs listed:=by
          unfold pend
          rw [List.filter_congr (fun p hp=>by rw [← hS p hp])]
        omega
    have barfull:∀ j,j ∈ Region.ready md ops listed→bar j=true→∀ p ∈ fs,listed.getD p.i false=true:=fun j hj hb p hp =>
      back_listed hcl _ _ (ready_ons hj) _ (hL.waits j hb p hp)
    by_cases hp0:pend fs listed=0
    · -- all have been laid
      have hfull:=pend_zero hp0
      have hv:=virt_full hfull
      have hkm:k=m+1:=by omega
      subst hkm
      rw [hv] at h
      have hFull:Facts B fs g (fun _=>true) w:=⟨fun p hp _=>hF.1 p hp (hfull p hp),fun p hp q hq _ _=>hF.2 p hp q hq (hfull p hp) (hfull q hq)⟩
      have hfr:putS g (fun _=>true) a fs=putS g (fun i=>listed.getD i false) a fs:=putS_congr (fun p hp=>⟨(hfull p hp).symm,rfl⟩)
      refine ⟨fun hr=>?_,fun j hj=>?_⟩
      · have:=h.1 hr g w hFull hC
        rwa [hfr] at this
      · have hjne:∀ p ∈ fs,j≠p.i:=fun p hp e=>by
          have:=(mem_ready.1 hj).1
          subst e
          have h2:=hfull p hp
          have hlt:p.i<listed.size:=by
            rcases Nat.lt_or_ge p.i listed.size with h | h
            · exact h
            · simp [Array.getElem?_eq_none h] at h2
          simp [hlt] at this h2
          rw [this] at h2
          cases h2
        cases hb:bar j with
        | true =>
          have:=(h.2 j hj).1 hb g w hFull hC
          rw [hfr] at this
          exact wpOpIn_mono (fun a' w' ⟨R',_,h3⟩=>any_of m _ R' a' w' h3) this
        | false =>
          refine other j m rfl hj hjne hb (fun x hx=>?_)
          have:=(h.2 j hj).2 hb x hx
          rw [hv]
          exact this
    · -- one at least is to be laid
      obtain ⟨q,hq,hq0⟩:∃ q ∈ fs,listed.getD q.i false=false:=by
        cases hl:fs.filter (fun p => !listed.getD p.i false) with
        | nil=>exact absurd (by unfold pend;rw [hl];rfl) hp0
        | cons q r =>
          have hm:q ∈ fs.filter (fun p => !listed.getD p.i false):=by rw [hl];simp
          have:=List.mem_filter.1 hm
          exact ⟨q,this.1,by simpa using this.2⟩
      have hqr:q.i ∈ Region.ready md ops listed:=by
        obtain ⟨o,ho,_,_,_,hons,_,_⟩:=hL.op q hq
        refine mem_ready.2 ⟨?_,o,ho,fun e he hb=>?_⟩
        · have hlt:q.i<listed.size:=by rw [hsz];exact (Array.getElem?_eq_some_iff.1 ho).1
          simpa [hlt] using hq0
        · exfalso
          have:e.on ∈ onsOf md ops q.i:=by
            simp only [onsOf,ho,List.mem_map,List.mem_filter]
            exact ⟨e,⟨by simpa using he,hb⟩,rfl⟩
          rw [hons] at this
          simp at this
      refine ⟨fun h=>(by rw [h] at hqr;simp at hqr),fun j hj=>?_⟩
      by_cases hjf:∃ p ∈ fs,j=p.i
      · obtain ⟨p,hp,rfl⟩:=hjf
        exact lay p hp hj
      · have hjne:∀ p ∈ fs,j≠p.i:=fun p hp e=>hjf ⟨p,hp,e⟩
        have hjv:=virt_ready (md:=md) (ops:=ops) hjne hj
        have hnobar:bar j=false:=by
          rw [Bool.eq_false_iff]
          intro hb
          have:=barfull j hj hb q hq
          rw [hq0] at this
          cases this
        cases k with
        | zero =>
          rw [h.1] at hjv
          simp at hjv
        | succ k'=>exact other j k' rfl hj hjne hnobar ((h.2 j hjv).2 hnobar)
theorem firstC {bar:Nat→Bool} {B:Nat} {fs:List Fl} {i:Nat} {oi:Oper} {v:Value} (hro:∀ o ∈ ops,noDefer o=true) (hi:ops[i]?=some oi) (hc:noCall oi=true) (hbi:bar i=false)
    (hsel:∀ (j:Nat) (o:Oper) cs b,ops[j]?=some o→o.op≠.select cs b) (hQ:∀ c a w,Q (.panic c) (a.put oi.dst v) w→Q (.panic c) a w) :
    ∀ (k:Nat) (listed:Array Bool) (C:World→Prop) (a:Act),
      (∀ j oj,ops[j]?=some oj→j≠i→listed.getD j true=false→(∀ e ∈ oj.after,Region.binds md e=true→e.on≠i)→oi.apart ops oj=true) →
      (∀ j,listed.getD j true=false→j≠i→bar j=true→i ∈ back md ops ops.size (onsOf md ops j))→Closed md ops listed→i ∈ Region.ready md ops listed→Mono C→YieldsIf P ops C oi v a →
      anyC bar B fs F n P md ops Q k (listed.setIfInBounds i true) C (a.put oi.dst v)→anyC bar B fs F n P md ops Q (k+1) listed C a:=by
  intro k
  induction k with
  | zero =>
    intro listed C a _ hbar hcl hr hM hy H
    refine ⟨fun h=>(by rw [h] at hr;cases hr),fun j hj=>?_⟩
    by_cases hji:j=i
    · subst hji
      exact ⟨fun hb=>(by rw [hbi] at hb;cases hb),fun _ x hx=>yif_op hro hi hy hc hx ⟨Below.refl _ _,C,fun _ h=>h,hM,hx,H⟩⟩
    · have:=ready_mono hj hji
      rw [H.1] at this
      cases this
  | succ k ih =>
    intro listed C a hfree hbar hcl hr hM hy H
    refine ⟨fun h=>(by rw [h] at hr;cases hr),fun j hj=>?_⟩
    by_cases hji:j=i
    · subst hji
      exact ⟨fun hb=>(by rw [hbi] at hb;cases hb),fun _ x hx=>yif_op hro hi hy hc hx ⟨Below.refl _ _,C,fun _ h=>h,hM,hx,H⟩⟩
    · have hnbj:bar j=false:=bar_not hcl hj hr (hbar j (mem_ready.1 hj).1 hji)
      refine ⟨fun hb=>(by rw [hnbj] at hb;cases hb),fun _ x hx=>?_⟩
      have h1:=(H.2 j (ready_mono hj hji)).2 hnbj x hx
      obtain ⟨hjun,oj,hoj,hall⟩:=mem_ready.1 hj
      have hnot:∀ e ∈ oj.after,Region.binds md e=true→e.on≠i:=fun e he hb heq=>by
        have h1:=hall e he hb
        have h0:=(mem_ready.1 hr).1
        rw [heq] at h1
        rcases Nat.lt_or_ge i listed.size with h' | h'
        · simp [h'] at h0 h1;rw [h0] at h1;cases h1
        · simp [Array.getElem?_eq_none h'] at h1
      have h2:=putIf hro hoj (hfree j oj hoj hji hjun hnot) (fun cs b=>hsel i oi cs b hi) (fun cs b=>hsel j oj cs b hoj) hQ hy h1
      have up:∀ k,(listed.setIfInBounds j true).getD k true=false→listed.getD k true=false:=fun k hun=>by
        by_cases hjk:j=k
        · subst hjk;exact hjun
        · rw [getD_set_ne true hjk] at hun;exact hun
      refine wpOpIn_mono (fun a' w' ⟨hy',hbl,C',hsub,hM',hC',hK⟩=>?_) h2
      refine ⟨hbl,C',hsub,hM',hC',ih (listed.setIfInBounds j true) C' a' (fun k ok hk hki hun hno=>hfree k ok hk hki (up k hun) hno) (fun k hun hki hbk=>hbar k (up k hun) hki hbk) (hcl.set hj) (ready_mono hr (Ne.symm hji)) hM' (yif_mono hy' hsub) ?_⟩
      rw [Array.setIfInBounds_comm _ _ hji]
      exact hK
theorem putS_put {g:Nat→Nat} {S:Nat→Bool} {a:Act} {dst:Option Tmp} {v:Value}:∀ {fs:List Fl},(∀ p ∈ fs,dst≠some p.d)→putS g S (a.put dst v) fs=(putS g S a fs).put dst v
  | [],_=>rfl
  | p::r,h=>by
    simp only [putS]
    rw [putS_put (fun q hq=>h q (by simp [hq]))]
    split
    · exact Act.put_comm _ _ _ (fun d e f=>h p (by simp) (by rw [e];exact f.symm))
    · rfl
theorem yif_putS {C:World→Prop} {o:Oper} {v:Value} {g:Nat→Nat} {S:Nat→Bool} {a:Act} (hs:∀ cs b,o.op≠.select cs b):∀ {fs:List Fl},(∀ p ∈ fs,p.d ∉ o.looksAt ops)→YieldsIf P ops C o v a→YieldsIf P ops C o v (putS g S a fs)
  | [],_,h=>h
  | p::r,hp,h=>by
    have ih:=yif_putS (g:=g) (S:=S) hs (fs:=r) (fun q hq=>hp q (by simp [hq])) h
    have h1:∀ d,some p.d=some d→d ∉ o.looksAt ops:=fun d e=>by cases e;exact hp p (by simp)
    simp only [putS]
    split
    · exact ih.of_same (execOp_put o hs _ _ _ h1) (wanted_put o _ _ _ h1)
    · exact ih
theorem firstPC {bar:Nat→Bool} {B:Nat} {fs:List Fl} {i:Nat} {oi:Oper} {v:Value} (hro:∀ o ∈ ops,noDefer o=true) (hi:ops[i]?=some oi) (hc:noCall oi=true) (hbi:bar i=false)
    (hsel:∀ (j:Nat) (o:Oper) cs b,ops[j]?=some o→o.op≠.select cs b) (hQ:∀ c a w,Q (.panic c) (a.put oi.dst v) w→Q (.panic c) a w) (hfl:∀ p ∈ fs,p.d ∉ oi.looksAt ops∧oi.dst≠some p.d) :
    ∀ (k:Nat) (listed:Array Bool) (C:World→Prop) (a:Act),
      (∀ j oj,ops[j]?=some oj→j≠i→listed.getD j true=false→(∀ e ∈ oj.after,Region.binds md e=true→e.on≠i)→oi.apart ops oj=true) →
      i ∈ Region.ready md ops listed→Mono C→YieldsIf P ops (fun _=>True) oi v a →
      anyC bar B fs F n P md ops Q k (listed.setIfInBounds i true) C (a.put oi.dst v)→anyC bar B fs F n P md ops Q (k+1) listed C a:=by
  intro k
  induction k with
  | zero =>
    intro listed C a _ hr hM hy H
    refine ⟨fun h=>(by rw [h] at hr;cases hr),fun j hj=>?_⟩
    by_cases hji:j=i
    · subst hji
      exact ⟨fun hb=>(by rw [hbi] at hb;cases hb),fun _ x hx=>yif_op hro hi hy hc (R:=fun _=>True) trivial ⟨Below.refl _ _,C,fun _ h=>h,hM,hx,H⟩⟩
    · have:=ready_mono hj hji
      rw [H.1] at this
      cases this
  | succ k ih =>
    intro listed C a hfree hr hM hy H
    refine ⟨fun h=>(by rw [h] at hr;cases hr),fun j hj=>?_⟩
    by_cases hji:j=i
    · subst hji
      exact ⟨fun hb=>(by rw [hbi] at hb;cases hb),fun _ x hx=>yif_op hro hi hy hc (R:=fun _=>True) trivial ⟨Below.refl _ _,C,fun _ h=>h,hM,hx,H⟩⟩
    · obtain ⟨hjun,oj,hoj,hall⟩:=mem_ready.1 hj
      have hnot:∀ e ∈ oj.after,Region.binds md e=true→e.on≠i:=fun e he hb heq=>by
        have h1:=hall e he hb
        have h0:=(mem_ready.1 hr).1
        rw [heq] at h1
        rcases Nat.lt_or_ge i listed.size with h' | h'
        · simp [h'] at h0 h1;rw [h0] at h1;cases h1
        · simp [Array.getElem?_eq_none h'] at h1
      have hap:=hfree j oj hoj hji hjun hnot
      have up:∀ k,(listed.setIfInBounds j true).getD k true=false→listed.getD k true=false:=fun k hun=>by
        by_cases hjk:j=k
        · subst hjk;exact hjun
        · rw [getD_set_ne true hjk] at hun;exact hun
      have hH:=H.2 j (ready_mono hj hji)
      refine ⟨fun hb g x hF hx=>?_,fun hb x hx=>?_⟩
      · have h1:=hH.1 hb g x hF hx
        rw [putS_put (fun p hp=>(hfl p hp).2)] at h1
        have h2:=putIf hro hoj hap (fun cs b=>hsel i oi cs b hi) (fun cs b=>hsel j oj cs b hoj) hQ (yif_putS (fun cs b=>hsel i oi cs b hi) (fun p hp=>(hfl p hp).1) hy) h1
        refine wpOpIn_mono (fun a' w' ⟨hy',R',hR',hK⟩=>⟨R',hR',?_⟩) h2
        refine firstP hro hi hc hsel hQ k (listed.setIfInBounds j true) R' a' w' (fun k ok hk hki hun hno=>hfree k ok hk hki (up k hun) hno) (ready_mono hr (Ne.symm hji)) hR' hy' ?_
        rw [Array.setIfInBounds_comm _ _ hji]
        exact hK
      · have h2:=putIf hro hoj hap (fun cs b=>hsel i oi cs b hi) (fun cs b=>hsel j oj cs b hoj) hQ hy (hH.2 hb x hx)
        refine wpOpIn_mono (fun a' w' ⟨hy',hbl,C',hsub,hM',hC',hK⟩=>?_) h2
        refine ⟨hbl,C',hsub,hM',hC',ih (listed.setIfInBounds j true) C' a' (fun k ok hk hki hun hno=>hfree k ok hk hki (up k hun) hno) (ready_mono hr (Ne.symm hji)) hM' hy' ?_⟩
        rw [Array.setIfInBounds_comm _ _ hji]
        exact hK
/-- The walk, where no world is at hand: 0: reads; 1: adds to memory; 2: looks at no world; else: the last ones, which wait for all. -/
def canC (B:Nat) (fs:List Fl) (F:Fence) (n:Nat) (P:Program) (ops:Array Oper) (Q:Exit→Act→World→Prop):List (Oper × Nat)→(World→Prop)→Act→Prop
  | [],C,a=>∀ g x,Facts B fs g (fun _=>true) x→C x→Q .normal (putS g (fun _=>true) a fs) x
  | (o,0)::r,C,a =>
    if Region.wanted o (yielded ops a.tmps) then ∃ v,(∀ x,C x→(execOp a.eval o).run P x=.ok (.value v) x)∧canC B fs F n P ops Q r C (a.put o.dst v)
    else canC B fs F n P ops Q r C (a.put o.dst undef)
  | (o,1)::r,C,a =>
    if Region.wanted o (yielded ops a.tmps) then ∀ x,C x→o.wpIn F n P a x (fun a' x'=>Below x.heap.size x x'∧∃ C':World→Prop,(∀ y,C' y→C y)∧Mono C'∧C' x'∧canC B fs F n P ops Q r C' a') Q
    else (∀ x,C x→∀ f,o.about P x a.eval=some f→F.fn f)∧canC B fs F n P ops Q r C (a.put o.dst undef)
  | (o,2)::r,C,a =>
    if Region.wanted o (yielded ops a.tmps) then ∃ v,(∀ x,(execOp a.eval o).run P x=.ok (.value v) x)∧canC B fs F n P ops Q r C (a.put o.dst v)
    else canC B fs F n P ops Q r C (a.put o.dst undef)
  | (o,e+3)::r,C,a=>∀ g x,Facts B fs g (fun _=>true) x→C x→can F n P ops Q ((o,e+3)::r) (fun _=>True) (putS g (fun _=>true) a fs) x
theorem any_canC {bar:Nat→Bool} {B:Nat} {fs:List Fl} (hL:Lays P ops md bar fs) (hro:∀ o ∈ ops,noDefer o=true) (hs:Region.noSelect ops=true) (hQ:∀ c a d v w,Q (.panic c) (Act.put a d v) w→Q (.panic c) a w) :
    ∀ (r:List (Nat × Nat)) (listed:Array Bool) (C:World→Prop) (a:Act),listed.size=ops.size→Closed md ops listed→(∀ p ∈ fs,listed.getD p.i false=true)→canB bar md ops r listed=true→r.all (fun p=>decide (p.1<ops.size))=true →
      r.all (fun p=>decide (3≤p.2) || !bar p.1)=true→Mono C→canC B fs F n P ops Q (pick ops.toList r) C a→anyC bar B fs F n P md ops Q r.length listed C a
  | [],listed,C,a,_,_,_,hB,_,_,_,h=>⟨by simpa [canB] using hB,h⟩
  | (k,0)::r,listed,C,a,hsz,hcl,hfl,hB,hl,hnb,hM,h=>by
    simp only [List.all_cons,Bool.and_eq_true,decide_eq_true_eq] at hl hnb
    obtain ⟨hk,hl'⟩:=hl
    obtain ⟨hb0,hnb'⟩:=hnb
    have hbk:bar k=false:=by simpa using hb0
    have h0:ops[k]?=some ops[k]:=Array.getElem?_eq_getElem hk
    have h0':ops.toList[k]?=some ops[k]:=by simp [hk]
    simp only [canB,Bool.and_eq_true,h0] at hB
    obtain ⟨⟨⟨⟨hr,hf⟩,hc⟩,hbar⟩,hB'⟩:=hB
    have hsz':(listed.setIfInBounds k true).size=ops.size:=by simpa using hsz
    have hcl':=hcl.set (i:=k) (by simpa using hr)
    have hbs:=bar_spec hbar (Nat.le_of_eq hsz)
    simp only [pick,h0',canC] at h
    by_cases hw:Region.wanted ops[k] (yielded ops a.tmps)=true
    · simp only [hw,if_true] at h
      obtain ⟨v,hv,hK⟩:=h
      exact firstC hro h0 hc hbk (Region.noSelect_spec hs) (fun c a w=>hQ c a _ _ w) r.length listed C a (Region.free_spec h0 hf) hbs hcl (by simpa using hr) hM (.inl ⟨hw,hv⟩) (any_canC hL hro hs hQ r _ C _ hsz' hcl' (fun p hp=>getD_set_true (hfl p hp)) hB' hl' hnb' hM hK)
    · simp only [hw] at h
      exact firstC hro h0 hc hbk (Region.noSelect_spec hs) (fun c a w=>hQ c a _ _ w) r.length listed C a (Region.free_spec h0 hf) hbs hcl (by simpa using hr) hM (.inr ⟨by simpa using hw,rfl⟩) (any_canC hL hro hs hQ r _ C _ hsz' hcl' (fun p hp=>getD_set_true (hfl p hp)) hB' hl' hnb' hM h)
  | (k,1)::r,listed,C,a,hsz,hcl,hfl,hB,hl,hnb,hM,h=>by
    simp only [canB,Bool.and_eq_true,beq_iff_eq,Bool.not_eq_true'] at hB
    obtain ⟨⟨hr,hbk⟩,hB'⟩:=hB
    simp only [List.all_cons,Bool.and_eq_true,decide_eq_true_eq] at hl hnb
    obtain ⟨hk,hl'⟩:=hl
    have h0:ops[k]?=some ops[k]:=Array.getElem?_eq_getElem hk
    have h0':ops.toList[k]?=some ops[k]:=by simp [hk]
    have hsz':(listed.setIfInBounds k true).size=ops.size:=by simpa using hsz
    have hcl':=hcl.set (i:=k) (by rw [hr];simp)
    simp only [pick,h0',canC] at h
    refine ⟨fun h=>(by rw [hr] at h;cases h),fun j hj=>?_⟩
    · rw [hr] at hj
      obtain rfl:j=k:=by simpa using hj
      refine ⟨fun hb=>(by rw [hbk] at hb;cases hb),fun _ x hx=>?_⟩
      unfold wpOpIn
      simp only [h0]
      by_cases hw:Region.wanted ops[j] (yielded ops a.tmps)=true
      · simp only [hw,if_true] at h ⊢
        exact Oper.wpIn_mono (fun a' w' ⟨g0,C',g1,g2,g3,g4⟩=>⟨g0,C',g1,g2,g3,any_canC hL hro hs hQ r _ C' a' hsz' hcl' (fun p hp=>getD_set_true (hfl p hp)) hB' hl' hnb.2 g2 g4⟩) (h x hx)
      · simp only [hw] at h ⊢
        exact ⟨h.1 x hx,Below.refl _ _,C,fun _ h=>h,hM,hx,any_canC hL hro hs hQ r _ C _ hsz' hcl' (fun p hp=>getD_set_true (hfl p hp)) hB' hl' hnb.2 hM h.2⟩
  | (k,2)::r,listed,C,a,hsz,hcl,hfl,hB,hl,hnb,hM,h=>by
    simp only [List.all_cons,Bool.and_eq_true,decide_eq_true_eq] at hl hnb
    obtain ⟨hk,hl'⟩:=hl
    obtain ⟨hb0,hnb'⟩:=hnb
    have hbk:bar k=false:=by simpa using hb0
    have h0:ops[k]?=some ops[k]:=Array.getElem?_eq_getElem hk
    have h0':ops.toList[k]?=some ops[k]:=by simp [hk]
    simp only [canB,Bool.and_eq_true,h0] at hB
    obtain ⟨⟨⟨hr,hf⟩,hc⟩,hB'⟩:=hB
    have hr':k ∈ Region.ready md ops listed:=by simpa using hr
    have hsz':(listed.setIfInBounds k true).size=ops.size:=by simpa using hsz
    have hcl':=hcl.set hr'
    have hkf:∀ q ∈ fs,k≠q.i:=fun q hq e=>by
      have h1:=(mem_ready.1 hr').1
      have h2:=hfl q hq
      rw [← e] at h2
      have hlt:k<listed.size:=by rw [hsz];exact hk
      simp [hlt] at h1 h2
      rw [h1] at h2
      cases h2
    simp only [pick,h0',canC] at h
    by_cases hw:Region.wanted ops[k] (yielded ops a.tmps)=true
    · simp only [hw,if_true] at h
      obtain ⟨v,hv,hK⟩:=h
      exact firstPC hro h0 hc hbk (Region.noSelect_spec hs) (fun c a w=>hQ c a _ _ w) (fun p hp=>hL.apart p hp k _ h0 hbk hkf) r.length listed C a (Region.free_spec h0 hf) hr' hM (.inl ⟨hw,fun x _=>hv x⟩) (any_canC hL hro hs hQ r _ C _ hsz' hcl' (fun p hp=>getD_set_true (hfl p hp)) hB' hl' hnb' hM hK)
    · simp only [hw] at h
      exact firstPC hro h0 hc hbk (Region.noSelect_spec hs) (fun c a w=>hQ c a _ _ w) (fun p hp=>hL.apart p hp k _ h0 hbk hkf) r.length listed C a (Region.free_spec h0 hf) hr' hM (.inr ⟨by simpa using hw,rfl⟩) (any_canC hL hro hs hQ r _ C _ hsz' hcl' (fun p hp=>getD_set_true (hfl p hp)) hB' hl' hnb' hM h)
  | (k,m+3)::r,listed,C,a,hsz,hcl,hfl,hB,hl,hnb,hM,h=>by
    have hB0:=hB
    have hl0:=hl
    simp only [canB,Bool.and_eq_true,beq_iff_eq] at hB
    obtain ⟨⟨hr,hbk⟩,hB'⟩:=hB
    simp only [List.all_cons,Bool.and_eq_true,decide_eq_true_eq] at hl
    have h0':ops.toList[k]?=some ops[k]:=by simp [hl.1]
    refine ⟨fun h=>(by rw [hr] at h;cases h),fun j hj=>?_⟩
    have hj0:=hj
    rw [hr] at hj
    obtain rfl:j=k:=by simpa using hj
    refine ⟨fun _ g x hF hx=>?_,fun hb=>(by rw [hbk] at hb;cases hb)⟩
    have h1:canC B fs F n P ops Q ((ops[j],m+3)::pick ops.toList r) C a:=by simpa only [pick,h0'] using h
    have h2:=h1 g x hF hx
    have h3:=any_can hro hs hQ ((j,m+3)::r) listed (fun _=>True) _ x hsz hcl hB0 hl0 trivial (by simpa only [pick,h0'] using h2)
    exact wpOpIn_mono (fun a' w' ⟨R',g1,_,g2⟩=>⟨R',g1,g2⟩) (h3.2 j hj0)
def pwB:List Fl→Bool
  | []=>true
  | p::r=>r.all (fun q=>p.i != q.i && p.d != q.d) && pwB r
def laysB (bar:Nat→Bool) (md:Region.Mode) (ops:Array Oper) (fs:List Fl):Bool :=
  pwB fs && fs.all (fun p=>match ops[p.i]? with
    | some o=>o.dst == some p.d && o.guard.isNone && noCall o && (onsOf md ops p.i).isEmpty && !bar p.i &&
        (List.range ops.size).all (fun j=>bar j || fs.any (fun q=>j == q.i) || (match ops[j]? with | some u => !(u.looksAt ops).contains p.d && u.dst != some p.d | none=>true))
    | none=>false) && (List.range ops.size).all (fun j => !bar j || fs.all (fun p=>(back md ops ops.size (onsOf md ops j)).contains p.i))
theorem pwB_spec:∀ {fs:List Fl},pwB fs=true→fs.Pairwise (fun x y=>x.i≠y.i∧x.d≠y.d)
  | [],_=>List.Pairwise.nil
  | p::r,h=>by
    simp only [pwB,Bool.and_eq_true,List.all_eq_true,bne_iff_ne] at h
    exact List.pairwise_cons.2 ⟨fun q hq=>h.1 q hq,pwB_spec h.2⟩
/-- What is laid, by which operation. -/
def LayOk (P:Program) (l:List Oper) (p:Fl):Prop:=∀ o,l[p.i]?=some o→∀ (ρ:Operand→Value) (x:World),(execOp ρ o).run P x=.ok (.value (ptr x.heap.size)) (x.alloc p.z)
theorem putS_none {g:Nat→Nat} {a:Act}:∀ {fs:List Fl} {S:Nat→Bool},(∀ p ∈ fs,S p.i=false)→putS g S a fs=a
  | [],_,_=>rfl
  | p::r,S,h=>by
    simp only [putS,h p (by simp)]
    exact putS_none (fun q hq=>h q (by simp [hq]))
/-- The walk, behind a name that nothing opens. -/
structure CanC (B:Nat) (fs:List Fl) (F:Fence) (n:Nat) (P:Program) (ops:Array Oper) (Q:Exit→Act→World→Prop) (l:List (Oper × Nat)) (C:World→Prop) (a:Act):Prop where
  out:canC B fs F n P ops Q l C a
/-- **ONE WALK SERVES EVERY ORDER, AND EVERY TIME AT WHICH A VARIABLE IS LAID.** -/
theorem wpIn_region_lays (C:World→Prop) (fs:List Fl) (σ:List (Nat × Nat)) {id:Nat} {a:Act} {w:World} {l:List Oper} (hro:l.all noDefer=true) (hm:P.follows .mixedOrders=true)
    (hB:(Region.noSelect l.toArray && canB (barOf σ) .any l.toArray σ (virt fs (Array.replicate l.length false)) && σ.all (fun p=>decide (p.1<l.length)) && (σ.length+fs.length == l.length) &&
      σ.all (fun p=>decide (3≤p.2) || !barOf σ p.1) && laysB (barOf σ) .any l.toArray fs)=true) (hlay:∀ p ∈ fs,LayOk P l p)
    (hQ:∀ c a d v w,Q (.panic c) (Act.put a d v) w→Q (.panic c) a w) (hQ2:∀ c a d v w,Q (.panic c) a w→Q (.panic c) (Act.put a d v) w) (hC:C { w with drawn:=w.drawn+1 }) (hM:Mono C)
    (h:CanC w.heap.size fs F n P l.toArray Q (pick l σ) C a):(Code.region id l.toArray true).wpIn F n P Q a w:=by
  simp only [Bool.and_eq_true,beq_iff_eq] at hB
  obtain ⟨⟨⟨⟨⟨h1,h2⟩,h3⟩,h4⟩,h5⟩,h6⟩:=hB
  have hro':∀ o ∈ l.toArray,noDefer o=true:=fun o ho=>List.all_eq_true.1 hro o (by simpa using ho)
  have hsel:=Region.noSelect_spec h1
  have hf:∀ k:Nat,(Array.replicate l.length false).getD k false=false:=fun k=>by
    simp only [Array.getD_eq_getD_getElem?,Array.getElem?_replicate]
    split <;> rfl
  simp only [laysB,Bool.and_eq_true] at h6
  obtain ⟨⟨g1,g2⟩,g3⟩:=h6
  have hL:Lays P l.toArray .any (barOf σ) fs:=by
    have opOf:∀ p ∈ fs,∃ o,l.toArray[p.i]?=some o∧o.dst=some p.d∧o.guard=none∧noCall o=true∧onsOf .any l.toArray p.i=[]∧barOf σ p.i=false ∧
        ∀ j<l.toArray.size,(barOf σ j || fs.any (fun q=>j == q.i) || (match l.toArray[j]? with | some u => !(u.looksAt l.toArray).contains p.d && u.dst != some p.d | none=>true))=true:=fun p hp=>by
      have:=List.all_eq_true.1 g2 p hp
      cases ho:l.toArray[p.i]? with
      | none=>rw [ho] at this;cases this
      | some o =>
        rw [ho] at this
        simp only [Bool.and_eq_true,beq_iff_eq,Bool.not_eq_true',List.isEmpty_iff,Option.isNone_iff_eq_none,List.all_eq_true,List.mem_range] at this
        obtain ⟨⟨⟨⟨⟨k1,k2⟩,k3⟩,k4⟩,k5⟩,k6⟩:=this
        exact ⟨o,rfl,k1,k2,k3,k4,k5,k6⟩
    refine ⟨pwB_spec g1,fun p hp=>?_,fun p hp j o hj hb hne=>?_,fun j hb p hp=>?_⟩
    · obtain ⟨o,k0,k1,k2,k3,k4,k5,_⟩:=opOf p hp
      exact ⟨o,k0,k1,k2,k3,k4,k5,hlay p hp o (by simpa using k0)⟩
    · obtain ⟨_,_,_,_,_,_,_,k6⟩:=opOf p hp
      have:=k6 j (Array.getElem?_eq_some_iff.1 hj).1
      rw [hb,hj] at this
      have hnf:fs.any (fun q=>j == q.i)=false:=by
        rw [List.any_eq_false]
        intro q hq
        simpa using hne q hq
      rw [hnf] at this
      simpa using this
    · have hj:j<l.toArray.size:=by
        obtain ⟨q,hq,hqj⟩:=List.any_eq_true.1 hb
        simp only [Bool.and_eq_true,beq_iff_eq] at hqj
        have:=List.all_eq_true.1 h3 q hq
        rw [← hqj.1]
        simpa using this
      have:=List.all_eq_true.1 g3 j (List.mem_range.2 hj)
      rw [hb] at this
      simp only [Bool.not_true,Bool.false_or,List.all_eq_true] at this
      simpa using this p hp
  have hsz:(virt fs (Array.replicate l.length false)).size=l.toArray.size:=by rw [virt_size];simp
  have hclv:Closed .any l.toArray (virt fs (Array.replicate l.length false)):=by
    have gen:∀ (r:List Fl),(∀ p ∈ r,p ∈ fs)→Closed .any l.toArray (virt r (Array.replicate l.length false)):=by
      intro r
      induction r with
      | nil=>exact fun _=>Closed.none _
      | cons p r ih =>
        intro hr j hj e he
        have hr':=ih (fun q hq=>hr q (by simp [hq]))
        have hj':((virt r (Array.replicate l.length false)).setIfInBounds p.i true).getD j false=true:=hj
        show ((virt r (Array.replicate l.length false)).setIfInBounds p.i true).getD e false=true
        by_cases hpj:p.i=j
        · obtain ⟨o,_,_,_,_,k4,_⟩:=hL.op p (hr p (by simp))
          rw [← hpj,k4] at he
          simp at he
        · rw [getD_set_ne false hpj] at hj'
          exact getD_set_true (hr' j hj' e he)
    exact gen fs (fun p hp=>hp)
  have hvf:∀ p ∈ fs,(virt fs (Array.replicate l.length false)).getD p.i false=true:=by
    intro p hp
    have hlt:p.i<l.length:=by
      obtain ⟨o,ho,_⟩:=hL.op p hp
      simpa using (Array.getElem?_eq_some_iff.1 ho).1
    have gen:∀ (r:List Fl),p ∈ r→(virt r (Array.replicate l.length false)).getD p.i false=true:=by
      intro r
      induction r with
      | nil=>exact fun h=>(by simp at h)
      | cons q r ih =>
        intro hr
        show ((virt r (Array.replicate l.length false)).setIfInBounds q.i true).getD p.i false=true
        rcases List.mem_cons.1 hr with rfl | hr
        · have hs:p.i<(virt r (Array.replicate l.length false)).size:=by rw [virt_size];simpa using hlt
          simp [hs]
        · exact getD_set_true (ih hr)
    exact gen fs hp
  have hany:=any_canC (bar:=barOf σ) (B:=w.heap.size) (fs:=fs) (F:=F) (n:=n) (P:=P) (ops:=l.toArray) (md:=.any) (Q:=Q) hL hro' h1 hQ σ (virt fs (Array.replicate l.length false)) C a hsz hclv hvf h2 (by simpa using h3) h5 hM (by simpa using h.out)
  refine wpIn_region_any hm ?_
  have hreal:=real_of (F:=F) (n:=n) (P:=P) (ops:=l.toArray) (md:=.any) (Q:=Q) (B:=w.heap.size) hro' hsel hQ2 hL l.toArray.size (Array.replicate l.length false) C a (fun _=>0) { w with drawn:=w.drawn+1 } σ.length hany hC hM
    ⟨fun p _ hs=>(by have hs':(Array.replicate l.length false).getD p.i false=true:=hs;rw [hf] at hs';cases hs'),fun p _ q _ hs=>(by have hs':(Array.replicate l.length false).getD p.i false=true:=hs;rw [hf] at hs';cases hs')⟩ (Nat.le_refl _) (by simp) (Closed.none _) (by
      have:pend fs (Array.replicate l.length false)=fs.length:=by
        unfold pend
        rw [List.filter_eq_self.2 (fun p _=>by rw [hf];rfl)]
      rw [this]
      simpa using h4)
  rw [putS_none (fun p _=>hf p.i)] at hreal
  simpa using hreal
/-- An operation that only reads. -/
theorem reads {B:Nat} {fs:List Fl} {C:World→Prop} {a:Act} {o:Oper} {r:List (Oper × Nat)}
    (h:∀ K:Act→Prop,(∀ a,CanC B fs F n P ops Q r C a→K a)→if Region.wanted o (yielded ops a.tmps) then ∃ v,(∀ x,C x→(execOp a.eval o).run P x=.ok (.value v) x)∧K (a.put o.dst v) else K (a.put o.dst undef)) :
    CanC B fs F n P ops Q ((o,0)::r) C a:=⟨h _ (fun _ h=>h.out)⟩
/-- An operation that looks at no world. -/
theorem pures {B:Nat} {fs:List Fl} {C:World→Prop} {a:Act} {o:Oper} {r:List (Oper × Nat)}
    (h:∀ K:Act→Prop,(∀ a,CanC B fs F n P ops Q r C a→K a)→if Region.wanted o (yielded ops a.tmps) then ∃ v,(∀ x,(execOp a.eval o).run P x=.ok (.value v) x)∧K (a.put o.dst v) else K (a.put o.dst undef)) :
    CanC B fs F n P ops Q ((o,2)::r) C a:=⟨h _ (fun _ h=>h.out)⟩
/-- From the first of the last ones on: a world at hand. -/
theorem last {B:Nat} {fs:List Fl} {C:World→Prop} {a:Act} {o:Oper} {e:Nat} {r:List (Oper × Nat)}
    (h:∀ g x,Facts B fs g (fun _=>true) x→C x→RegK.Can F n P ops Q ((o,e+3)::r) (fun _=>True) (putS g (fun _=>true) a fs) x):CanC B fs F n P ops Q ((o,e+3)::r) C a :=
  ⟨fun g x hF hx=>(h g x hF hx).out⟩
theorem nil {B:Nat} {fs:List Fl} {C:World→Prop} {a:Act} (h:∀ g x,Facts B fs g (fun _=>true) x→C x→Q .normal (putS g (fun _=>true) a fs) x):CanC B fs F n P ops Q [] C a:=⟨h⟩
end
end Go.Proofs.YticjodhkmidljaaGreatDoor.RegL
namespace Go.Proofs.YticjodhkmidljaaGreatDoor
open Go.RowKit
section
variable {w w' : World} {b b' i : Nat} {v x : Value} {t : TypeId}
theorem below_setV {w0:World} {n:Nat} (h:Below n w0 w) (hb:n≤b):Below n w0 (w.setCell ⟨b,i,none⟩ x) :=
  ⟨h.os,h.tape,h.output,by simpa [World.setCell] using h.size,fun q hq=>(Below.heap_setCell _ _ _ _ (by show q≠b;omega)).trans (h.block q hq)⟩
end
end Go.Proofs.YticjodhkmidljaaGreatDoor
namespace Go.Proofs.YticjodhkmidljaaGreatDoor
open Go.RowKit
def Sh.del (key:ByteArray):Sh→Sh
  | .nil=>.nil
  | .node k v wt l r=>if slt key k then .node k v wt (l.del key) r else if slt k key then .node k v wt l (r.del key) else Sh.join l r
def Sh.put (k v:ByteArray) (wt:BitVec 64):Sh→Sh
  | .nil=>.node k v wt .nil .nil
  | .node k0 v0 wt0 l r=>if aboveB wt k wt0 k0 then .node k v wt ((Sh.node k0 v0 wt0 l r).split k).1 ((Sh.node k0 v0 wt0 l r).split k).2 else if slt k k0 then .node k0 v0 wt0 (l.put k v wt) r else if slt k0 k then .node k0 v0 wt0 l (r.put k v wt) else .node k v wt l r
end Go.Proofs.YticjodhkmidljaaGreatDoor
namespace Go.Proofs.YticjodhkmidljaaGreatDoor
open Go.RowKit
def crcOf (k:ByteArray):BitVec 64:=Crc.sum 0#64 k.data.toList
def putSh (k v:ByteArray) (S:Sh) (had:Option ByteArray):Sh:=if had=some v then S else S.put k v (crcOf k)
def delSh (k:ByteArray) (S:Sh) (had:Option ByteArray):Sh:=if had=none then S else S.del k
end Go.Proofs.YticjodhkmidljaaGreatDoor
namespace Go.Proofs.YticjodhkmidljaaGreatDoor
open Go.RowKit
def Sh.look (key:ByteArray):Sh→Option ByteArray
  | .nil=>none
  | .node k v _ l r=>if k=key then some v else if slt key k then l.look key else r.look key
end Go.Proofs.YticjodhkmidljaaGreatDoor
namespace Go.Proofs.YticjodhkmidljaaGreatDoor
open Go.ChangeShapes Go.WideShapes Go.Deep Go.RowKit
/-- The slice's elements are z; element i lies in k cells, which hold 'enc' of it. -/
structure SliceAt {α:Type} (k:Nat) (enc:α→List Value) (w:World) (a:Option Addr) (len:Nat) (z:List α):Prop where
  hlen:z.length=len
  hmax:len≤maxLen
  cells:∀ (i:Nat) (x:α),z[i]?=some x→∃ b o,a=some ⟨b,o,none⟩∧b<w.heap.size∧∀ j v,(enc x)[j]?=some v→w.cell? ⟨b,o+(i*k+j),none⟩=some v
theorem SliceAt.below {α:Type} {k:Nat} {enc:α→List Value} {w w':World} {a:Option Addr} {len:Nat} {z:List α} (h:SliceAt k enc w a len z) (hb:Below w.heap.size w w'):SliceAt k enc w' a len z:=by
  refine ⟨h.hlen,h.hmax,fun i x hi=>?_⟩
  obtain ⟨b,o,h1,h2,h3⟩:=h.cells i x hi
  refine ⟨b,o,h1,Nat.lt_of_lt_of_le h2 hb.size,fun j v hj=>?_⟩
  rw [← h3 j v hj]
  simp only [World.cell?,hb.block b h2]
end Go.Proofs.YticjodhkmidljaaGreatDoor
namespace Go.Proofs.YticjodhkmidljaaGreatDoor
open Go.RowKit
structure TAct where
  act:BitVec 8
  key:ByteArray
  val:ByteArray
instance:Inhabited TAct:=⟨⟨0,ByteArray.empty,ByteArray.empty⟩⟩
theorem tsucc {n:Nat} (h:n≤9223372036854775806):IntKind.i64.wrap ((n:Int)+1)=((n+1:Nat):Int):=by rw [IntKind.wrap_i64] <;> omega
def stepSh (x:TAct) (S:Sh):Sh:=if x.act.toNat=0 then delSh x.key S (S.look x.key) else putSh x.key x.val S (S.look x.key)
end Go.Proofs.YticjodhkmidljaaGreatDoor
namespace Go.Proofs.YticjodhkmidljaaGreatDoor
open Go.RowKit
def tA:ByteArray:=⟨#[97]⟩
def tB:ByteArray:=⟨#[98]⟩
def t1:ByteArray:=⟨#[49]⟩
def t2:ByteArray:=⟨#[50]⟩
def t3:ByteArray:=⟨#[51]⟩
def s1:Sh:=stepSh ⟨1,tA,t1⟩ .nil
def s2:Sh:=stepSh ⟨1,tB,t2⟩ s1
def s3:Sh:=stepSh ⟨0,tB,tB⟩ s2
def s4:Sh:=stepSh ⟨1,tA,t3⟩ s3
def s5:Sh:=stepSh ⟨0,tA,tA⟩ s4
end Go.Proofs.YticjodhkmidljaaGreatDoor
namespace Go.Proofs.YticjodhkmidljaaGreatDoor
open Go.RowKit
/-- A client's last command, and its reply. -/
structure LastV where
  seq:BitVec 32
  code:Nat
  text:ByteArray
def lastNone:LastV:=⟨0#32,0,ByteArray.empty⟩
end Go.Proofs.YticjodhkmidljaaGreatDoor
namespace Go.Proofs.YticjodhkmidljaaGreatDoor
open Go.RowKit
/-- The world behind the store of a row of values, cell by cell. -/
def rowSt (y:World) (g:Nat):Nat→List Value→World
  | _,[]=>y
  | i,v::r=>rowSt (y.setCell ⟨g,i,none⟩ v) g (i+1) r
theorem rowSt_row {g:Nat} {t:TypeId}:∀ (vs pre old:List Value) (y:World),y.heap[g]?=some (.cells (pre++old).toArray t (0,0))→old.length=vs.length→(rowSt y g pre.length vs).heap[g]?=some (.cells (pre++vs).toArray t (0,0))
  | [],pre,old,y,h,hl=>by
    have:old=[]:=List.length_eq_zero_iff.1 hl
    subst this
    exact h
  | v::r,pre,old,y,h,hl=>by
    match old,hl with
    | o::os,hl =>
      have h1:(y.setCell ⟨g,pre.length,none⟩ v).heap[g]?=some (.cells ((pre++[v])++os).toArray t (0,0)):=by
        rw [heap_setCell_same _ _ _ _ _ _ h]
        simp
      have h2:=rowSt_row r (pre++[v]) os _ h1 (by simpa using hl)
      rw [List.length_append] at h2
      simp only [List.append_assoc,List.singleton_append] at h2
      exact h2
theorem rowSt_below {g n:Nat} {w0:World} (hn:n≤g):∀ (vs:List Value) (i:Nat) (y:World),Below n w0 y→Below n w0 (rowSt y g i vs)
  | [],_,_,h=>h
  | _::r,i,_,h=>rowSt_below hn r (i+1) _ (below_setV h hn)
theorem rowSt_other {g q:Nat} (hq:q≠g):∀ (vs:List Value) (i:Nat) (y:World),(rowSt y g i vs).heap[q]?=y.heap[q]?
  | [],_,_=>rfl
  | _::r,i,_=>(rowSt_other hq r (i+1) _).trans (Below.heap_setCell _ _ _ _ (by exact hq))
end Go.Proofs.YticjodhkmidljaaGreatDoor
