/- Trees' shapes: each node's weight is its key's sum, and weights fall from the top; each act keeps that. No condition. -/
import Derived.Test.YtbckjgageofldaaGreatZLearnPlays6
import Derived.Laws.BitsAllLaws
set_option maxRecDepth 100000
namespace Go.Proofs.YtbckjgageofldaaGreat
open Go.RowKit
def Sh.Heap:Sh→Prop
 | .nil=>True
 | .node k _ wt l r=>wt=crcOf k∧(∀ p ∈ l.kv,(crcOf p.1).toNat<wt.toNat)∧(∀ p ∈ r.kv,(crcOf p.1).toNat≤wt.toNat)∧l.Heap∧r.Heap
theorem heap_le {k v:ByteArray} {wt:BitVec 64} {l r:Sh} (h:(Sh.node k v wt l r).Heap):∀ p ∈ (Sh.node k v wt l r).kv,(crcOf p.1).toNat≤wt.toNat:=by
 obtain ⟨h1,h2,h3,_,_⟩:=h;intro p hp;simp only [Sh.kv,List.mem_append,List.mem_cons] at hp;rcases hp with hp | rfl | hp
 ·
  exact Nat.le_of_lt (h2 p hp)
 ·
  rw [h1];exact Nat.le_refl _
 ·
  exact h3 p hp
theorem above_cases {wt wt':BitVec 64} {k k':ByteArray}:(aboveB wt k wt' k'=true ↔ wt'.toNat<wt.toNat∨(wt=wt'∧slt k k'=true)):=by
 unfold aboveB;by_cases e:wt=wt'
 ·
  subst e;simp
 ·
  rw [if_neg e];simp only [decide_eq_true_eq];constructor
  ·
   exact .inl
  ·
   rintro (h | h)
   ·
    exact h
   ·
    exact absurd h.1 e
theorem above_not {wt wt':BitVec 64} {k k':ByteArray} (h : ¬ aboveB wt k wt' k'=true):wt.toNat<wt'.toNat∨(wt=wt'∧slt k k'=false):=by
 rw [above_cases] at h;by_cases e:wt=wt'
 ·
  refine .inr ⟨e,?_⟩;rw [Bool.eq_false_iff];exact fun hc=>h (.inr ⟨e,hc⟩)
 ·
  have:wt.toNat≠wt'.toNat:=fun he=>e (BitVec.eq_of_toNat_eq he)
  exact .inl (by omega)
theorem heap_split (key:ByteArray):∀ {S:Sh},S.Heap→Asc S.kv→(S.split key).1.Heap∧(S.split key).2.Heap
 | .nil,_,_=>⟨trivial,trivial⟩
 | .node k v wt l r,⟨h1,h2,h3,h4,h5⟩,ha=>by
  obtain ⟨al,ar,_,_⟩:=asc_node (show Asc (l.kv++(k,v)::r.kv) from ha);unfold Sh.split;split
  ·
   obtain ⟨g1,g2⟩:=heap_split key h4 al;refine ⟨g1,h1,?_,h3,g2,h5⟩;rw [(kv_split key al).2];exact fun p hp=>h2 p (List.mem_filter.1 hp).1
  split
  ·
   obtain ⟨g1,g2⟩:=heap_split key h5 ar;refine ⟨⟨h1,h2,?_,h4,g1⟩,g2⟩;rw [(kv_split key ar).1];exact fun p hp=>h3 p (List.mem_filter.1 hp).1
  ·
   exact ⟨h4,h5⟩
theorem heap_join:∀ (n:Nat) {a b:Sh},SizeOf.sizeOf a+SizeOf.sizeOf b≤n→a.Heap→b.Heap→(∀ p ∈ a.kv,∀ q ∈ b.kv,slt p.1 q.1=true)→(Sh.join a b).Heap
 | _,.nil,b,_,_,hb,_=>by rw [Sh.nil_join];exact hb
 | _,.node k v wt l r,.nil,_,ha,_,_=>by rw [Sh.join_nil];exact ha
 | 0,.node k v wt l r,.node k' v' wt' l' r',h,_,_,_=>by simp at h
 | n+1,.node k v wt l r,.node k' v' wt' l' r',h,ha,hb,hlt=>by
  have hle:=heap_le hb;have hle':=heap_le ha;have hkk:slt k k'=true:=hlt (k,v) (by simp [Sh.kv]) (k',v') (by simp [Sh.kv]);rw [Sh.join];split
  ·
   rename_i hab
   have hw:wt'.toNat≤wt.toNat:=by
    rcases above_cases.1 hab with h | ⟨e,_⟩
    ·
     omega
    ·
     rw [e];exact Nat.le_refl _
   refine ⟨ha.1,ha.2.1,?_,ha.2.2.2.1,heap_join n (by simp only [Sh.node.sizeOf_spec] at h ⊢; omega) ha.2.2.2.2 hb (fun p hp q hq=>hlt p (by simp [Sh.kv,hp]) q hq)⟩;rw [kv_join _ (Nat.le_refl _)];intro p hp;rcases List.mem_append.1 hp with hp | hp
   ·
    exact ha.2.2.1 p hp
   ·
    exact Nat.le_trans (hle p hp) hw
  ·
   rename_i hab
   have hw:wt.toNat<wt'.toNat:=by
    rcases above_not hab with h | ⟨_,e⟩
    ·
     exact h
    ·
     rw [hkk] at e;cases e
   refine ⟨hb.1,?_,hb.2.2.1,heap_join n (by simp only [Sh.node.sizeOf_spec] at h ⊢; omega) ha hb.2.2.2.1 (fun p hp q hq=>hlt p hp q (by simp [Sh.kv,hq])),hb.2.2.2.2⟩;rw [kv_join _ (Nat.le_refl _)];intro p hp;rcases List.mem_append.1 hp with hp | hp
   ·
    exact Nat.lt_of_le_of_lt (hle' p hp) hw
   ·
    exact hb.2.1 p hp
theorem heap_put (k v:ByteArray):∀ {S:Sh},S.Heap→Asc S.kv→(S.put k v (crcOf k)).Heap
 | .nil,_,_=>⟨rfl,fun p h=>by simp [Sh.kv] at h,fun p h=>by simp [Sh.kv] at h,trivial,trivial⟩
 | .node k0 v0 wt0 l r,hh,ha=>by
  obtain ⟨h1,h2,h3,h4,h5⟩:=hh;have ha':Asc (l.kv++(k0,v0)::r.kv):=ha;obtain ⟨al,ar,a3,a4⟩:=asc_node ha';unfold Sh.put;split
  ·
   rename_i hab
   obtain ⟨e1,e2⟩:=kv_split k ha;obtain ⟨g1,g2⟩:=heap_split k (S:=.node k0 v0 wt0 l r) ⟨h1,h2,h3,h4,h5⟩ ha;have hle:=heap_le (show (Sh.node k0 v0 wt0 l r).Heap from ⟨h1,h2,h3,h4,h5⟩);refine ⟨rfl,?_,?_,g1,g2⟩
   ·
    rw [e1];intro p hp;obtain ⟨hp1,hp2⟩:=List.mem_filter.1 hp;rcases above_cases.1 hab with h | ⟨e,hk⟩
    ·
     exact Nat.lt_of_le_of_lt (hle p hp1) h
    ·
     have hpk:slt p.1 k0=true:=slt_trans hp2 hk;simp only [Sh.kv,List.mem_append,List.mem_cons] at hp1;rcases hp1 with hp1 | rfl | hp1
     ·
      rw [e];exact h2 p hp1
     ·
      rw [slt_irrefl] at hpk;cases hpk
     ·
      have:=slt_trans hpk (a4 p hp1);rw [slt_irrefl] at this;cases this
   ·
    rw [e2];intro p hp;have hp1:=(List.mem_filter.1 hp).1;rcases above_cases.1 hab with h | ⟨e,_⟩
    ·
     exact Nat.le_of_lt (Nat.lt_of_le_of_lt (hle p hp1) h)
    ·
     rw [e];exact hle p hp1
  ·
   rename_i hab
   have hn:=above_not hab;have hin:∀ {M:Prs},(∀ p ∈ M,p ∈ M)→∀ p ∈ insL M k v,p=(k,v)∨p ∈ M:=fun _ p hp=>by
    simp only [insL,List.mem_append,List.mem_cons,List.mem_filter] at hp;rcases hp with hp | hp | hp
    ·
     exact .inr hp.1
    ·
     exact .inl hp
    ·
     exact .inr hp.1
   split
   ·
    rename_i hk
    refine ⟨h1,?_,h3,heap_put k v h4 al,h5⟩;rw [kv_put k v _ al];intro p hp;rcases hin (fun _ h=>h) p hp with rfl | hp
    ·
     rcases hn with h | ⟨_,e⟩
     ·
      exact h
     ·
      rw [hk] at e;cases e
    ·
     exact h2 p hp
   split
   ·
    rename_i hk
    refine ⟨h1,h2,?_,h4,heap_put k v h5 ar⟩;rw [kv_put k v _ ar];intro p hp;rcases hin (fun _ h=>h) p hp with rfl | hp
    ·
     rcases hn with h | ⟨e,_⟩
     ·
      exact Nat.le_of_lt h
     ·
      rw [← e];exact Nat.le_refl _
    ·
     exact h3 p hp
   ·
    rename_i hk1 hk2
    have e:k0=k:=slt_total (by simpa using hk2) (by simpa using hk1);subst e;exact ⟨rfl,by rw [← h1];exact h2,by rw [← h1];exact h3,h4,h5⟩
theorem heap_del (k:ByteArray):∀ {S:Sh},S.Heap→Asc S.kv→(S.del k).Heap
 | .nil,_,_=>trivial
 | .node k0 v0 wt0 l r,⟨h1,h2,h3,h4,h5⟩,ha=>by
  have ha':Asc (l.kv++(k0,v0)::r.kv):=ha;obtain ⟨al,ar,a3,a4⟩:=asc_node ha';have hin:∀ {M:Prs},∀ p ∈ rmL M k,p ∈ M:=fun p hp=>by
   simp only [rmL,List.mem_append,List.mem_filter] at hp;rcases hp with hp | hp <;> exact hp.1
  unfold Sh.del;split
  ·
   refine ⟨h1,?_,h3,heap_del k h4 al,h5⟩;rw [kv_del k al];exact fun p hp=>h2 p (hin p hp)
  split
  ·
   refine ⟨h1,h2,?_,h4,heap_del k h5 ar⟩;rw [kv_del k ar];exact fun p hp=>h3 p (hin p hp)
  ·
   exact heap_join _ (Nat.le_refl _) h4 h5 (fun p hp q hq=>slt_trans (a3 p hp) (a4 q hq))
def saysL (x:TAct) (L:Prs):Prs:=if x.act.toNat=0 then rmL L x.key else insL L x.key x.val
theorem cnt_kv:∀ S:Sh,S.cnt=S.kv.length
 | .nil=>rfl
 | .node k v wt l r=>by simp only [Sh.cnt,Sh.kv,List.length_append,List.length_cons,cnt_kv l,cnt_kv r];omega
theorem look_kv (k:ByteArray):∀ {S:Sh},Asc S.kv→∀ v,(S.look k=some v ↔ (k,v) ∈ S.kv)
 | .nil,_,v=>by simp [Sh.look,Sh.kv]
 | .node k0 v0 wt l r,h,v=>by
  obtain ⟨al,ar,a3,a4⟩:=asc_node (show Asc (l.kv++(k0,v0)::r.kv) from h);unfold Sh.look;simp only [Sh.kv,List.mem_append,List.mem_cons];by_cases e:k0=k
  ·
   rw [if_pos e];subst e;constructor
   ·
    intro h;cases h;exact .inr (.inl rfl)
   ·
    rintro (h | h | h)
    ·
     have:=a3 _ h;rw [slt_irrefl] at this;cases this
    ·
     cases h;rfl
    ·
     have:=a4 _ h;rw [slt_irrefl] at this;cases this
  ·
   rw [if_neg e];by_cases hk:slt k k0=true
   ·
    rw [if_pos hk,look_kv k al v];constructor
    ·
     exact .inl
    ·
     rintro (h | h | h)
     ·
      exact h
     ·
      cases h;exact absurd rfl e
     ·
      have:=slt_trans hk (a4 _ h);rw [slt_irrefl] at this;cases this
   ·
    rw [if_neg hk,look_kv k ar v];constructor
    ·
     exact fun h=>.inr (.inr h)
    ·
     rintro (h | h | h)
     ·
      exact absurd (a3 _ h) hk
     ·
      cases h;exact absurd rfl e
     ·
      exact h
theorem ins_same {M:Prs} {k v:ByteArray} (h:Asc M) (hp:(k,v) ∈ M):insL M k v=M:=by
 obtain ⟨L,R,rfl⟩:=List.append_of_mem hp;obtain ⟨f1,f2⟩:=filt_eq h;unfold insL;rw [f1,f2]
theorem rm_same {M:Prs} {k:ByteArray} (h:Asc M) (hp:∀ v,(k,v) ∉ M):rmL M k=M:=by
 have hno:isAt M k=false:=by
  rw [Bool.eq_false_iff];intro hc;have hlt:=isAt_lt hc;unfold isAt at hc;rw [drop_pair hlt] at hc;simp only [decide_eq_true_eq] at hc;have hm:M.getD (idxOf M k) pdflt ∈ M:=by
   rw [List.getD,List.getElem?_eq_getElem hlt];exact List.getElem_mem _
  generalize M.getD (idxOf M k) pdflt=p at *;apply hp p.2
  rw [← hc];exact hm
 exact (rm_no h k hno).symm
theorem step_kv {S:Sh} (h:Asc S.kv) (x:TAct):(stepSh x S).kv=saysL x S.kv:=by
 unfold stepSh saysL;split
 ·
  unfold delSh;split
  ·
   rename_i hl
   exact (rm_same h (fun v hv=>by have:=(look_kv x.key h v).2 hv;rw [hl] at this;cases this)).symm
  ·
   exact kv_del _ h
 ·
  unfold putSh;split
  ·
   rename_i hl
   exact (ins_same h ((look_kv x.key h x.val).1 hl)).symm
  ·
   exact kv_put _ _ _ h
theorem filt_len (k:ByteArray):∀ M:Prs,(M.filter (ltB k)).length+(M.filter (gtB k)).length≤M.length
 | []=>Nat.le_refl _
 | p::M=>by
  have ih:=filt_len k M;simp only [List.filter_cons];by_cases h1:ltB k p=true
  ·
   have h2:gtB k p=false:=slt_asymm h1;rw [if_pos h1,h2];simp only [List.length_cons,Bool.false_eq_true,if_false];omega
  ·
   rw [if_neg h1];split <;> simp only [List.length_cons] <;> omega
theorem ins_len {M:Prs} (h:Asc M) (k v:ByteArray):(insL M k v).length≤M.length+1∧((∃ u,(k,u) ∈ M)→(insL M k v).length=M.length):=by
 constructor
 ·
  have:=filt_len k M;simp only [insL,List.length_append,List.length_cons];omega
 ·
  rintro ⟨u,hu⟩;obtain ⟨L,R,rfl⟩:=List.append_of_mem hu;obtain ⟨f1,f2⟩:=filt_eq h;simp only [insL,f1,f2,List.length_append,List.length_cons]
theorem rm_len (M:Prs) (k:ByteArray):(rmL M k).length≤M.length:=by
 have:=filt_len k M;simp only [rmL,List.length_append];omega
theorem ins_mem {M:Prs} {k v:ByteArray} {p:ByteArray × ByteArray} (h:p ∈ insL M k v):p=(k,v)∨p ∈ M:=by
 simp only [insL,List.mem_append,List.mem_cons,List.mem_filter] at h;rcases h with h | h | h
 ·
  exact .inr h.1
 ·
  exact .inl h
 ·
  exact .inr h.1
theorem rm_mem {M:Prs} {k:ByteArray} {p:ByteArray × ByteArray} (h:p ∈ rmL M k):p ∈ M∧p.1≠k:=by
 simp only [rmL,List.mem_append,List.mem_filter] at h;rcases h with h | h
 ·
  refine ⟨h.1,?_⟩;rintro rfl;have:=h.2;unfold ltB at this;rw [slt_irrefl] at this;cases this
 ·
  refine ⟨h.1,?_⟩;rintro rfl;have:=h.2;unfold gtB at this;rw [slt_irrefl] at this;cases this
structure KvInv (S:Sh):Prop where
 asc:Asc S.kv
 num:S.cnt≤256
 val:∀ p ∈ S.kv,p.2.size≤64
theorem KvInv.nil:KvInv .nil:=⟨List.Pairwise.nil,by simp [Sh.cnt],fun p hp=>by simp [Sh.kv] at hp⟩
theorem KvInv.look {S:Sh} (h:KvInv S) {k v:ByteArray} (hl:S.look k=some v):v.size≤64:=h.val _ ((look_kv k h.asc v).1 hl)
theorem put_look {S:Sh} (h:Asc S.kv) (k v:ByteArray):(putSh k v S (S.look k)).look k=some v:=by
 have ha:=asc_put h k v (S.look k);unfold putSh at ha ⊢;split
 ·
  rename_i he;exact he
 ·
  rename_i he
  rw [if_neg he] at ha;rw [look_kv k ha,kv_put k v _ h];simp [insL]
theorem del_look {S:Sh} (h:Asc S.kv) (k:ByteArray):(delSh k S (S.look k)).look k=none:=by
 have ha:=asc_del h k (S.look k);unfold delSh at ha ⊢;split
 ·
  rename_i he;exact he
 ·
  rename_i he
  rw [if_neg he] at ha;cases hc:(S.del k).look k with
  | none=>rfl
  | some u =>
   have:=(look_kv k ha u).1 hc;rw [kv_del k h] at this;exact absurd rfl (rm_mem this).2
theorem KvInv.put {S:Sh} (h:KvInv S) {k v:ByteArray} (hv:v.size≤64) (hn:S.cnt<256∨∃ u,S.look k=some u):KvInv (putSh k v S (S.look k)):=by
 have ha:=asc_put h.asc k v (S.look k);unfold putSh at ha ⊢;split
 ·
  exact h
 ·
  rename_i he
  rw [if_neg he] at ha;obtain ⟨l1,l2⟩:=ins_len h.asc k v;refine ⟨ha,?_,fun p hp=>?_⟩
  ·
   have hc:=h.num;rw [cnt_kv] at hc hn ⊢;rw [kv_put k v _ h.asc];rcases hn with hn | ⟨u,hu⟩
   ·
    omega
   ·
    rw [l2 ⟨u,(look_kv k h.asc u).1 hu⟩];exact hc
  ·
   rw [kv_put k v _ h.asc] at hp;rcases ins_mem hp with rfl | hp
   ·
    exact hv
   ·
    exact h.val p hp
theorem KvInv.del {S:Sh} (h:KvInv S) (k:ByteArray):KvInv (delSh k S (S.look k)):=by
 have ha:=asc_del h.asc k (S.look k);unfold delSh at ha ⊢;split
 ·
  exact h
 ·
  rename_i he
  rw [if_neg he] at ha;refine ⟨ha,?_,fun p hp=>?_⟩
  ·
   have hc:=h.num;have:=rm_len S.kv k;rw [cnt_kv] at hc ⊢;rw [kv_del k h.asc];omega
  ·
   rw [kv_del k h.asc] at hp;exact h.val p (rm_mem hp).1
theorem may_fresh {c:CmdV} (h:mayC c=true):c.fresh.size≤64:=by
 unfold mayC at h;simp only [Bool.and_eq_true,decide_eq_true_eq] at h;have h1:=h.1.2;unfold mostOf at h1;split at h1 <;> omega
inductive KvSays (S:Sh) (c:CmdV):KvOut→Prop
 | miss (o:KvOut):S.look c.key=none→o.sh=S→o.code=1→o.text=ByteArray.empty→KvSays S c o
 | no (o:KvOut):o.sh=S→o.code=2→o.text.size≤64→KvSays S c o
 | got (o:KvOut):c.kind=1→o.sh=S→o.code=0→S.look c.key=some o.text→KvSays S c o
 | put (o:KvOut):c.kind=2→o.code=0→o.text=ByteArray.empty→o.sh.look c.key=some c.fresh→KvSays S c o
 | del (o:KvOut):c.kind=3→o.code=0→S.look c.key=some o.text→o.sh.look c.key=none→KvSays S c o
 | cas (o:KvOut):c.kind=4→o.code=0→o.text=ByteArray.empty→S.look c.key=some c.old→o.sh.look c.key=some c.fresh→KvSays S c o
theorem kv_says {S:Sh} (h:KvInv S) (c:CmdV):KvInv (kvDo S c).sh∧KvSays S c (kvDo S c):=by
 unfold kvDo;by_cases hm:mayC c=true
 ·
  rw [if_pos hm];by_cases h1:c.kind=1
  ·
   rw [if_pos h1];unfold kvGet;cases hl:S.look c.key with
   | none=>exact ⟨h,.miss _ hl rfl rfl rfl⟩
   | some v=>exact ⟨h,.got _ h1 rfl rfl hl⟩
  rw [if_neg h1];by_cases h2:c.kind=2
  ·
   rw [if_pos h2];unfold kvPut;have hp:=put_look h.asc c.key c.fresh;have hi:=h.put (may_fresh hm) (k:=c.key);cases hl:S.look c.key with
   | none =>
    rw [hl] at hp hi;simp only;split
    ·
     exact ⟨h,.no _ rfl rfl (by show (0:Nat)≤64;omega)⟩
    ·
     rename_i hc
     exact ⟨hi (.inl (by omega)),.put _ h2 rfl rfl hp⟩
   | some v =>
    rw [hl] at hp hi;exact ⟨hi (.inr ⟨v,rfl⟩),.put _ h2 rfl rfl hp⟩
  rw [if_neg h2];by_cases h3:c.kind=3
  ·
   rw [if_pos h3];unfold kvDel;have hp:=del_look h.asc c.key;have hi:=h.del c.key;cases hl:S.look c.key with
   | none=>exact ⟨h,.miss _ hl rfl rfl rfl⟩
   | some v =>
    rw [hl] at hp hi;exact ⟨hi,.del _ h3 rfl hl hp⟩
  rw [if_neg h3];by_cases h4:c.kind=4
  ·
   rw [if_pos h4];unfold kvCas;have hp:=put_look h.asc c.key c.fresh;have hi:=h.put (may_fresh hm) (k:=c.key);cases hl:S.look c.key with
   | none=>exact ⟨h,.miss _ hl rfl rfl rfl⟩
   | some v =>
    rw [hl] at hp hi;simp only;split
    ·
     rename_i hv
     subst hv;exact ⟨hi (.inr ⟨_,rfl⟩),.cas _ h4 rfl rfl hl hp⟩
    ·
     exact ⟨h,.no _ rfl rfl (h.look hl)⟩
  rw [if_neg h4];exact ⟨h,.no _ rfl rfl (by show (0:Nat)≤64;omega)⟩
 ·
  rw [if_neg hm];exact ⟨h,.no _ rfl rfl (by show (0:Nat)≤64;omega)⟩
structure LastV where
 seq:BitVec 32
 code:Nat
 text:ByteArray
def lastNone:LastV:=⟨0#32,0,ByteArray.empty⟩
structure TabV where
 a:LastV
 b:LastV
 c:LastV
 d:LastV
def TabV.at_ (t:TabV) (n:Nat):LastV:=if n=0 then t.a else if n=1 then t.b else if n=2 then t.c else t.d
def TabV.put (t:TabV) (n:Nat) (x:LastV):TabV:=if n=0 then { t with a:=x } else if n=1 then { t with b:=x } else if n=2 then { t with c:=x } else { t with d:=x }
theorem TabV.put_at {t:TabV} {n m:Nat} (hn:n<4) (hm:m<4) (x:LastV):(t.put n x).at_ m=if m=n then x else t.at_ m:=by
 have h1:n=0∨n=1∨n=2∨n=3:=by omega
 have h2:m=0∨m=1∨m=2∨m=3:=by omega
 rcases h1 with rfl | rfl | rfl | rfl <;> rcases h2 with rfl | rfl | rfl | rfl <;> rfl
def lookT (t:TabV) (cl:Nat) (seq:BitVec 32):Nat × Nat × ByteArray :=
 if (t.at_ cl).seq.toNat<seq.toNat then (1,0,ByteArray.empty) else if seq.toNat=(t.at_ cl).seq.toNat then (2,(t.at_ cl).code,(t.at_ cl).text) else (3,3,ByteArray.empty)
structure MacV where
 all:Nat
 mem:Nat
 tab:TabV
 sh:Sh
def pop8 (n:Nat):Nat:=n % 2+n / 2 % 2+n / 4 % 2+n / 8 % 2+n / 16 % 2+n / 32 % 2+n / 64 % 2+n / 128 % 2
def bothS (s t:Nat):Nat:=s &&& t &&& 127
def withoutS (s t:Nat):Nat:=s &&& (255 - t) &&& 127
def mayS (s all:Nat):Bool:=decide (0<pop8 (s &&& 127)) && decide (withoutS s all=0)
structure MacOut where
 m:MacV
 code:Nat
 text:ByteArray
 fresh:Bool
def macFresh (M:MacV) (c:CmdV):MacV × Nat × ByteArray :=
 if c.kind=5 then (if mayS c.set.toNat M.all=true then ({ M with mem:=bothS c.set.toNat c.set.toNat },0,ByteArray.empty) else (M,2,ByteArray.empty))
 else ({ M with sh:=(kvDo M.sh c).sh },(kvDo M.sh c).code,(kvDo M.sh c).text)
def macDo (M:MacV) (c:CmdV):MacOut :=
 if mayC c=true then
  if (lookT M.tab c.client.toNat c.seq).1=1 then ⟨{ (macFresh M c).1 with tab:=M.tab.put c.client.toNat ⟨c.seq,(macFresh M c).2.1,(macFresh M c).2.2⟩ },(macFresh M c).2.1,(macFresh M c).2.2,true⟩
  else ⟨M,(lookT M.tab c.client.toNat c.seq).2.1,(lookT M.tab c.client.toNat c.seq).2.2,false⟩
 else ⟨M,2,ByteArray.empty,false⟩
theorem may_client {c:CmdV} (h:mayC c=true):c.client.toNat<4:=by
 unfold mayC at h;simp only [Bool.and_eq_true,decide_eq_true_eq] at h;exact h.1.1.1.1.1.1.2
theorem macFresh_tab (M:MacV) (c:CmdV):(macFresh M c).1.tab=M.tab:=by
 unfold macFresh;split
 ·
  split <;> rfl
 ·
  rfl
theorem and_byte {x y:Nat} (hx:x<256):x &&& y<256:=Nat.lt_of_le_of_lt Nat.and_le_left hx
theorem u8_127 {x:Nat} (hx:x<256):bits .and .u8 (x:Int) 127=((x &&& 127:Nat):Int):=u8_and_nat x 127 hx (by omega)
theorem both_any (x y:Nat) (hx:x<256) (hy:y<256) (w:World):Calls Tryz.prog 74 #[.int .u8 (x:Int),.int .u8 (y:Int)] w fun e w'=>e=.returned (.int .u8 (bothS x y:Int))∧w=w':=by
 have h1:=u8_and_nat x y hx hy;have h2:=u8_127 (and_byte (y:=y) hx);go_enter Tryz.func74,Tryz.ntmps74
 go_wp2_with fail;go_ret;exact ⟨rfl,rfl⟩
theorem without_any (x y:Nat) (hx:x<256) (hy:y<256) (w:World):Calls Tryz.prog 136 #[.int .u8 (x:Int),.int .u8 (y:Int)] w fun e w'=>e=.returned (.int .u8 (withoutS x y:Int))∧w=w':=by
 have h1:=u8_andNot_nat x y hx hy;have h2:=u8_127 (and_byte (y:=255 - y) hx);go_enter Tryz.func136,Tryz.ntmps136
 go_wp2_with fail;go_ret;exact ⟨rfl,rfl⟩
theorem ones_any (x:Nat) (hx:x<256) (w:World):Calls Tryz.prog 140 #[.int .u8 (x:Int)] w fun e w'=>e=.returned (.int .i64 (pop8 x:Int))∧w=w':=by
 have h1:(x:Int)<256:=by omega
 go_enter Tryz.func140,Tryz.ntmps140
 go_wp2_with fail;go_ret;refine ⟨?_,rfl⟩;refine congrArg (fun q:Int=>Ending.returned (Value.int .i64 q)) ?_;clear w;revert h1
 revert hx
 revert x
 decide +kernel
theorem len8_any (x:Nat) (hx:x<256) (w:World):Calls Tryz.prog 77 #[.int .u8 (x:Int)] w fun e w'=>e=.returned (.int .i64 (pop8 (x &&& 127):Int))∧w=w':=by
 have h2:=u8_127 hx;have Ho:=Lib.hid (ones_any (x &&& 127) (and_byte hx) w);go_enter Tryz.func77,Tryz.ntmps77
 go_wp2_with ((with_reducible refine Ho.out.mono ?_);rintro e w' ⟨rfl,rfl⟩);go_ret;exact ⟨rfl,rfl⟩
theorem mayS_any (x y:Nat) (hx:x<256) (hy:y<256) (w:World):Calls Tryz.prog 73 #[.int .u8 (x:Int),.int .u8 (y:Int)] w fun e w'=>e=.returned (.bool (mayS x y))∧w=w':=by
 have Hl:=Lib.hid (len8_any x hx w);have Hw:=Lib.hid (without_any x y hx hy w);unfold mayS;obtain ⟨p,hp⟩:∃ p,pop8 (x &&& 127)=p:=⟨_,rfl⟩;obtain ⟨q,hq⟩:∃ q,withoutS x y=q:=⟨_,rfl⟩;rw [hp] at Hl ⊢;rw [hq] at Hw ⊢;clear hp hq;by_cases h1:0<p
 ·
  have h1':(0:Int)<(p:Int):=by omega
  go_enter Tryz.func73,Tryz.ntmps73
  go_wp2_with (first
   | ((with_reducible refine Hl.out.mono ?_);rintro e w' ⟨rfl,rfl⟩)
   | ((with_reducible refine Hw.out.mono ?_);rintro e w' ⟨rfl,rfl⟩))
  go_ret;refine ⟨?_,rfl⟩;refine congrArg (fun q:Bool=>Ending.returned (Value.bool q)) ?_;simp [h1];rw [Bool.eq_iff_iff];simp
 ·
  have h1' : ¬ (0:Int)<(p:Int):=by omega
  go_enter Tryz.func73,Tryz.ntmps73
  go_wp2_with ((with_reducible refine Hl.out.mono ?_);rintro e w' ⟨rfl,rfl⟩);go_ret;refine ⟨?_,rfl⟩;refine congrArg (fun q:Bool=>Ending.returned (Value.bool q)) ?_;simp [h1]
def lastCells (l:LastV):List Value:=[.int .u32 (l.seq.toNat:Int),.int .u8 (l.code:Int),.string l.text]
def tabCells (t:TabV):List Value:=lastCells t.a++lastCells t.b++lastCells t.c++lastCells t.d
def TabAt (w:World) (g:Nat) (t:TabV):Prop:=w.heap[g]?=some (.cells (tabCells t).toArray 31 (0,0))
theorem TabAt.lt {w:World} {g:Nat} {t:TabV} (h:TabAt w g t):g<w.heap.size:=(Array.getElem?_eq_some_iff.1 h).1
theorem TabAt.below {w w':World} {g:Nat} {t:TabV} (h:TabAt w g t) (hb:Below w.heap.size w w'):TabAt w' g t:=(hb.block g h.lt).trans h
def repSt (y:World) (g:Nat) (code:Nat) (text:ByteArray):World:=(y.setCell ⟨g,0,none⟩ (.int .u8 (code:Int))).setCell ⟨g,1,none⟩ (.string text)
theorem repSt_at {y:World} {g c0:Nat} {t0:ByteArray} (h:RepAt y g c0 t0) (code:Nat) (text:ByteArray):RepAt (repSt y g code text) g code text:=(RepAt.set (h.set (code':=code) (text':=t0) rfl) rfl)
theorem repSt_below {y w0:World} {g n:Nat} (hb:Below n w0 y) (hn:n≤g) (code:Nat) (text:ByteArray):Below n w0 (repSt y g code text):=below_setV (below_setV hb hn) hn
theorem TabAt.at3 {w:World} {g:Nat} {t:TabV} (h:TabAt w g t) {n:Nat} (hn:n<4):w.cell? ⟨g,n*3,none⟩=some (.int .u32 ((t.at_ n).seq.toNat:Int))∧w.cell? ⟨g,n*3+1,none⟩=some (.int .u8 ((t.at_ n).code:Int))∧w.cell? ⟨g,n*3+2,none⟩=some (.string (t.at_ n).text):=by
 have h1:n=0∨n=1∨n=2∨n=3:=by omega
 rcases h1 with rfl | rfl | rfl | rfl <;> exact ⟨cell_of_row _ _ _ _ _ _ h,cell_of_row _ _ _ _ _ _ h,cell_of_row _ _ _ _ _ _ h⟩
set_option maxHeartbeats 4000000 in
theorem look_any (t:TabV) (cl:Nat) (seq:BitVec 32) (hcl:cl<4) (hseq:seq.toNat≠0) (w:World) :
  Calls Tryz.prog 79 #[.agg (tabCells t).toArray,.int .u8 (cl:Int),.int .u32 (seq.toNat:Int)] w fun e w'=>e=.returned (.tuple #[repV (lookT t cl seq).2.1 (lookT t cl seq).2.2,.int .u8 ((lookT t cl seq).1:Int)])∧Below w.heap.size w w':=by
 have hT0:TabAt (w.alloc (.cells (tabCells t).toArray 31)) w.heap.size t:=heap_alloc_new w _;have hb1:=(Below.refl w.heap.size w).alloc (Nat.le_refl _) (.cells (tabCells t).toArray 31);have hs1:(w.alloc (.cells (tabCells t).toArray 31)).heap.size=w.heap.size+1:=by simp
 have hT:=hT0.below ((Below.refl _ _).alloc (Nat.le_refl _) (.cells (repCells 0 ByteArray.empty).toArray 27));have hR:RepAt ((w.alloc (.cells (tabCells t).toArray 31)).alloc (.cells (repCells 0 ByteArray.empty).toArray 27)) (w.heap.size+1) 0 ByteArray.empty:=by rw [← hs1];exact heap_alloc_new _ _
 have hb2:=hb1.alloc hb1.size (.cells (repCells 0 ByteArray.empty).toArray 27);have hcl' : ¬ (4:Int)≤(cl:Int):=by omega
 have hcl2:(cl:Int)<4:=by omega
 have hs':((seq.toNat:Int) == 0)=false:=by simp;exact hseq
 clear hT0 hb1 hs1;obtain ⟨⟨wh,co,te⟩,ho⟩:∃ o,lookT t cl seq=o:=⟨_,rfl⟩;rw [ho];have HO:=Lib.hid ho;clear ho
 unfold lookT at HO;go_enter Tryz.func79,Tryz.ntmps79
 go_upto_region 3 with fail;change Code.wp _ _ _ _ ((w.alloc (.cells (tabCells t).toArray 31)).alloc (.cells (repCells 0 ByteArray.empty).toArray 27));generalize (w.alloc (.cells (tabCells t).toArray 31)).alloc (.cells (repCells 0 ByteArray.empty).toArray 27)=w1 at *;obtain ⟨c0,c1,c2⟩:=hT.at3 hcl;generalize t.at_ cl=l at *;have HR:=Lib.hid hR;clear hR
 have Hb:=Lib.hid hb2;clear hb2
 have HT:=Lib.hid hT;clear hT
 go_upto_region 4 with fail;have hL:(w1.alloc (.cells (lastCells l).toArray 29)).heap[w1.heap.size]?=some (.cells (lastCells l).toArray 29 (0,0)):=heap_alloc_new _ _;have hb3:=(Below.refl w1.heap.size w1).alloc (Nat.le_refl _) (.cells (lastCells l).toArray 29);have HR2:=Lib.hid (HR.out.below hb3);have Hb2:=Lib.hid (Hb.out.trans (hb3.mono Hb.out.size));change Code.wp _ _ _ _ (w1.alloc (.cells (lastCells l).toArray 29));generalize w1.alloc (.cells (lastCells l).toArray 29)=w2 at *;have l0:w2.cell? ⟨w1.heap.size,0,none⟩=some (.int .u32 (l.seq.toNat:Int)):=cell_of_row _ _ _ _ _ _ hL;have l1:w2.cell? ⟨w1.heap.size,1,none⟩=some (.int .u8 (l.code:Int)):=cell_of_row _ _ _ _ _ _ hL;have l2:w2.cell? ⟨w1.heap.size,2,none⟩=some (.string l.text):=cell_of_row _ _ _ _ _ _ hL;clear hL hb3 HR Hb c0 c1 c2;by_cases hlt:l.seq.toNat<seq.toNat
 ·
  have hlt':(l.seq.toNat:Int)<(seq.toNat:Int):=by omega
  have hoe:=HO.out;rw [if_pos hlt] at hoe;simp only [Prod.mk.injEq] at hoe;obtain ⟨rfl,rfl,rfl⟩:=hoe;clear HO hlt;obtain ⟨r0,r1⟩:=HR2.out.cells;have r2:=HR2.out.thawed 0;have r3:=HR2.out.thawed 1;have h3:=repSt_at HR2.out 0 ByteArray.empty;have hb3:=repSt_below Hb2.out (Nat.le_succ _) 0 ByteArray.empty;have H3:=Lib.hid (And.intro h3 hb3);clear h3 hb3
  go_wp2_with fail;change bodyPost _ _ _ _ _ (repSt w2 (w.heap.size+1) 0 ByteArray.empty);clear r0 r1 r2 r3;obtain ⟨r0,r1⟩:=H3.out.1.cells;generalize repSt w2 (w.heap.size+1) 0 ByteArray.empty=w3 at *;refine bodyPost_ret (v:=.tuple #[.agg #[.int .u8 (0:Nat),.string ByteArray.empty],.int .u8 1]) (by simp [results,Tryz.results79,go_sem,r0,r1] <;> rfl) rfl ?_;exact ⟨rfl,H3.out.2⟩
 ·
  have hlt' : ¬ (l.seq.toNat:Int)<(seq.toNat:Int):=by omega
  have hoe:=HO.out;rw [if_neg hlt] at hoe;by_cases heq:seq.toNat=l.seq.toNat
  ·
   have heq':((seq.toNat:Int) == (l.seq.toNat:Int))=true:=by simp;omega
   rw [if_pos heq] at hoe;simp only [Prod.mk.injEq] at hoe;obtain ⟨rfl,rfl,rfl⟩:=hoe;clear HO hlt heq;obtain ⟨r0,r1⟩:=HR2.out.cells;have r2:=HR2.out.thawed 0;have r3:=HR2.out.thawed 1;have h3:=repSt_at HR2.out l.code l.text;have hb3:=repSt_below Hb2.out (Nat.le_succ _) l.code l.text;have H3:=Lib.hid (And.intro h3 hb3);clear h3 hb3
   go_wp2_with fail;change bodyPost _ _ _ _ _ (repSt w2 (w.heap.size+1) l.code l.text);clear r0 r1 r2 r3;obtain ⟨r0,r1⟩:=H3.out.1.cells;generalize repSt w2 (w.heap.size+1) l.code l.text=w3 at *;refine bodyPost_ret (v:=.tuple #[.agg #[.int .u8 (l.code:Nat),.string l.text],.int .u8 2]) (by simp [results,Tryz.results79,go_sem,r0,r1] <;> rfl) rfl ?_;exact ⟨rfl,H3.out.2⟩
  ·
   have heq':((seq.toNat:Int) == (l.seq.toNat:Int))=false:=by simp;omega
   rw [if_neg heq] at hoe;simp only [Prod.mk.injEq] at hoe;obtain ⟨rfl,rfl,rfl⟩:=hoe;clear HO hlt heq;obtain ⟨r0,r1⟩:=HR2.out.cells;have r2:=HR2.out.thawed 0;have r3:=HR2.out.thawed 1;have h3:=repSt_at HR2.out 3 ByteArray.empty;have hb3:=repSt_below Hb2.out (Nat.le_succ _) 3 ByteArray.empty;have H3:=Lib.hid (And.intro h3 hb3);clear h3 hb3
   go_wp2_with fail;change bodyPost _ _ _ _ _ (repSt w2 (w.heap.size+1) 3 ByteArray.empty);clear r0 r1 r2 r3;obtain ⟨r0,r1⟩:=H3.out.1.cells;generalize repSt w2 (w.heap.size+1) 3 ByteArray.empty=w3 at *;refine bodyPost_ret (v:=.tuple #[.agg #[.int .u8 (3:Nat),.string ByteArray.empty],.int .u8 3]) (by simp [results,Tryz.results79,go_sem,r0,r1] <;> rfl) rfl ?_;exact ⟨rfl,H3.out.2⟩
def tabNone:TabV:=⟨lastNone,lastNone,lastNone,lastNone⟩
theorem TabAt.cells {w:World} {g:Nat} {t:TabV} (h:TabAt w g t) :
  (w.cell? ⟨g,0,none⟩=some (.int .u32 (t.a.seq.toNat:Int))∧w.cell? ⟨g,1,none⟩=some (.int .u8 (t.a.code:Int))∧w.cell? ⟨g,2,none⟩=some (.string t.a.text)) ∧
  (w.cell? ⟨g,3,none⟩=some (.int .u32 (t.b.seq.toNat:Int))∧w.cell? ⟨g,4,none⟩=some (.int .u8 (t.b.code:Int))∧w.cell? ⟨g,5,none⟩=some (.string t.b.text)) ∧
  (w.cell? ⟨g,6,none⟩=some (.int .u32 (t.c.seq.toNat:Int))∧w.cell? ⟨g,7,none⟩=some (.int .u8 (t.c.code:Int))∧w.cell? ⟨g,8,none⟩=some (.string t.c.text)) ∧
  (w.cell? ⟨g,9,none⟩=some (.int .u32 (t.d.seq.toNat:Int))∧w.cell? ⟨g,10,none⟩=some (.int .u8 (t.d.code:Int))∧w.cell? ⟨g,11,none⟩=some (.string t.d.text)) :=
 ⟨⟨cell_of_row _ _ _ _ _ _ h,cell_of_row _ _ _ _ _ _ h,cell_of_row _ _ _ _ _ _ h⟩,⟨cell_of_row _ _ _ _ _ _ h,cell_of_row _ _ _ _ _ _ h,cell_of_row _ _ _ _ _ _ h⟩,⟨cell_of_row _ _ _ _ _ _ h,cell_of_row _ _ _ _ _ _ h,cell_of_row _ _ _ _ _ _ h⟩,⟨cell_of_row _ _ _ _ _ _ h,cell_of_row _ _ _ _ _ _ h,cell_of_row _ _ _ _ _ _ h⟩⟩
theorem TabAt.thawed {w:World} {g:Nat} {t:TabV} (h:TabAt w g t) (j:Nat):w.frozen? ⟨g,j,none⟩=false:=by
 unfold TabAt at h;simp [World.frozen?,h]
theorem TabAt.other {w:World} {g g' i:Nat} {t:TabV} {x:Value} (h:TabAt w g t) (hne:g≠g'):TabAt (w.setCell ⟨g',i,none⟩ x) g t:=(Below.heap_setCell _ _ _ _ (by exact hne)).trans h
def lastSt (y:World) (g n:Nat) (x:LastV):World:=((y.setCell ⟨g,n*3,none⟩ (.int .u32 (x.seq.toNat:Int))).setCell ⟨g,n*3+1,none⟩ (.int .u8 (x.code:Int))).setCell ⟨g,n*3+2,none⟩ (.string x.text)
theorem lastSt_at {y:World} {g n:Nat} {t:TabV} (h:TabAt y g t) (hn:n<4) (x:LastV):TabAt (lastSt y g n x) g (t.put n x):=by
 have h1:n=0∨n=1∨n=2∨n=3:=by omega
 unfold lastSt TabAt at *
 rcases h1 with rfl | rfl | rfl | rfl <;>
 ·
  rw [heap_setCell_same _ _ _ _ _ _ (heap_setCell_same _ _ _ _ _ _ (heap_setCell_same _ _ _ _ _ _ h))];rfl
def rowSt (y:World) (g:Nat):Nat→List Value→World
 | _,[]=>y
 | i,v::r=>rowSt (y.setCell ⟨g,i,none⟩ v) g (i+1) r
theorem tab_eta (t:TabV):(tabCells t).toArray=#[.int .u32 (t.a.seq.toNat:Int),.int .u8 (t.a.code:Int),.string t.a.text,.int .u32 (t.b.seq.toNat:Int),.int .u8 (t.b.code:Int),.string t.b.text,.int .u32 (t.c.seq.toNat:Int),.int .u8 (t.c.code:Int),.string t.c.text,.int .u32 (t.d.seq.toNat:Int),.int .u8 (t.d.code:Int),.string t.d.text]:=rfl
theorem rowSt_row {g:Nat} {t:TypeId}:∀ (vs pre old:List Value) (y:World),y.heap[g]?=some (.cells (pre++old).toArray t (0,0))→old.length=vs.length→(rowSt y g pre.length vs).heap[g]?=some (.cells (pre++vs).toArray t (0,0))
 | [],pre,old,y,h,hl=>by
  have:old=[]:=List.length_eq_zero_iff.1 hl;subst this;exact h
 | v::r,pre,old,y,h,hl=>by
  match old,hl with
  | o::os,hl =>
   have h1:(y.setCell ⟨g,pre.length,none⟩ v).heap[g]?=some (.cells ((pre++[v])++os).toArray t (0,0)):=by
    rw [heap_setCell_same _ _ _ _ _ _ h];simp
   have h2:=rowSt_row r (pre++[v]) os _ h1 (by simpa using hl);rw [List.length_append] at h2;simp only [List.append_assoc,List.singleton_append] at h2;exact h2
theorem rowSt_below {g n:Nat} {w0:World} (hn:n≤g):∀ (vs:List Value) (i:Nat) (y:World),Below n w0 y→Below n w0 (rowSt y g i vs)
 | [],_,_,h=>h
 | _::r,i,_,h=>rowSt_below hn r (i+1) _ (below_setV h hn)
theorem rowSt_other {g q:Nat} (hq:q≠g):∀ (vs:List Value) (i:Nat) (y:World),(rowSt y g i vs).heap[q]?=y.heap[q]?
 | [],_,_=>rfl
 | _::r,i,_=>(rowSt_other hq r (i+1) _).trans (Below.heap_setCell _ _ _ _ (by exact hq))
theorem tabSt_at {y:World} {g:Nat} {t0:TabV} (h:TabAt y g t0) (t:TabV):TabAt (rowSt y g 0 (tabCells t)) g t :=
 rowSt_row (tabCells t) [] (tabCells t0) y h rfl
set_option maxHeartbeats 8000000 in
theorem keep_any (t:TabV) (cl:Nat) (x:LastV) (hcl:cl<4) (hlt:(t.at_ cl).seq.toNat<x.seq.toNat) (w:World) :
  Calls Tryz.prog 81 #[.agg (tabCells t).toArray,.int .u8 (cl:Int),.int .u32 (x.seq.toNat:Int),repV x.code x.text] w fun e w'=>e=.returned (.agg (tabCells (t.put cl x)).toArray)∧Below w.heap.size w w':=by
 have hT0:TabAt (w.alloc (.cells (tabCells t).toArray 31)) w.heap.size t:=heap_alloc_new w _;have hb1:=(Below.refl w.heap.size w).alloc (Nat.le_refl _) (.cells (tabCells t).toArray 31);have hs1:(w.alloc (.cells (tabCells t).toArray 31)).heap.size=w.heap.size+1:=by simp
 have hR0:RepAt ((w.alloc (.cells (tabCells t).toArray 31)).alloc (.cells (repCells x.code x.text).toArray 27)) (w.heap.size+1) x.code x.text:=by rw [← hs1];exact heap_alloc_new _ _
 have hT1:=hT0.below ((Below.refl _ _).alloc (Nat.le_refl _) (.cells (repCells x.code x.text).toArray 27));have hb2:=hb1.alloc hb1.size (.cells (repCells x.code x.text).toArray 27);have hs2:((w.alloc (.cells (tabCells t).toArray 31)).alloc (.cells (repCells x.code x.text).toArray 27)).heap.size=w.heap.size+2:=by simp
 have hb3:=(Below.refl w.heap.size ((w.alloc (.cells (tabCells t).toArray 31)).alloc (.cells (repCells x.code x.text).toArray 27))).alloc (by rw [hs2];omega) (.cells (tabCells tabNone).toArray 31);have hall:=(Below.refl _ _).alloc (Nat.le_refl ((w.alloc (.cells (tabCells t).toArray 31)).alloc (.cells (repCells x.code x.text).toArray 27)).heap.size) (.cells (tabCells tabNone).toArray 31);have hZ:TabAt (((w.alloc (.cells (tabCells t).toArray 31)).alloc (.cells (repCells x.code x.text).toArray 27)).alloc (.cells (tabCells tabNone).toArray 31)) (w.heap.size+2) tabNone:=by rw [← hs2];exact heap_alloc_new _ _
 have hT2:=hT1.below hall;have hR2:=hR0.below hall;have hb4:=hb2.trans hb3;clear hT0 hb1 hs1 hR0 hT1 hb2 hs2 hb3 hall;have hl:lookT t cl x.seq=(1,0,ByteArray.empty):=by unfold lookT;rw [if_pos hlt]
 have hlk2:=fun y:World=>look_any t cl x.seq hcl (by omega) y
 rw [hl,tab_eta] at hlk2;unfold repV repCells at hlk2;have Hlk:=Lib.hid hlk2;clear hlk2 hl
 obtain ⟨t',ht'⟩:∃ t',t.put cl x=t':=⟨_,rfl⟩;rw [ht'];have Ht:=Lib.hid ht';clear ht'
 obtain ⟨sq,hsq⟩:∃ n:Int,(x.seq.toNat:Int)=n:=⟨_,rfl⟩;show Calls _ _ #[.agg (tabCells t).toArray,.int .u8 (cl:Int),.int .u32 (x.seq.toNat:Int),.agg (repCells x.code x.text).toArray] w _;rw [hsq] at Hlk ⊢;have Hsq:=Lib.hid hsq;clear hsq
 go_enter Tryz.func81,Tryz.ntmps81
 go_upto_region 1 with fail;rw [show w.heap.size+1+1=w.heap.size+2 by omega];change Code.wp _ _ _ _ (((w.alloc (.cells (tabCells t).toArray 31)).alloc (.cells (repCells x.code x.text).toArray 27)).alloc (.cells (tabCells tabNone).toArray 31));generalize ((w.alloc (.cells (tabCells t).toArray 31)).alloc (.cells (repCells x.code x.text).toArray 27)).alloc (.cells (tabCells tabNone).toArray 31)=w1 at *;have HT:=Lib.hid hT2;clear hT2
 have HR:=Lib.hid hR2;clear hR2
 have HZ:=Lib.hid hZ;clear hZ
 have Hb:=Lib.hid hb4;clear hb4
 obtain ⟨⟨a0,a1,a2⟩,⟨b0,b1,b2⟩,⟨c0,c1,c2⟩,⟨d0,d1,d2⟩⟩:=HT.out.cells;go_upto_region 3 with ((with_reducible refine (Hlk.out _).mono ?_);rintro e w2 ⟨rfl,hb⟩;have Hb2:=Lib.hid hb;clear hb)
 have hb3:=(Below.refl w2.heap.size w2).alloc (Nat.le_refl _) (.cells (repCells 0 ByteArray.empty).toArray 27);have hb13:=Hb2.out.trans (hb3.mono Hb2.out.size);have HT3:=Lib.hid (HT.out.below hb13);have HR3:=Lib.hid (HR.out.below hb13);have HZ3:=Lib.hid (HZ.out.below hb13);have Hb3:=Lib.hid (Hb.out.trans (hb13.mono Hb.out.size));change Code.wp _ _ _ _ (w2.alloc (.cells (repCells 0 ByteArray.empty).toArray 27));generalize w2.alloc (.cells (repCells 0 ByteArray.empty).toArray 27)=w3 at *;clear a0 a1 a2 b0 b1 b2 c0 c1 c2 d0 d1 d2 hb3 hb13 HT HR HZ Hb Hlk Hb2;obtain ⟨c0,c1,c2⟩:=HT3.out.at3 hcl;have f0:=HT3.out.thawed (cl*3);have f1:=HT3.out.thawed (cl*3+1);have f2:=HT3.out.thawed (cl*3+2);obtain ⟨r0,r1⟩:=HR3.out.cells;have hcl2:(cl:Int)<4:=by omega
 have HT4:=Lib.hid (lastSt_at HT3.out hcl x);have HZ4:=Lib.hid (show TabAt (lastSt w3 w.heap.size cl x) (w.heap.size+2) tabNone from ((HZ3.out.other (by omega)).other (by omega)).other (by omega));have Hb4:=Lib.hid (show Below w.heap.size w (lastSt w3 w.heap.size cl x) from below_setV (below_setV (below_setV Hb3.out (Nat.le_refl _)) (Nat.le_refl _)) (Nat.le_refl _));go_upto_region 4 with fail;rw [← Hsq.out];change Code.wp _ _ _ _ (lastSt w3 w.heap.size cl x);generalize lastSt w3 w.heap.size cl x=w4 at *;clear c0 c1 c2 f0 f1 f2 r0 r1 HT3 HR3 HZ3 Hb3;rw [Ht.out] at HT4;obtain ⟨⟨a0,a1,a2⟩,⟨b0,b1,b2⟩,⟨c0,c1,c2⟩,⟨d0,d1,d2⟩⟩:=HT4.out.cells;obtain ⟨⟨z0,z1,z2⟩,⟨z3,z4,z5⟩,⟨z6,z7,z8⟩,⟨z9,z10,z11⟩⟩:=HZ4.out.cells;have g0:=HZ4.out.thawed 0;have g1:=HZ4.out.thawed 1;have g2:=HZ4.out.thawed 2;have g3:=HZ4.out.thawed 3;have g4:=HZ4.out.thawed 4;have g5:=HZ4.out.thawed 5;have g6:=HZ4.out.thawed 6;have g7:=HZ4.out.thawed 7;have g8:=HZ4.out.thawed 8;have g9:=HZ4.out.thawed 9;have g10:=HZ4.out.thawed 10;have g11:=HZ4.out.thawed 11;have HT5:=Lib.hid (tabSt_at HZ4.out t');have Hb5:=Lib.hid (rowSt_below (g:=w.heap.size+2) (by omega) (tabCells t') 0 _ Hb4.out);go_wp2_with fail;change bodyPost _ _ _ _ _ (rowSt w4 (w.heap.size+2) 0 (tabCells t'));clear a0 a1 a2 b0 b1 b2 c0 c1 c2 d0 d1 d2 z0 z1 z2 z3 z4 z5 z6 z7 z8 z9 z10 z11 g0 g1 g2 g3 g4 g5 g6 g7 g8 g9 g10 g11;generalize rowSt w4 (w.heap.size+2) 0 (tabCells t')=w5 at *;obtain ⟨⟨a0,a1,a2⟩,⟨b0,b1,b2⟩,⟨c0,c1,c2⟩,⟨d0,d1,d2⟩⟩:=HT5.out.cells;refine bodyPost_ret (v:=.agg (tabCells t').toArray) (by rw [tab_eta];simp [results,Tryz.results81,go_sem,a0,a1,a2,b0,b1,b2,c0,c1,c2,d0,d1,d2] <;> rfl) rfl ?_;exact ⟨rfl,Hb5.out⟩
end Go.Proofs.YtbckjgageofldaaGreat
