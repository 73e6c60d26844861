/- Trees: join. Condition: few enough nodes that their number is an int. -/
import Derived.Test.YtbckjgageofldaaGreatZLearnPlays0
import Derived.OrdersHeld
import Derived.OrdersIn
import Derived.MapKept
import Derived.WalkKit
import Derived.OwnWalk
set_option maxRecDepth 100000
namespace Go.Proofs.YtbckjgageofldaaGreat
open Go.RowKit
def KeptW (w y:World):Prop:=Below w.heap.size w y
theorem KeptW.mono {w y y':World} (h:KeptW w y) (hb:Below y.heap.size y y'):KeptW w y':=Below.trans h (Below.mono hb (Below.size h))
theorem KeptW.bel {w y:World} (h:KeptW w y):Below w.heap.size w y:=h
theorem Sub.nil:∀ T:Tr,Sub .nil T
 | .nil=>.refl _
 | .node _ _ _ _ l _=>.left (Sub.nil l)
def Sh.join:Sh→Sh→Sh
 | .nil,b=>b
 | .node k v wt l r,.nil=>.node k v wt l r
 | .node k v wt l r,.node k' v' wt' l' r'=>if aboveB wt k wt' k' then .node k v wt l (Sh.join r (.node k' v' wt' l' r')) else .node k' v' wt' (Sh.join (.node k v wt l r) l') r'
termination_by a b=>SizeOf.sizeOf a+SizeOf.sizeOf b
theorem Sh.nil_join (b:Sh):Sh.join .nil b=b:=by rw [Sh.join]
theorem Sh.join_nil (a:Sh):Sh.join a .nil=a:=by cases a <;> rw [Sh.join]
structure JoinPost (n:Nat) (T L H:Tr) (w w':World) (J:Tr):Prop where
 at_:TreeAt w' J
 bel:Below w.heap.size w w'
 shp:J.sh=Sh.join L.sh H.sh
 mad:Made n T J
 new:J.newc n≤J.dep
 num:J.cnt=L.cnt+H.cnt
set_option maxHeartbeats 2000000 in
theorem join_any (T:Tr):∀ (m:Nat) (L H:Tr),L.cnt+H.cnt≤m→∀ (n:Nat) (w:World),n≤w.heap.size→L.Lo n→H.Lo n→TreeAt w L→TreeAt w H→Sub L T→Sub H T→m≤4611686018427387904 →
  Calls Tryz.prog 194 #[.pointer L.ptr,.pointer H.ptr] w fun e w'=>∃ J,e=.returned (.pointer J.ptr)∧JoinPost n T L H w w' J:=by
 intro m;induction m with
 | zero =>
  intro L H hm n w hn hlL hlH hatL hatH hsL hsH hmm;have e1:L=.nil:=Tr.cnt_nil.1 (by omega);have e2:H=.nil:=Tr.cnt_nil.1 (by omega);subst e1 e2;change Calls _ _ #[.pointer none,.pointer none] w _;go_enter Tryz.func194,Tryz.ntmps194
  go_wp2_with fail;go_ret;exact ⟨.nil,rfl,trivial,Below.refl _ _,(Sh.nil_join _).symm,.nil,Nat.le_refl _,rfl⟩
 | succ m ih =>
  intro L H hm n w hn hlL hlH hatL hatH hsL hsH hmm;match L,hm,hlL,hatL,hsL with
  | .nil,hm,hlL,hatL,hsL =>
   change Calls _ _ #[.pointer none,.pointer H.ptr] w _;have HH:=Lib.hid hatH;clear hatH ih
   go_enter Tryz.func194,Tryz.ntmps194
   go_wp2_with fail;go_ret;exact ⟨H,rfl,HH.out,Below.refl _ _,(Sh.nil_join _).symm,.old hsH,by rw [hlH.newc];exact Nat.zero_le _,by simp [Tr.cnt]⟩
  | .node b k v wt l r,hm,hlL,hatL,hsL =>
  match H,hm,hlH,hatH,hsH with
  | .nil,hm,hlH,hatH,hsH =>
   have HL:=Lib.hid hatL;clear hatL ih
   change Calls _ _ #[.pointer (some ⟨b,0,none⟩),.pointer none] w _;go_enter Tryz.func194,Tryz.ntmps194
   go_wp2_with fail;go_ret;exact ⟨.node b k v wt l r,rfl,HL.out,Below.refl _ _,(Sh.join_nil _).symm,.old hsL,by rw [hlL.newc];exact Nat.zero_le _,by simp [Tr.cnt]⟩
  | .node b' k' v' wt' l' r',hm,hlH,hatH,hsH =>
  have hab:=above_any w hatL.1 hatH.1;obtain ⟨ab,hab'⟩:∃ ab,aboveB wt k wt' k'=ab:=⟨_,rfl⟩;rw [hab'] at hab;simp only [Tr.cnt] at hm;have HatL:=Lib.hid hatL;clear hatL
  have HatH:=Lib.hid hatH;clear hatH
  have HlL:=Lib.hid hlL;clear hlL
  have HlH:=Lib.hid hlH;clear hlH
  have HsL:=Lib.hid hsL;clear hsL
  have HsH:=Lib.hid hsH;clear hsH
  have Hih:=Lib.hid ih;clear ih
  have Hab:=Lib.hid hab;clear hab
  change Calls _ _ #[.pointer (some ⟨b,0,none⟩),.pointer (some ⟨b',0,none⟩)] w _;go_enter Tryz.func194,Tryz.ntmps194
  cases ab with
  | true =>
   go_upto_region 6 with ((with_reducible refine Hab.out.mono ?_);rintro e w1 ⟨rfl,hb1⟩;have Hb1:=Lib.hid hb1;clear hb1)
   have hkd:KeptW w1 w1.drew:=⟨rfl,rfl,rfl,Nat.le_refl _,fun _ _=>rfl⟩;have Hkd:=Lib.hid hkd;clear hkd
   refine RegR.wp_region_can (KeptW w1) [(0,0),(1,0),(2,0),(3,0),(4,0),(5,0),(6,0),(7,0),(8,0),(9,0),(10,1),(11,1),(12,0)] (by kernel_rfl) (by kernel_rfl) (fun _ _ d _ _ h=>by cases d <;> exact h) Hkd.out ?_;dsimp only [RegR.pick,List.getElem?_cons_zero,List.getElem?_cons_succ];iterate 4 (refine RegR.can_reads (fun K hK=>?_);go_simp;refine ⟨_,fun _ _=>rfl,hK _ ?_⟩;clear hK K)
   refine RegR.can_reads (fun K hK=>?_);go_simp;refine ⟨.pointer l.ptr,fun y hy=>?_,hK _ ?_⟩
   ·
    obtain ⟨f0,f1,f2,f3,f4,f5,f6⟩:=((HatL.out.1.below Hb1.out).below hy).cells;clear f0 f1 f2 f5 f6;go_simp
   clear hK K;iterate 3 (refine RegR.can_reads (fun K hK=>?_);go_simp;refine ⟨_,fun _ _=>rfl,hK _ ?_⟩;clear hK K)
   refine RegR.can_reads (fun K hK=>?_);go_simp;refine ⟨.pointer r.ptr,fun y hy=>?_,hK _ ?_⟩
   ·
    obtain ⟨f0,f1,f2,f3,f4,f5,f6⟩:=((HatL.out.1.below Hb1.out).below hy).cells;clear f0 f1 f2 f5 f6;go_simp
   clear hK K;iterate 1 (refine RegR.can_reads (fun K hK=>?_);go_simp;refine ⟨_,fun _ _=>rfl,hK _ ?_⟩;clear hK K)
   refine RegR.can_turns (fun K K0 hK hK0=>?_);go_simp;refine (Hih.out r (.node b' k' v' wt' l' r') (by simp only [Tr.cnt];omega) n w1.drew (Nat.le_trans hn Hb1.out.size) HlL.out.2.2 HlH.out (HatL.out.2.2.below Hb1.out).drew (HatH.out.below Hb1.out).drew (.trans (.right (.refl _)) HsL.out) HsH.out (by omega)).mono ?_;rintro e w2 ⟨J,rfl,hj⟩;refine hK _ _ (Hkd.out.mono hj.bel) ?_;clear hK hK0 K K0;have Hk2:=Lib.hid (Hkd.out.mono hj.bel);have Hj:=Lib.hid hj;clear hj
   have hcnt:=Hj.out.num;simp only [Tr.cnt] at hcnt;refine RegR.can_turns (fun K K0 hK hK0=>?_);go_simp;refine (with_any l J w2 ((HatL.out.1.below Hb1.out).below Hk2.out) ((HatL.out.2.1.below Hb1.out).below Hk2.out) Hj.out.at_ (by omega)).mono ?_;rintro e w3 ⟨b2,rfl,hb2,hat3,hbel3⟩;refine hK _ _ (Hk2.out.mono hbel3) ?_;clear hK hK0 K K0;have Hat3:=Lib.hid hat3;clear hat3
   have Hbel3:=Lib.hid hbel3;clear hbel3
   have Hk3:=Lib.hid (Hb1.out.trans ((Hk2.out.mono Hbel3.out).bel.mono Hb1.out.size));iterate 1 (refine RegR.can_reads (fun K hK=>?_);go_simp;refine ⟨_,fun _ _=>rfl,hK _ ?_⟩;clear hK K)
   refine RegR.can_nil ?_;go_wp2_with fail;go_ret;have hnb:n≤b2:=Nat.le_trans hn (Nat.le_trans Hb1.out.size (Nat.le_trans Hk2.out.size hb2));refine ⟨.node b2 k v wt l J,rfl,Hat3.out,Hk3.out,?_,.new hnb (.old (.trans (.left (.refl _)) HsL.out)) Hj.out.mad,?_,?_⟩
   ·
    have hs:=Hj.out.shp;simp only [Tr.sh] at hs ⊢;rw [Sh.join,if_pos hab',hs]
   ·
    have h1:=Hj.out.new;have h2:=HlL.out.2.1.newc;have h3 : ¬ b2<n:=by omega
    simp only [Tr.newc,if_neg h3,h2,Tr.dep];omega
   ·
    simp only [Tr.cnt];omega
  | false =>
   go_upto_region 7 with ((with_reducible refine Hab.out.mono ?_);rintro e w1 ⟨rfl,hb1⟩;have Hb1:=Lib.hid hb1;clear hb1)
   have hkd:KeptW w1 w1.drew:=⟨rfl,rfl,rfl,Nat.le_refl _,fun _ _=>rfl⟩;have Hkd:=Lib.hid hkd;clear hkd
   refine RegR.wp_region_can (KeptW w1) [(0,0),(1,0),(2,0),(3,0),(4,0),(5,0),(7,0),(8,0),(9,0),(10,0),(6,1),(11,1),(12,0)] (by kernel_rfl) (by kernel_rfl) (fun _ _ d _ _ h=>by cases d <;> exact h) Hkd.out ?_;dsimp only [RegR.pick,List.getElem?_cons_zero,List.getElem?_cons_succ];iterate 5 (refine RegR.can_reads (fun K hK=>?_);go_simp;refine ⟨_,fun _ _=>rfl,hK _ ?_⟩;clear hK K)
   refine RegR.can_reads (fun K hK=>?_);go_simp;refine ⟨.pointer l'.ptr,fun y hy=>?_,hK _ ?_⟩
   ·
    obtain ⟨f0,f1,f2,f3,f4,f5,f6⟩:=((HatH.out.1.below Hb1.out).below hy).cells;clear f0 f1 f2 f5 f6;go_simp
   clear hK K;iterate 3 (refine RegR.can_reads (fun K hK=>?_);go_simp;refine ⟨_,fun _ _=>rfl,hK _ ?_⟩;clear hK K)
   refine RegR.can_reads (fun K hK=>?_);go_simp;refine ⟨.pointer r'.ptr,fun y hy=>?_,hK _ ?_⟩
   ·
    obtain ⟨f0,f1,f2,f3,f4,f5,f6⟩:=((HatH.out.1.below Hb1.out).below hy).cells;clear f0 f1 f2 f5 f6;go_simp
   clear hK K;refine RegR.can_turns (fun K K0 hK hK0=>?_);go_simp;refine (Hih.out (.node b k v wt l r) l' (by simp only [Tr.cnt];omega) n w1.drew (Nat.le_trans hn Hb1.out.size) HlL.out HlH.out.2.1 (HatL.out.below Hb1.out).drew (HatH.out.2.1.below Hb1.out).drew HsL.out (.trans (.left (.refl _)) HsH.out) (by omega)).mono ?_;rintro e w2 ⟨J,rfl,hj⟩;refine hK _ _ (Hkd.out.mono hj.bel) ?_;clear hK hK0 K K0;have Hk2:=Lib.hid (Hkd.out.mono hj.bel);have Hj:=Lib.hid hj;clear hj
   have hcnt:=Hj.out.num;simp only [Tr.cnt] at hcnt;refine RegR.can_turns (fun K K0 hK hK0=>?_);go_simp;refine (with_any J r' w2 ((HatH.out.1.below Hb1.out).below Hk2.out) Hj.out.at_ ((HatH.out.2.2.below Hb1.out).below Hk2.out) (by omega)).mono ?_;rintro e w3 ⟨b2,rfl,hb2,hat3,hbel3⟩;refine hK _ _ (Hk2.out.mono hbel3) ?_;clear hK hK0 K K0;have Hat3:=Lib.hid hat3;clear hat3
   have Hbel3:=Lib.hid hbel3;clear hbel3
   have Hk3:=Lib.hid (Hb1.out.trans ((Hk2.out.mono Hbel3.out).bel.mono Hb1.out.size));iterate 1 (refine RegR.can_reads (fun K hK=>?_);go_simp;refine ⟨_,fun _ _=>rfl,hK _ ?_⟩;clear hK K)
   refine RegR.can_nil ?_;go_wp2_with fail;go_ret;have hnb:n≤b2:=Nat.le_trans hn (Nat.le_trans Hb1.out.size (Nat.le_trans Hk2.out.size hb2));refine ⟨.node b2 k' v' wt' J r',rfl,Hat3.out,Hk3.out,?_,.new hnb Hj.out.mad (.old (.trans (.right (.refl _)) HsH.out)),?_,?_⟩
   ·
    have hs:=Hj.out.shp;simp only [Tr.sh] at hs ⊢;rw [Sh.join,if_neg (by rw [hab'];exact Bool.false_ne_true),hs]
   ·
    have h1:=Hj.out.new;have h2:=HlH.out.2.2.newc;have h3 : ¬ b2<n:=by omega
    simp only [Tr.newc,if_neg h3,h2,Tr.dep];omega
   ·
    simp only [Tr.cnt];omega
end Go.Proofs.YtbckjgageofldaaGreat
namespace Go.Proofs.YtbckjgageofldaaGreat.RegG
open Go
section
variable {F : Fence} {n : Nat} {P : Program} {ops : Array Oper} {Q : Exit → Act → World → Prop} {md : Region.Mode}
def noCall (o:Oper):Bool:=match o.op with
 | .call c=>(match c.callee with | .builtin _=>true | _=>false)
 | _=>true
theorem about_none {o:Oper} (h:noCall o=true) (w:World) (ρ:Operand→Value):o.about P w ρ=none:=by
 unfold noCall at h;unfold Oper.about;cases ho:o.op <;> rw [ho] at h <;> first | rfl | skip
 rename_i c
 simp only at h ⊢;cases hc:c.callee <;> rw [hc] at h <;> first | (cases h;done) | skip
 simp [resolve,hc,Target.leads]
def noDefer (o:Oper):Bool:=match o.op with | .defer _=>false | _=>true
theorem sem_of {o:Oper} (h:noDefer o=true) (ρ:Operand→Value):o.semAt F.round ρ=execOp ρ o:=Oper.semAt_eq _ ρ o (by intro c e;simp [noDefer,e] at h)
theorem yif_op {R:World→Prop} {i:Nat} {o:Oper} {v:Value} {a:Act} (hro:∀ o ∈ ops,noDefer o=true) (hi:ops[i]?=some o) (hy:YieldsIf P ops R o v a) (hc:noCall o=true)
  {K:Act→World→Prop} {w:World} (hR:R w) (h:K (a.put o.dst v) w):wpOpIn F n P ops Q i K a w:=by
 unfold Go.wpOpIn;simp only [hi];have hab:∀ f,o.about P w a.eval=some f→F.fn f:=fun f hf=>by rw [about_none hc] at hf;cases hf
 rcases hy with ⟨hw,hv⟩ | ⟨hw,rfl⟩
 ·
  simp only [hw,if_true,Oper.wpIn,sem_of (F:=F) (hro o (Array.mem_of_getElem? hi)),hv w hR,Oper.uponIn];exact ⟨hab,h⟩
 ·
  simp only [hw,Bool.false_eq_true,if_false];exact ⟨hab,h⟩
theorem putIf {R:World→Prop} {j:Nat} {oi oj:Oper} {v:Value} (hro:∀ o ∈ ops,noDefer o=true) (hj:ops[j]?=some oj) (hap:oi.apart ops oj=true)
  (hsi:∀ cs b,oi.op≠.select cs b) (hsj:∀ cs b,oj.op≠.select cs b)
  (hQ:∀ c a w,Q (.panic c) (a.put oi.dst v) w→Q (.panic c) a w) {K:Act→World→Prop} {a:Act} {w:World}
  (hy:YieldsIf P ops R oi v a) (h:wpOpIn F n P ops Q j K (a.put oi.dst v) w) :
  wpOpIn F n P ops Q j (fun a' w'=>YieldsIf P ops R oi v a'∧K (a'.put oi.dst v) w') a w:=by
 obtain ⟨h1,h2,h3⟩:=Oper.apart_spec hap;have keep:∀ (a:Act),YieldsIf P ops R oi v a→∀ u,YieldsIf P ops R oi v (a.put oj.dst u):=fun a hy u =>
  hy.of_same (execOp_put oi hsi a oj.dst u h3) (wanted_put oi a oj.dst u h3)
 have keepD:∀ d,YieldsIf P ops R oi v { a with defers:=d::a.defers }:=fun d=>hy.of_same rfl rfl
 have hmj:=Array.mem_of_getElem? hj;unfold wpOpIn at *
 simp only [hj] at *
 rw [wanted_put oj a oi.dst v h1,about_put oj w a oi.dst v h1] at h;split
 ·
  rename_i hw
  simp only [hw,if_true] at h;unfold Oper.wpIn at *
  rw [about_put oj w a oi.dst v h1] at h;refine ⟨h.1,?_⟩;have h:=h.2;rw [sem_of (F:=F) (hro oj hmj),execOp_put oj hsj a oi.dst v h1] at h;rw [sem_of (F:=F) (hro oj hmj)];generalize (execOp a.eval oj).run P w=r at *;cases r with
  | ok x w' =>
   cases x <;> simp only [Oper.uponIn] at h ⊢
   case value u=>exact ⟨keep a hy u,by rw [← Act.put_comm a v u h2];exact h⟩
   case skip=>exact ⟨keep a hy _,by rw [← Act.put_comm a v undef h2];exact h⟩
   case defer d =>
    refine ⟨keep _ (keepD d) _,?_⟩;rw [← Act.put_comm _ v undef h2, ← Act.put_defers];exact h
   case enter f args =>
    refine ⟨h.1,CallsIn.mono h.2 fun e w'' he=>?_⟩;cases e with
    | returned u=>exact ⟨keep a hy u,by rw [← Act.put_comm a v u h2];exact he⟩
    | panicked c=>exact hQ _ _ _ he
    | outgrown=>exact he
   case row row args=>exact ⟨h.1,RowsIn.mono h.2 fun u w'' he=>⟨keep a hy u,by rw [← Act.put_comm a v u h2];exact he⟩⟩
   case round l f tmps assign body =>
    refine ⟨h.1,RoundIn.mono h.2 fun e w'' he=>?_⟩;cases e with
    | returned u=>exact ⟨keep a hy u,by rw [← Act.put_comm a v u h2];exact he⟩
    | panicked c=>exact hQ _ _ _ he
    | outgrown=>exact he
  | halt x w' =>
   cases x <;> simp only [Oper.uponIn] at h ⊢
   case panic u=>exact hQ _ _ _ h
 ·
  rename_i hw
  simp only [hw] at h;exact ⟨h.1,keep a hy _,by rw [← Act.put_comm a v undef h2];exact h.2⟩
def onsOf (md:Region.Mode) (ops:Array Oper) (j:Nat):List Nat:=match ops[j]? with
 | some o=>(o.after.toList.filter (Region.binds md)).map (·.on)
 | none=>[]
def back (md:Region.Mode) (ops:Array Oper):Nat→List Nat→List Nat
 | 0,l=>l
 | i+1,l=>back md ops i (if l.contains i then onsOf md ops i++l else l)
def Closed (md:Region.Mode) (ops:Array Oper) (listed:Array Bool):Prop:=∀ j,listed.getD j false=true→∀ e ∈ onsOf md ops j,listed.getD e false=true
theorem back_listed {listed:Array Bool} (h:Closed md ops listed):∀ (m:Nat) (l:List Nat),(∀ j ∈ l,listed.getD j false=true)→∀ j ∈ back md ops m l,listed.getD j false=true
 | 0,_,hl,j,hj=>hl j hj
 | m+1,l,hl,j,hj=>back_listed h m _ (fun k hk=>by
   split at hk
   ·
    rename_i hc
    rcases List.mem_append.1 hk with hk | hk
    ·
     exact h m (hl m (by simpa using hc)) k hk
    ·
     exact hl k hk
   ·
    exact hl k hk) j hj
theorem ready_ons {listed:Array Bool} {j:Nat} (h:j ∈ Region.ready md ops listed):∀ e ∈ onsOf md ops j,listed.getD e false=true:=by
 obtain ⟨_,o,ho,hall⟩:=mem_ready.1 h;intro e he;simp only [onsOf,ho,List.mem_map,List.mem_filter] at he;obtain ⟨q,⟨h1,h2⟩,rfl⟩:=he;exact hall q (by simpa using h1) h2
theorem Closed.set {listed:Array Bool} {i:Nat} (h:Closed md ops listed) (hi:i ∈ Region.ready md ops listed):Closed md ops (listed.setIfInBounds i true):=by
 intro j hj e he;by_cases hij:i=j
 ·
  subst hij;exact getD_set_true (ready_ons hi e he)
 ·
  rw [getD_set_ne false hij] at hj;exact getD_set_true (h j hj e he)
theorem Closed.none (n:Nat):Closed md ops (Array.replicate n false):=by
 intro j hj;have:(Array.replicate n false).getD j false=false:=by
  simp only [Array.getD_eq_getD_getElem?,Array.getElem?_replicate];split <;> rfl
 rw [this] at hj;cases hj
theorem bar_not {bar:Nat→Bool} {listed:Array Bool} {i j:Nat} (h:Closed md ops listed) (hj:j ∈ Region.ready md ops listed) (hi:i ∈ Region.ready md ops listed)
  (hb:bar j=true→i ∈ back md ops ops.size (onsOf md ops j)):bar j=false:=by
 rw [Bool.eq_false_iff];intro hbj;obtain ⟨h0,o,ho,_⟩:=mem_ready.1 hi;have h4:=back_listed h _ _ (ready_ons hj) i (hb hbj);rcases Nat.lt_or_ge i listed.size with h' | h'
 ·
  simp [h'] at h0 h4;rw [h0] at h4;cases h4
 ·
  simp [Array.getElem?_eq_none h'] at h4
def Into (b:Bool) (R:World→Prop) (K:(World→Prop)→Act→World→Prop) (a:Act) (w:World):Prop:=∃ R':World→Prop,R' w∧(b=true∨∀ x,R' x→R x)∧K R' a w
theorem yif_mono {P:Program} {ops:Array Oper} {R R':World→Prop} {o:Oper} {v:Value} {a:Act} (h:YieldsIf P ops R o v a) (hs:∀ x,R' x→R x):YieldsIf P ops R' o v a:=by
 rcases h with ⟨h1,h2⟩ | h
 ·
  exact .inl ⟨h1,fun x hx=>h2 x (hs x hx)⟩
 ·
  exact .inr h
def anyR (bar:Nat→Bool) (F:Fence) (n:Nat) (P:Program) (md:Region.Mode) (ops:Array Oper) (Q:Exit→Act→World→Prop):Nat→Array Bool→(World→Prop)→Act→World→Prop
 | 0,listed,_,a,w=>Region.ready md ops listed=[]∧Q .normal a w
 | fuel+1,listed,R,a,w=>(Region.ready md ops listed=[]→Q .normal a w) ∧
   ∀ i ∈ Region.ready md ops listed,wpOpIn F n P ops Q i (Into (bar i) R (fun R' a' w'=>anyR bar F n P md ops Q fuel (listed.setIfInBounds i true) R' a' w')) a w
theorem any_of {bar:Nat→Bool}:∀ (fuel:Nat) (listed:Array Bool) (R:World→Prop) (a:Act) (w:World),anyR bar F n P md ops Q fuel listed R a w→wpAnyIn F n P md ops Q fuel listed a w
 | 0,_,_,_,_,h=>h
 | fuel+1,_,_,_,_,h=>⟨h.1,fun i hi=>wpOpIn_mono (fun a' w' ⟨R',_,_,h3⟩=>any_of fuel _ R' a' w' h3) (h.2 i hi)⟩
theorem first {bar:Nat→Bool} {i:Nat} {oi:Oper} {v:Value} (hro:∀ o ∈ ops,noDefer o=true) (hi:ops[i]?=some oi) (hc:noCall oi=true) (hsel:∀ (j:Nat) (o:Oper) cs b,ops[j]?=some o→o.op≠.select cs b)
  (hQ:∀ c a w,Q (.panic c) (a.put oi.dst v) w→Q (.panic c) a w) :
  ∀ (fuel:Nat) (listed:Array Bool) (R:World→Prop) (a:Act) (w:World),
   (∀ j oj,ops[j]?=some oj→j≠i→listed.getD j true=false→(∀ e ∈ oj.after,Region.binds md e=true→e.on≠i)→oi.apart ops oj=true) →
   (∀ j,listed.getD j true=false→j≠i→bar j=true→i ∈ back md ops ops.size (onsOf md ops j))→Closed md ops listed→i ∈ Region.ready md ops listed→R w→YieldsIf P ops R oi v a →
   anyR bar F n P md ops Q fuel (listed.setIfInBounds i true) R (a.put oi.dst v) w→anyR bar F n P md ops Q (fuel+1) listed R a w:=by
 intro fuel;induction fuel with
 | zero =>
  intro listed R a w _ _ _ hr hR hy H;refine ⟨fun h=>(by rw [h] at hr;cases hr),fun j hj=>?_⟩;by_cases hji:j=i
  ·
   subst hji;exact yif_op hro hi hy hc hR ⟨R,hR,.inr fun _ h=>h,H⟩
  ·
   have:=ready_mono hj hji;rw [H.1] at this;cases this
 | succ fuel ih =>
  intro listed R a w hfree hbar hcl hr hR hy H;refine ⟨fun h=>(by rw [h] at hr;cases hr),fun j hj=>?_⟩;by_cases hji:j=i
  ·
   subst hji;exact yif_op hro hi hy hc hR ⟨R,hR,.inr fun _ h=>h,H⟩
  ·
   have h1:=H.2 j (ready_mono hj hji);obtain ⟨hjun,oj,hoj,hall⟩:=mem_ready.1 hj;have hnot:∀ e ∈ oj.after,Region.binds md e=true→e.on≠i:=fun e he hb heq=>by
    have h1:=hall e he hb;have h0:=(mem_ready.1 hr).1;rw [heq] at h1;rcases Nat.lt_or_ge i listed.size with h' | h'
    ·
     simp [h'] at h0 h1;rw [h0] at h1;cases h1
    ·
     simp [Array.getElem?_eq_none h'] at h1
   have hb:bar j=false:=bar_not hcl hj hr (hbar j hjun hji);have h2:=putIf hro hoj (hfree j oj hoj hji hjun hnot) (fun cs b=>hsel i oi cs b hi) (fun cs b=>hsel j oj cs b hoj) hQ hy h1;have hfree':∀ k ok,ops[k]?=some ok→k≠i→(listed.setIfInBounds j true).getD k true=false →
     (∀ e ∈ ok.after,Region.binds md e=true→e.on≠i)→oi.apart ops ok=true:=fun k ok hk hki hun hno=>by
    refine hfree k ok hk hki ?_ hno;by_cases hjk:j=k
    ·
     subst hjk;exact hjun
    ·
     rw [getD_set_ne true hjk] at hun;exact hun
   have hbar':∀ k,(listed.setIfInBounds j true).getD k true=false→k≠i→bar k=true→i ∈ back md ops ops.size (onsOf md ops k):=fun k hun hki hbk=>by
    refine hbar k ?_ hki hbk;by_cases hjk:j=k
    ·
     subst hjk;exact hjun
    ·
     rw [getD_set_ne true hjk] at hun;exact hun
   refine wpOpIn_mono (fun a' w' ⟨hy',R',hR',hor,hK⟩=>?_) h2;have hsub:=hor.resolve_left (by simp [hb]);refine ⟨R',hR',.inr hsub,ih (listed.setIfInBounds j true) R' a' w' hfree' hbar' (hcl.set hj) (ready_mono hr (Ne.symm hji)) hR' (yif_mono hy' hsub) ?_⟩;rw [Array.setIfInBounds_comm _ _ hji];exact hK
def can (F:Fence) (n:Nat) (P:Program) (ops:Array Oper) (Q:Exit→Act→World→Prop):List (Oper × Nat)→(World→Prop)→Act→World→Prop
 | [],_,a,w=>Q .normal a w
 | (o,0)::r,R,a,w =>
  if Region.wanted o (yielded ops a.tmps) then ∃ v,(∀ x,R x→(execOp a.eval o).run P x=.ok (.value v) x)∧can F n P ops Q r R (a.put o.dst v) w
  else can F n P ops Q r R (a.put o.dst undef) w
 | (o,1)::r,R,a,w =>
  if Region.wanted o (yielded ops a.tmps) then o.wpIn F n P a w (fun a' w'=>∃ R':World→Prop,(∀ x,R' x→R x)∧R' w'∧can F n P ops Q r R' a' w') Q
  else (∀ f,o.about P w a.eval=some f→F.fn f)∧can F n P ops Q r R (a.put o.dst undef) w
 | (o,_+2)::r,R,a,w =>
  if Region.wanted o (yielded ops a.tmps) then o.wpIn F n P a w (fun a' w'=>∃ R':World→Prop,R' w'∧can F n P ops Q r R' a' w') Q
  else (∀ f,o.about P w a.eval=some f→F.fn f)∧can F n P ops Q r R (a.put o.dst undef) w
def pick (l:List Oper):List (Nat × Nat)→List (Oper × Nat)
 | []=>[]
 | (k,e)::r=>match l[k]? with | some o=>(o,e)::pick l r | none=>[]
structure Can (F:Fence) (n:Nat) (P:Program) (ops:Array Oper) (Q:Exit→Act→World→Prop) (l:List (Oper × Nat)) (R:World→Prop) (a:Act) (w:World):Prop where
 out:can F n P ops Q l R a w
def barOf (σ:List (Nat × Nat)) (j:Nat):Bool:=σ.any fun p=>p.1 == j && decide (2≤p.2)
def noPanic (Q:Exit→Act→World→Prop):Exit→Act→World→Prop
 | .panic _,_,_=>False
 | e,a,w=>Q e a w
theorem can_nil {R:World→Prop} {a:Act} {w:World} (h:Q .normal a w):Can F n P ops Q [] R a w:=⟨h⟩
theorem can_calm {R:World→Prop} {a:Act} {w:World} (h:Q .normal a w):Can F n P ops (noPanic Q) [] R a w:=⟨h⟩
end
end Go.Proofs.YtbckjgageofldaaGreat.RegG
namespace Go.Proofs.YtbckjgageofldaaGreat
open Go.RowKit
open Go.MapKept
structure KeyEnc (P:Program) (T:TypeId) (α:Type) [DecidableEq α] where
 enc:α→Value
 desc:TypeDesc
 und:P.underlying T=some desc
 same:∀ a b,Instr.sameNow desc (enc a) (enc b)=some (decide (a=b))
 ck:∀ (n:Nat) (a:α) (e:Bool) (w:World),(Instr.checkKey e (n+1) T (enc a)).run P w=.ok () w
 bits:∀ a,Instr.sameBits 10000 (enc a) (enc a)=true
def keyU8 (P:Program) (T:TypeId) (h:P.underlying T=some (.int .u8)):KeyEnc P T UInt8 where
 enc x:=.int .u8 (x.toNat:Int)
 desc:=.int .u8
 und:=h
 same a b:=by
  simp only [Instr.sameNow,if_true,Option.some.injEq];rw [Bool.eq_iff_iff,beq_iff_eq,decide_eq_true_eq];exact ⟨fun h=>UInt8.toNat_inj.1 (Int.ofNat.inj h),fun h=>by rw [h]⟩
 ck n a e w:=by simp [Instr.checkKey,run_underlying h]
 bits a:=by simp [Instr.sameBits]
section
variable {P : Program} {T : TypeId} {α : Type} [DecidableEq α] (K : KeyEnc P T α)
def mget {β:Type} (l:List (α × β)) (k:α):Option β:=(l.find? fun p=>decide (p.1=k)).map (·.2)
def mput {β:Type} (l:List (α × β)) (k:α) (v:β):List (α × β):=if (mget l k).isSome then l.map fun p=>if p.1=k then (k,v) else p else l++[(k,v)]
structure Ents (es:Array MapEntry) (clock:Nat) (l:List (α × Value)):Prop where
 read:es.toList.map (fun e=>(e.key,e.val))=l.map fun p=>(K.enc p.1,p.2)
 nodup:(l.map (·.1)).Nodup
 born:(es.toList.map (·.born)).Nodup
 old:∀ e ∈ es.toList,e.born<clock
def MapAt (w:World) (B:Nat) (l:List (α × Value)):Prop:=∃ es clock,w.heap[B]?=some (.map es clock)∧Ents K es clock l
theorem MapAt.lt {w:World} {B:Nat} {l:List (α × Value)} (h:MapAt K w B l):B<w.heap.size:=by
 obtain ⟨es,clock,hb,_⟩:=h;exact (Array.getElem?_eq_some_iff.1 hb).1
theorem MapAt.of_block {w w':World} {B:Nat} {l:List (α × Value)} (h:MapAt K w B l) (hb:w'.heap[B]?=w.heap[B]?):MapAt K w' B l:=by
 obtain ⟨es,clock,h1,h2⟩:=h;exact ⟨es,clock,hb.trans h1,h2⟩
theorem MapAt.below {w w':World} {B:Nat} {l:List (α × Value)} (h:MapAt K w B l) (hb:Below w.heap.size w w'):MapAt K w' B l:=h.of_block K (hb.block B h.lt)
theorem MapAt.drew {w:World} {B:Nat} {l:List (α × Value)} (h:MapAt K w B l):MapAt K w.drew B l:=h
theorem MapAt.made (w:World):MapAt K (w.alloc (.map #[] 0)) w.heap.size [] :=
 ⟨#[],0,(MapKept.heap_alloc w _).1,by simp,by simp,by simp,by simp⟩
theorem findNow_list:∀ (es:List MapEntry) (l:List (α × Value)) (k:α) (i:Nat),es.map (fun e=>(e.key,e.val))=l.map (fun p=>(K.enc p.1,p.2)) →
  ∃ r,Instr.findNow K.desc (K.enc k) es i=some r ∧
   ((r=none∧mget l k=none∧∀ p ∈ l,p.1≠k)∨∃ j v,r=some (i+j,v)∧mget l k=some v∧j<es.length∧(∀ q,l[j]?=some q→q.1=k)∧(∀ j',j'<j→∀ q,l[j']?=some q→q.1≠k))
 | [],l,k,i,h=>by
  cases l with
  | nil=>exact ⟨none,rfl,.inl ⟨rfl,rfl,by simp⟩⟩
  | cons=>simp at h
 | e::es,l,k,i,h=>by
  cases l with
  | nil=>simp at h
  | cons p l =>
   simp only [List.map_cons,List.cons.injEq,Prod.mk.injEq] at h;obtain ⟨⟨hk,hv⟩,ht⟩:=h;simp only [Instr.findNow,hk,K.same];by_cases e1:k=p.1
   ·
    refine ⟨some (i,e.val),by simp [e1],.inr ⟨0,e.val,rfl,by simp [mget,e1,hv],by simp,fun q hq=>?_,fun j' hj'=>absurd hj' (by omega)⟩⟩;simp at hq;rw [← hq,e1]
   ·
    obtain ⟨r,h1,h2⟩:=findNow_list es l k (i+1) ht;refine ⟨r,by simp [e1,h1],?_⟩;have e2 : ¬ p.1=k:=fun h=>e1 h.symm
    rcases h2 with ⟨hr,hn,hall⟩ | ⟨j,v,hr,hg,hj,ha,hb⟩
    ·
     exact .inl ⟨hr,by simpa [mget,e2] using hn,by simp only [List.mem_cons,forall_eq_or_imp];exact ⟨e2,hall⟩⟩
    ·
     refine .inr ⟨j+1,v,by rw [hr];congr 2;omega,by simpa [mget,e2] using hg,by simp;omega,by simpa using ha,fun j' hj' q hq=>?_⟩;cases j' with
     | zero=>simp at hq;rw [← hq];exact e2
     | succ j'=>exact hb j' (by omega) q (by simpa using hq)
theorem run_findKey_list {w:World} {es:Array MapEntry} {clock:Nat} {l:List (α × Value)} (h:Ents K es clock l) (k:α) :
  ∃ r,(Instr.findKey T (K.enc k) es.toList).run P w=.ok r w ∧
   ((r=none∧mget l k=none∧∀ p ∈ l,p.1≠k)∨∃ j v,r=some (j,v)∧mget l k=some v∧j<es.size∧(∀ q,l[j]?=some q→q.1=k)∧(∀ j',j'<j→∀ q,l[j']?=some q→q.1≠k)):=by
 obtain ⟨r,h1,h2⟩:=findNow_list K es.toList l k 0 h.read;refine ⟨r,run_findKey K.und h1,?_⟩;rcases h2 with h2 | ⟨j,v,hr,h3⟩
 ·
  exact .inl h2
 ·
  exact .inr ⟨j,v,by simpa using hr,by simpa using h3⟩
theorem run_lookup_at {w:World} {B:Nat} {l:List (α × Value)} (h:MapAt K w B l) {t E:TypeId} (ht:P.underlying t=some (.map T E)) {z:Value} (hz:(zeroValue E).run P w=.ok z w) (k:α) (ok:Bool) :
  (Instr.lookup t (.map (some B)) (K.enc k) ok).run P w=.ok (if ok then .tuple #[(mget l k).getD z,.bool (mget l k).isSome] else (mget l k).getD z) w:=by
 obtain ⟨es,clock,hb,he⟩:=h;obtain ⟨r,h1,h2⟩:=run_findKey_list K (w:=w) he k;simp only [Instr.lookup,Sem.run_bind,run_underlying ht,Result.andThen,MapKept.run_getObj_map hb,Sem.run_pure,K.ck 9999,h1];rcases h2 with ⟨rfl,hg,_⟩ | ⟨j,v,rfl,hg,_⟩
 ·
  simp only [Sem.run_bind,hz,Result.andThen,Sem.run_pure,hg];cases ok <;> simp
 ·
  simp only [hg];cases ok <;> simp [Sem.run_pure]
theorem zip_split {es:Array MapEntry} {l:List (α × Value)} (h:es.toList.map (fun e=>(e.key,e.val))=l.map fun p=>(K.enc p.1,p.2)):es.size=l.length:=by
 have:=congrArg List.length h;simpa using this
theorem run_update_at {w:World} {B:Nat} {l:List (α × Value)} (h:MapAt K w B l) {t E:TypeId} (ht:P.underlying t=some (.map T E)) (k:α) (v:Value) :
  ∃ w',(Instr.mapUpdate t (.map (some B)) (K.enc k) v).run P w=.ok () w'∧MapAt K w' B (mput l k v)∧w.grownBy w' (some B)∧w'.heap.size=w.heap.size:=by
 have hlt:=h.lt;obtain ⟨es,clock,hb,he⟩:=h;obtain ⟨r,h1,h2⟩:=run_findKey_list K (w:=w) he k;have hsz:=zip_split K he.read;rcases h2 with ⟨rfl,hg,hall⟩ | ⟨j,v0,rfl,hg,hj,ha,hbef⟩
 ·
  refine ⟨{ w with heap:=w.heap.setIfInBounds B (.map (es.push { key:=K.enc k,val:=v,born:=clock }) (clock+1)) },?_,⟨_,_,Array.getElem?_setIfInBounds_self_of_lt hlt,?_⟩,⟨rfl,rfl,rfl,by simp,fun i _ hne=>?_⟩,by simp⟩
  ·
   simp only [Instr.mapUpdate,Sem.run_bind,run_underlying ht,Result.andThen,MapKept.run_getObj_map hb,K.ck 9999,h1];exact MapKept.run_setObj_map _ hb
  ·
   have e:mput l k v=l++[(k,v)]:=by simp [mput,hg]
   rw [e];refine ⟨by simp [he.read],?_,?_,?_⟩
   ·
    rw [List.map_append,List.nodup_append];refine ⟨he.nodup,by simp,?_⟩;intro a ha b hb';obtain ⟨p,hp,rfl⟩:=List.mem_map.1 ha;simp at hb';subst hb';exact hall p hp
   ·
    simp only [Array.toList_push,List.map_append,List.map_cons,List.map_nil];rw [List.nodup_append];refine ⟨he.born,by simp,?_⟩;intro a ha b hb';obtain ⟨p,hp,rfl⟩:=List.mem_map.1 ha;simp at hb';subst hb';exact Nat.ne_of_lt (he.old p hp)
   ·
    intro e' he';simp only [Array.toList_push,List.mem_append,List.mem_cons,List.not_mem_nil,or_false] at he';rcases he' with h | rfl
    ·
     exact Nat.lt_succ_of_lt (he.old e' h)
    ·
     exact Nat.lt_succ_self _
  ·
   rw [Array.getElem?_setIfInBounds_ne (fun e=>hne (by rw [e]))]
 ·
  have hej:es[j]?=some es[j]:=Array.getElem?_eq_getElem hj;have hlj:l[j]?=some (l[j]'(by omega)):=List.getElem?_eq_getElem (by omega);have hkj:(l[j]'(by omega)).1=k:=ha _ hlj;have hrj:(es[j].key,es[j].val)=(K.enc (l[j]'(by omega)).1,(l[j]'(by omega)).2):=by
   have:=congrArg (fun x=>x[j]?) he.read;simp only [List.getElem?_map,Array.getElem?_toList,hej,hlj,Option.map_some,Option.some.injEq] at this;exact this
  have hkey:es[j].key=K.enc k:=by rw [← hkj];exact (Prod.mk.inj hrj).1
  have hstay:(Instr.keyThatStays (((es[j]?).map (·.key)).getD (K.enc k)) (K.enc k)).run P w=.ok (K.enc k) w:=by
   rw [hej];simp only [Option.map_some,Option.getD_some,hkey,Instr.keyThatStays,K.bits,if_true];rfl
  refine ⟨{ w with heap:=w.heap.setIfInBounds B (.map (es.modify j fun e=>{ e with key:=K.enc k,val:=v }) clock) },?_,⟨_,_,Array.getElem?_setIfInBounds_self_of_lt hlt,?_⟩,⟨rfl,rfl,rfl,by simp,fun i _ hne=>?_⟩,by simp⟩
  ·
   simp only [Instr.mapUpdate,Sem.run_bind,run_underlying ht,Result.andThen,MapKept.run_getObj_map hb,K.ck 9999,h1,hstay];exact MapKept.run_setObj_map _ hb
  ·
   have e:mput l k v=l.map fun p=>if p.1=k then (k,v) else p:=by simp [mput,hg]
   have hread:(es.modify j fun e=>{ e with key:=K.enc k,val:=v }).toList.map (fun e=>(e.key,e.val))=(mput l k v).map fun p=>(K.enc p.1,p.2):=by
    rw [e];apply List.ext_getElem?
    intro i;simp only [List.getElem?_map,Array.getElem?_toList,Array.getElem?_modify];have hi:=congrArg (fun x=>x[i]?) he.read;simp only [List.getElem?_map,Array.getElem?_toList] at hi;by_cases ij:j=i
    ·
     subst ij;simp [hej,hlj,hkj]
    ·
     simp only [ij,if_false];rw [hi];cases hli:l[i]? with
     | none=>simp
     | some q =>
      have hne:q.1≠k:=by
       intro hq;have hi':i<l.length:=(List.getElem?_eq_some_iff.1 hli).1;have h1:(l.map (·.1))[i]?=some k:=by simp [hli,hq]
       have h2:(l.map (·.1))[j]?=some k:=by rw [List.getElem?_map,hlj];simp [hkj]
       exact ij ((List.getElem?_inj (by simpa using hi') he.nodup).1 (h1.trans h2.symm)).symm
      simp [hne]
   refine ⟨hread,?_,?_,?_⟩
   ·
    rw [e,List.map_map];have:(fun p:α × Value=>(if p.1=k then (k,v) else p).1)=(·.1):=by
     funext p;by_cases hp:p.1=k <;> simp [hp]
    have e2:((fun x:α × Value=>x.1) ∘ fun p:α × Value=>if p.1=k then (k,v) else p)=(·.1):=this;rw [e2];exact he.nodup
   ·
    have e3:(es.modify j fun e=>{ e with key:=K.enc k,val:=v }).toList.map (·.born)=es.toList.map (·.born):=by
     apply List.ext_getElem?
     intro i;simp only [List.getElem?_map,Array.getElem?_toList,Array.getElem?_modify];by_cases ij:j=i
     ·
      subst ij;rw [if_pos rfl,hej];rfl
     ·
      simp [ij]
    rw [e3];exact he.born
   ·
    intro e' he';obtain ⟨i,hi⟩:=List.getElem?_of_mem he';rw [Array.getElem?_toList,Array.getElem?_modify] at hi;by_cases ij:j=i
    ·
     subst ij;simp only [if_true,hej,Option.map_some,Option.some.injEq] at hi;rw [← hi];exact he.old es[j] (Array.getElem_mem_toList hj)
    ·
     simp only [ij,if_false] at hi;exact he.old e' (List.mem_of_getElem? (by rw [Array.getElem?_toList];exact hi))
  ·
   rw [Array.getElem?_setIfInBounds_ne (fun e=>hne (by rw [e]))]
theorem Ents.size {es:Array MapEntry} {clock:Nat} {l:List (α × Value)} (h:Ents K es clock l):es.size=l.length:=by
 have:=congrArg List.length h.read;simpa using this
end
structure CmdV where
 client:BitVec 8
 seq:BitVec 32
 kind:UInt8
 key:ByteArray
 old:ByteArray
 fresh:ByteArray
 set:BitVec 8
instance:Inhabited CmdV:=⟨⟨0#8,0#32,0,ByteArray.empty,ByteArray.empty,ByteArray.empty,0#8⟩⟩
def cmdCells (c:CmdV):List Value:=[.int .u8 (c.client.toNat:Int),.int .u32 (c.seq.toNat:Int),.int .u8 (c.kind.toNat:Int),.string c.key,.string c.old,.string c.fresh,.int .u8 (c.set.toNat:Int)]
def hasOf (k:UInt8):Option Nat:=if k=1 then some 1 else if k=2 then some 5 else if k=3 then some 1 else if k=4 then some 7 else if k=5 then some 8 else none
def mostOf (has part n:Nat):Nat:=if has &&& part=0 then 0 else n
def mayC (c:CmdV):Bool :=
 (hasOf c.kind).isSome && decide (c.client.toNat<4) && decide (c.seq.toNat≠0) && decide (mostOf ((hasOf c.kind).getD 0) 1 1≤c.key.size) && decide (c.key.size≤mostOf ((hasOf c.kind).getD 0) 1 16) &&
  decide (c.old.size≤mostOf ((hasOf c.kind).getD 0) 2 64) && decide (c.fresh.size≤mostOf ((hasOf c.kind).getD 0) 4 64) && (decide (c.set.toNat=0) || decide ((hasOf c.kind).getD 0 &&& 8≠0))
noncomputable def kKind:KeyEnc Tryz.prog 5 UInt8:=keyU8 Tryz.prog 5 Tryz.underlying5
def kindsL:List (UInt8 × Value):=[(1,.int .u8 1),(2,.int .u8 5),(3,.int .u8 1),(4,.int .u8 7),(5,.int .u8 8)]
theorem kinds_get (k:UInt8):mget kindsL k=(hasOf k).map (fun (n:Nat)=>Value.int .u8 (n:Int)):=by
 unfold hasOf mget kindsL;by_cases h1:k=1
 ·
  subst h1;rfl
 by_cases h2:k=2
 ·
  subst h2;rfl
 by_cases h3:k=3
 ·
  subst h3;rfl
 by_cases h4:k=4
 ·
  subst h4;rfl
 by_cases h5:k=5
 ·
  subst h5;rfl
 simp [h1,h2,h3,h4,h5,eq_comm]
set_option maxHeartbeats 2000000 in
theorem kinds_any (w:World):Calls Tryz.prog 141 #[] w fun e w'=>e=.returned (.map (some w.heap.size))∧MapAt kKind w' w.heap.size kindsL∧Below w.heap.size w w':=by
 have hm0:=MapAt.made kKind w;have hb0:Below w.heap.size w (w.alloc (.map #[] 0)):=(Below.refl _ _).alloc (Nat.le_refl _) _;generalize hw0:w.alloc (.map #[] 0)=w0 at *
 have hb:∀ {x y:World},Below w.heap.size w x→x.grownBy y (some w.heap.size)→Below w.heap.size w y:=fun {x y} h g =>
  ⟨g.os.trans h.os,g.tape.trans h.tape,g.output.trans h.output,Nat.le_trans h.size g.size,fun q hq=>(g.block q (Nat.lt_of_lt_of_le hq h.size) (fun e=>by cases e;omega)).trans (h.block q hq)⟩
 obtain ⟨w1,hu1,hm1,hg1,_⟩:=run_update_at kKind hm0 Tryz.underlying230 1 (.int .u8 1);obtain ⟨w2,hu2,hm2,hg2,_⟩:=run_update_at kKind hm1 Tryz.underlying230 2 (.int .u8 5);obtain ⟨w3,hu3,hm3,hg3,_⟩:=run_update_at kKind hm2 Tryz.underlying230 3 (.int .u8 1);obtain ⟨w4,hu4,hm4,hg4,_⟩:=run_update_at kKind hm3 Tryz.underlying230 4 (.int .u8 7);obtain ⟨w5,hu5,hm5,hg5,_⟩:=run_update_at kKind hm4 Tryz.underlying230 5 (.int .u8 8);have Hend:=Lib.hid (And.intro (show MapAt kKind w5 w.heap.size kindsL from hm5) (hb (hb (hb (hb (hb hb0 hg1) hg2) hg3) hg4) hg5));clear hm0 hb0 hb hm1 hm2 hm3 hm4 hm5 hg1 hg2 hg3 hg4 hg5;have hv1:(Instr.mapUpdate 230 (.map (some w.heap.size)) (.int .u8 1) (.int .u8 1)).run Tryz.prog w0=.ok () w1:=hu1;have hv2:(Instr.mapUpdate 230 (.map (some w.heap.size)) (.int .u8 2) (.int .u8 5)).run Tryz.prog w1=.ok () w2:=hu2;have hv3:(Instr.mapUpdate 230 (.map (some w.heap.size)) (.int .u8 3) (.int .u8 1)).run Tryz.prog w2=.ok () w3:=hu3;have hv4:(Instr.mapUpdate 230 (.map (some w.heap.size)) (.int .u8 4) (.int .u8 7)).run Tryz.prog w3=.ok () w4:=hu4;have hv5:(Instr.mapUpdate 230 (.map (some w.heap.size)) (.int .u8 5) (.int .u8 8)).run Tryz.prog w4=.ok () w5:=hu5;clear hu1 hu2 hu3 hu4 hu5;have hmm:=@run_makeMap Tryz.prog;go_enter Tryz.func141,Tryz.ntmps141
 go_wp2_with fail;go_ret;exact ⟨rfl,Hend.out⟩
set_option maxHeartbeats 2000000 in
theorem most_any (b hv part n:Nat) (w:World) (hh:hv=0∨hv=1∨hv=5∨hv=7∨hv=8) (hp:part=1∨part=2∨part=4) (hb:w.cell? ⟨b,0,none⟩=some (.int .u8 (hv:Int))) :
  Calls Tryz.prog 142 #[.int .u8 (part:Int),.int .i64 (n:Int),.pointer (some ⟨b,0,none⟩)] w fun e w'=>e=.returned (.int .i64 (mostOf hv part n:Int))∧w=w':=by
 rcases hh with rfl | rfl | rfl | rfl | rfl <;> rcases hp with rfl | rfl | rfl <;>
 ·
  go_enter Tryz.func142,Tryz.ntmps142
  go_wp2_with fail;go_ret;exact ⟨rfl,rfl⟩
theorem has_vals (k:UInt8):(hasOf k).getD 0=0∨(hasOf k).getD 0=1∨(hasOf k).getD 0=5∨(hasOf k).getD 0=7∨(hasOf k).getD 0=8:=by
 unfold hasOf;repeat' split
 all_goals simp
def CmdAt (w:World) (g:Nat) (c:CmdV):Prop:=w.heap[g]?=some (.cells (cmdCells c).toArray 56 (0,0))
section
variable {w w' : World} {g : Nat} {c : CmdV}
theorem CmdAt.new (w:World) (c:CmdV):CmdAt (w.alloc (.cells (cmdCells c).toArray 56)) w.heap.size c:=heap_alloc_new w _
theorem CmdAt.lt (h:CmdAt w g c):g<w.heap.size:=(Array.getElem?_eq_some_iff.1 h).1
theorem CmdAt.below (h:CmdAt w g c) (hb:Below w.heap.size w w'):CmdAt w' g c:=(hb.block g h.lt).trans h
theorem CmdAt.cells (h:CmdAt w g c):w.cell? ⟨g,0,none⟩=some (.int .u8 (c.client.toNat:Int))∧w.cell? ⟨g,1,none⟩=some (.int .u32 (c.seq.toNat:Int))∧w.cell? ⟨g,2,none⟩=some (.int .u8 (c.kind.toNat:Int)) ∧
  w.cell? ⟨g,3,none⟩=some (.string c.key)∧w.cell? ⟨g,4,none⟩=some (.string c.old)∧w.cell? ⟨g,5,none⟩=some (.string c.fresh)∧w.cell? ⟨g,6,none⟩=some (.int .u8 (c.set.toNat:Int)) :=
 ⟨cell_of_row _ _ _ _ _ _ h,cell_of_row _ _ _ _ _ _ h,cell_of_row _ _ _ _ _ _ h,cell_of_row _ _ _ _ _ _ h,cell_of_row _ _ _ _ _ _ h,cell_of_row _ _ _ _ _ _ h,cell_of_row _ _ _ _ _ _ h⟩
end
end Go.Proofs.YtbckjgageofldaaGreat
