/- Plain facts on the checksum of 64 bits: one step, eight steps, a text. No condition. -/
import Derived.Laws.Bits64
import Derived.Laws.BitsAllLaws
import Derived.Test.YticjodhkmidljaaGreatDoorRows
import Derived.WalkKit
import Derived.WalkSpells
import Derived.WalkLawsBesides
import Derived.Lib.Hide
import Derived.OrdersHeld
import Derived.BigQuiet
import Derived.Deep.QuietTactic
import Derived.Below
import Derived.OpenShut
import Derived.Deep.DeepCutAuto
import Derived.Deep.CutBlock
import Derived.LaidEqlPtr
import Derived.OrdersIn
namespace Go.Proofs.YticjodhkmidljaaGreatDoor.Crc
def poly:BitVec 64:=0xc96c5795d7870f42#64
def st (x:BitVec 64):BitVec 64:=if x &&& 1#64 == 1#64 then (x >>> 1) ^^^ poly else x >>> 1
def sts:Nat→BitVec 64→BitVec 64
  | 0,x=>x
  | k+1,x=>st (sts k x)
def byte (c:UInt8):BitVec 64:=BitVec.ofNat 64 c.toNat
def more (n:BitVec 64) (l:List UInt8):BitVec 64:=l.foldl (fun n c=>sts 8 (n ^^^ byte c)) n
def sum (s:BitVec 64) (l:List UInt8):BitVec 64 := ~~~ more (~~~ s) l
theorem more_snoc (n:BitVec 64) (l:List UInt8) (c:UInt8):more n (l++[c])=sts 8 (more n l ^^^ byte c):=by simp [more]
theorem ofInt_toNat (x:BitVec 64):BitVec.ofInt 64 (x.toNat:Int)=x:=by
  rw [BitVec.ofInt_natCast];simp
theorem wrap_toNat (x:BitVec 64):IntKind.u64.wrap (x.toNat:Int)=x.toNat:=by
  have:=x.isLt
  rw [IntKind.wrap_u64];omega
theorem xor_bv (x y:BitVec 64):bits .xor .u64 (x.toNat:Int) (y.toNat:Int)=((x ^^^ y).toNat:Int):=by
  show IntKind.u64.wrap ((BitVec.ofInt 64 (x.toNat:Int) ^^^ BitVec.ofInt 64 (y.toNat:Int)).toNat:Int)=_
  rw [ofInt_toNat,ofInt_toNat,wrap_toNat]
theorem xor_poly (x:BitVec 64):bits .xor .u64 (x.toNat:Int) 14514072000185962306=((x ^^^ poly).toNat:Int):=xor_bv x poly
theorem and_bv (x y:BitVec 64):bits .and .u64 (x.toNat:Int) (y.toNat:Int)=((x &&& y).toNat:Int):=by
  show IntKind.u64.wrap ((BitVec.ofInt 64 (x.toNat:Int) &&& BitVec.ofInt 64 (y.toNat:Int)).toNat:Int)=_
  rw [ofInt_toNat,ofInt_toNat,wrap_toNat]
theorem and_one (x:BitVec 64):bits .and .u64 (x.toNat:Int) 1=((x &&& 1#64).toNat:Int):=and_bv x 1#64
theorem half_bv (x:BitVec 64):(x.toNat:Int) / (2:Int)=((x >>> (1:Nat)).toNat:Int):=by
  simp [Nat.shiftRight_eq_div_pow]
theorem eq_bv (x y:BitVec 64):(((x.toNat:Int)) == (y.toNat:Int))=(x == y):=by
  rw [Bool.eq_iff_iff,beq_iff_eq,beq_iff_eq];exact ⟨fun h=>BitVec.eq_of_toNat_eq (Int.ofNat.inj h),fun h=>by rw [h]⟩
theorem low_iff (x:BitVec 64):(x &&& 1#64 == 1#64)=(bits .and .u64 (x.toNat:Int) 1 == 1):=by
  rw [← eq_bv,and_one];rfl
theorem st_odd (x:BitVec 64) (h:(bits .and .u64 (x.toNat:Int) 1 == 1)=true):bits .xor .u64 ((x.toNat:Int) / 2) 14514072000185962306=((st x).toNat:Int):=by
  rw [← low_iff] at h
  simp only [st,h,if_true]
  rw [half_bv,xor_poly]
theorem st_even (x:BitVec 64) (h:(bits .and .u64 (x.toNat:Int) 1 == 1)=false):(x.toNat:Int) / 2=((st x).toNat:Int):=by
  rw [← low_iff] at h
  simp only [st,h,Bool.false_eq_true,if_false]
  rw [half_bv]
theorem not_bv (x:BitVec 64):bits .xor .u64 IntKind.u64.max (x.toNat:Int)=((~~~ x).toNat:Int):=by
  have h:IntKind.u64.max=((BitVec.allOnes 64).toNat:Int):=by decide
  rw [h,xor_bv,BitVec.allOnes_xor]
theorem byte_wrap (c:UInt8):IntKind.u64.wrap (c.toNat:Int)=((byte c).toNat:Int):=by
  have:=c.toNat_lt
  rw [IntKind.wrap_u64];simp [byte];omega
theorem byte_xor (x:BitVec 64) (c:UInt8):bits .xor .u64 (x.toNat:Int) (IntKind.u64.wrap (c.toNat:Int))=((x ^^^ byte c).toNat:Int):=by
  rw [byte_wrap,xor_bv]
theorem take_snoc (s:ByteArray) (k:Nat) (h:k<s.size):s.data.toList.take (k+1)=s.data.toList.take k++[s[k]]:=by
  rw [List.take_succ_eq_append_getElem (by simpa using h)];rfl
theorem more_take (x:BitVec 64) (s:ByteArray) (k:Nat) (h:k<s.size):more x (s.data.toList.take (k+1))=sts 8 (more x (s.data.toList.take k) ^^^ byte s[k]):=by
  rw [take_snoc s k h,more_snoc]
theorem take_all (s:ByteArray):s.data.toList.take s.size=s.data.toList:=List.take_of_length_le (by simp)
end Go.Proofs.YticjodhkmidljaaGreatDoor.Crc
namespace Go.Proofs.YticjodhkmidljaaGreatDoor
open Go.RowKit
set_option maxHeartbeats 400000 in
theorem eight_any (x:BitVec 64) (w:World) :
    Calls Tryz.prog 142 #[.int .u64 (x.toNat:Int)] w fun e w'=>e=.returned (.int .u64 (Crc.sts 8 x).toNat)∧w=w':=by
  go_enter Tryz.func142,Tryz.ntmps142
  go_wp2
  go_loop [0,3,4] (fun n _ i=>∃ k:Nat,k≤8∧i=.int .i64 k∧n=.int .u64 (Crc.sts k x).toNat) (fun _ _ i=>8 - (intOf i).toNat)
  case atStart=>exact ⟨0,by omega,rfl,rfl⟩
  case round =>
    obtain ⟨k,hk,rfl,rfl⟩:=hrel
    generalize hy:Crc.sts k x=y
    have Hy:=Lib.hid hy;clear hy
    go_wp2
    · go_round
      case rel=>exact ⟨k+1,by omega,by go_num,by rw [Crc.st_odd _ ‹_›, ← Hy.out];rfl⟩
      case measure=>simp [intOf];omega
    · go_round
      case rel=>exact ⟨k+1,by omega,by go_num,by rw [Crc.st_even _ ‹_›, ← Hy.out];rfl⟩
      case measure=>simp [intOf];omega
    · have h8:k=8:=by omega
      subst h8
      go_ret
      exact ⟨by rw [Hy.out];rfl,rfl⟩
set_option maxHeartbeats 400000 in
theorem more_any (x:BitVec 64) (s:ByteArray) (hs:s.size≤maxLen) (w:World) :
    Calls Tryz.prog 116 #[.int .u64 (x.toNat:Int),.string s] w fun e w'=>e=.returned (.int .u64 (Crc.sum x s.data.toList).toNat)∧w=w':=by
  unfold maxLen at hs
  have hn:=Crc.not_bv x
  generalize hz : ~~~ x=z at hn
  have Hz:=Lib.hid hz;clear hz
  go_enter Tryz.func116,Tryz.ntmps116
  go_wp2
  clear hn
  go_loop [5,6,11] (fun n _ i=>∃ k:Nat,k≤s.size∧i=.int .i64 k∧n=.int .u64 (Crc.more z (s.data.toList.take k)).toNat) (fun _ _ i=>s.size - (intOf i).toNat)
  case atStart=>exact ⟨0,by omega,rfl,rfl⟩
  case round =>
    obtain ⟨k,hk,rfl,rfl⟩:=hrel
    generalize hy:Crc.more z (s.data.toList.take k)=y
    have Hy:=Lib.hid hy;clear hy
    by_cases hlt:k<s.size
    · have hb:=Crc.byte_xor y s[k]
      generalize hv:y ^^^ Crc.byte s[k]=v at hb
      have Hv:=Lib.hid hv;clear hv
      go_wp2_with (go_at_call 142;(with_reducible refine (eight_any _ _).mono ?_);rintro e w' ⟨rfl,rfl⟩)
      go_round
      case rel=>exact ⟨k+1,by omega,by go_num,by rw [Crc.more_take _ _ _ hlt,Hy.out,Hv.out]⟩
      case measure=>simp [intOf];omega
    · have hk':k=s.size:=by omega
      subst hk'
      have hn:=Crc.not_bv y
      generalize hv : ~~~ y=v at hn
      have Hv:=Lib.hid hv;clear hv
      go_wp2
      go_ret
      exact ⟨by rw [Crc.sum, ← Crc.take_all s,Hz.out,Hy.out,Hv.out];rfl,rfl⟩
set_option maxHeartbeats 400000 in
theorem sum_any (s:ByteArray) (hs:s.size≤maxLen) (w:World) :
    Calls Tryz.prog 94 #[.string s] w fun e w'=>e=.returned (.int .u64 (Crc.sum 0#64 s.data.toList).toNat)∧w=w':=by
  go_enter Tryz.func94,Tryz.ntmps94
  go_wp2_with (go_at_call 116;refine (more_any 0#64 _ hs _).mono ?_;rintro e w' ⟨rfl,rfl⟩)
  go_ret
  exact ⟨rfl,rfl⟩
end Go.Proofs.YticjodhkmidljaaGreatDoor
namespace Go.Proofs.YticjodhkmidljaaGreatDoor.RegR
open Go
section
variable {P : Program} {ops : Array Oper} {Q : Exit → Act → World → Prop} {md : Region.Mode}
/-- What number j waits for. -/
def onsOf (md:Region.Mode) (ops:Array Oper) (j:Nat):List Nat:=match ops[j]? with
  | some o=>(o.after.toList.filter (Region.binds md)).map (·.on)
  | none=>[]
def anc (md:Region.Mode) (ops:Array Oper):Nat→List Nat→List Nat
  | 0,l=>l
  | n+1,l=>anc md ops n (l++l.flatMap (onsOf md ops)).eraseDups
/-- What a listed operation waits for is listed. -/
def Closed (md:Region.Mode) (ops:Array Oper) (listed:Array Bool):Prop:=∀ j,listed.getD j false=true→∀ e ∈ onsOf md ops j,listed.getD e false=true
theorem anc_listed {listed:Array Bool} (h:Closed md ops listed):∀ (n:Nat) (l:List Nat),(∀ j ∈ l,listed.getD j false=true)→∀ j ∈ anc md ops n l,listed.getD j false=true
  | 0,_,hl,j,hj=>hl j hj
  | n+1,l,hl,j,hj=>anc_listed h n _ (fun k hk=>by
      rw [List.mem_eraseDups,List.mem_append,List.mem_flatMap] at hk
      rcases hk with hk | ⟨q,hq,hk⟩
      · exact hl k hk
      · exact h q (hl q hq) k hk) j hj
theorem ready_ons {listed:Array Bool} {j:Nat} (h:j ∈ Region.ready md ops listed):∀ e ∈ onsOf md ops j,listed.getD e false=true:=by
  obtain ⟨_,o,ho,hall⟩:=mem_ready.1 h
  intro e he
  simp only [onsOf,ho,List.mem_map,List.mem_filter] at he
  obtain ⟨q,⟨h1,h2⟩,rfl⟩:=he
  exact hall q (by simpa using h1) h2
theorem getD_set_grow {listed:Array Bool} {i j:Nat} (h:listed.getD j false=true):(listed.setIfInBounds i true).getD j false=true:=getD_set_true h
theorem Closed.set {listed:Array Bool} {i:Nat} (h:Closed md ops listed) (hi:i ∈ Region.ready md ops listed):Closed md ops (listed.setIfInBounds i true):=by
  intro j hj e he
  by_cases hij:i=j
  · subst hij;exact getD_set_grow (ready_ons hi e he)
  · rw [getD_set_ne false hij] at hj
    exact getD_set_grow (h j hj e he)
theorem Closed.none (n:Nat):Closed md ops (Array.replicate n false):=by
  intro j hj
  have:(Array.replicate n false).getD j false=false:=by
    simp only [Array.getD_eq_getD_getElem?,Array.getElem?_replicate]
    split <;> rfl
  rw [this] at hj
  cases hj
theorem bar_not {bar:Nat→Bool} {listed:Array Bool} {i j:Nat} (h:Closed md ops listed) (hj:j ∈ Region.ready md ops listed) (hi:i ∈ Region.ready md ops listed)
    (hb:bar j=true→i ∈ anc md ops 8 (onsOf md ops j)):bar j=false:=by
  rw [Bool.eq_false_iff]
  intro hbj
  obtain ⟨h0,o,ho,_⟩:=mem_ready.1 hi
  have h4:=anc_listed h 8 _ (ready_ons hj) i (hb hbj)
  rcases Nat.lt_or_ge i listed.size with h' | h'
  · simp [h'] at h0 h4;rw [h0] at h4;cases h4
  · simp [Array.getElem?_eq_none h'] at h4
/-- Behind one operation: the world lies in the class still (behind an operation that waits for all before it: in any class). -/
def Into (b:Bool) (R:World→Prop) (K:(World→Prop)→Act→World→Prop) (a:Act) (w:World):Prop:=∃ R':World→Prop,R' w∧(b=true∨R'=R)∧K R' a w
/-- The walk in the order that is handed in: 0: the operation only reads (in every world of R); 1: it may turn the world, within R; 2: it is the last of all; 3: it may turn the world anyhow, and waits for all that came before it. -/
def wpCan (P:Program) (ops:Array Oper) (Q:Exit→Act→World→Prop):List (Oper × Nat)→(World→Prop)→Act→World→Prop
  | [],_,a,w=>Q .normal a w
  | (o,0)::r,R,a,w =>
    if Region.wanted o (yielded ops a.tmps) then ∃ v,(∀ x,R x→(execOp a.eval o).run P x=.ok (.value v) x)∧wpCan P ops Q r R (a.put o.dst v) w
    else wpCan P ops Q r R (a.put o.dst undef) w
  | (o,1)::r,R,a,w =>
    if Region.wanted o (yielded ops a.tmps) then o.wp P a w (fun a' w'=>R w'∧wpCan P ops Q r R a' w') Q
    else wpCan P ops Q r R (a.put o.dst undef) w
  | (o,2)::_,_,a,w =>
    if Region.wanted o (yielded ops a.tmps) then o.wp P a w (Q .normal) Q else Q .normal (a.put o.dst undef) w
  | (o,_+3)::r,R,a,w =>
    if Region.wanted o (yielded ops a.tmps) then o.wp P a w (fun a' w'=>∃ R':World→Prop,R' w'∧wpCan P ops Q r R' a' w') Q
    else wpCan P ops Q r R (a.put o.dst undef) w
def pick (l:List Oper):List (Nat × Nat)→List (Oper × Nat)
  | []=>[]
  | (k,e)::r=>match l[k]? with | some o=>(o,e)::pick l r | none=>[]
/-- Which operations have all that comes before them in the order that is handed in behind them for good. -/
def barOf (σ:List (Nat × Nat)) (j:Nat):Bool:=σ.any fun p=>p.1 == j && decide (2≤p.2)
theorem can_nil {R:World→Prop} {a:Act} {w:World} (h:Q .normal a w):wpCan P ops Q [] R a w:=h
end
end Go.Proofs.YticjodhkmidljaaGreatDoor.RegR
namespace Go.Proofs.YticjodhkmidljaaGreatDoor
open Go.RowKit
/-- The order of texts. -/
def slt (a b:ByteArray):Bool:=Op.bytesLess a.toList b.toList
end Go.Proofs.YticjodhkmidljaaGreatDoor
namespace Go.Proofs.YticjodhkmidljaaGreatDoor
open Go.RowKit
def aboveB (wt:BitVec 64) (k:ByteArray) (wt':BitVec 64) (k':ByteArray):Bool:=if wt=wt' then slt k k' else decide (wt'.toNat<wt.toNat)
end Go.Proofs.YticjodhkmidljaaGreatDoor
namespace Go.Proofs.YticjodhkmidljaaGreatDoor
open Go.RowKit
/-- A tree's shape: no blocks. -/
inductive Sh where
  | nil:Sh
  | node (k v:ByteArray) (wt:BitVec 64) (l r:Sh):Sh
def Sh.split (key:ByteArray):Sh→Sh × Sh
  | .nil=>(.nil,.nil)
  | .node k v wt l r=>if slt key k then ((l.split key).1,.node k v wt (l.split key).2 r) else if slt k key then (.node k v wt l (r.split key).1,(r.split key).2) else (l,r)
end Go.Proofs.YticjodhkmidljaaGreatDoor
namespace Go.Proofs.YticjodhkmidljaaGreatDoor
open Go.RowKit
/-- A world in which all that was there is as it was. -/
def KeptW (w y:World):Prop:=Below w.heap.size w y
theorem KeptW.mono {w y y':World} (h:KeptW w y) (hb:Below y.heap.size y y'):KeptW w y':=Below.trans h (Below.mono hb (Below.size h))
theorem KeptW.bel {w y:World} (h:KeptW w y):Below w.heap.size w y:=h
def Sh.join:Sh→Sh→Sh
  | .nil,b=>b
  | .node k v wt l r,.nil=>.node k v wt l r
  | .node k v wt l r,.node k' v' wt' l' r'=>if aboveB wt k wt' k' then .node k v wt l (Sh.join r (.node k' v' wt' l' r')) else .node k' v' wt' (Sh.join (.node k v wt l r) l') r'
termination_by a b=>SizeOf.sizeOf a+SizeOf.sizeOf b
end Go.Proofs.YticjodhkmidljaaGreatDoor
namespace Go.Proofs.YticjodhkmidljaaGreatDoor.RegG
open Go
section
variable {F : Fence} {n : Nat} {P : Program} {ops : Array Oper} {Q : Exit → Act → World → Prop} {md : Region.Mode}
/-- It calls nothing, or what is built in. -/
def noCall (o:Oper):Bool:=match o.op with
  | .call c=>(match c.callee with | .builtin _=>true | _=>false)
  | _=>true
theorem about_none {o:Oper} (h:noCall o=true) (w:World) (ρ:Operand→Value):o.about P w ρ=none:=by
  unfold noCall at h
  unfold Oper.about
  cases ho:o.op <;> rw [ho] at h <;> first | rfl | skip
  rename_i c
  simp only at h ⊢
  cases hc:c.callee <;> rw [hc] at h <;> first | (cases h;done) | skip
  simp [resolve,hc,Target.leads]
/-- It defers nothing. -/
def noDefer (o:Oper):Bool:=match o.op with | .defer _=>false | _=>true
theorem sem_of {o:Oper} (h:noDefer o=true) (ρ:Operand→Value):o.semAt F.round ρ=execOp ρ o:=Oper.semAt_eq _ ρ o (by intro c e;simp [noDefer,e] at h)
theorem yif_op {R:World→Prop} {i:Nat} {o:Oper} {v:Value} {a:Act} (hro:∀ o ∈ ops,noDefer o=true) (hi:ops[i]?=some o) (hy:YieldsIf P ops R o v a) (hc:noCall o=true)
    {K:Act→World→Prop} {w:World} (hR:R w) (h:K (a.put o.dst v) w):wpOpIn F n P ops Q i K a w:=by
  unfold Go.wpOpIn
  simp only [hi]
  have hab:∀ f,o.about P w a.eval=some f→F.fn f:=fun f hf=>by rw [about_none hc] at hf;cases hf
  rcases hy with ⟨hw,hv⟩ | ⟨hw,rfl⟩
  · simp only [hw,if_true,Oper.wpIn,sem_of (F:=F) (hro o (Array.mem_of_getElem? hi)),hv w hR,Oper.uponIn];exact ⟨hab,h⟩
  · simp only [hw,Bool.false_eq_true,if_false];exact ⟨hab,h⟩
theorem putIf {R:World→Prop} {j:Nat} {oi oj:Oper} {v:Value} (hro:∀ o ∈ ops,noDefer o=true) (hj:ops[j]?=some oj) (hap:oi.apart ops oj=true)
    (hsi:∀ cs b,oi.op≠.select cs b) (hsj:∀ cs b,oj.op≠.select cs b)
    (hQ:∀ c a w,Q (.panic c) (a.put oi.dst v) w→Q (.panic c) a w) {K:Act→World→Prop} {a:Act} {w:World}
    (hy:YieldsIf P ops R oi v a) (h:wpOpIn F n P ops Q j K (a.put oi.dst v) w) :
    wpOpIn F n P ops Q j (fun a' w'=>YieldsIf P ops R oi v a'∧K (a'.put oi.dst v) w') a w:=by
  obtain ⟨h1,h2,h3⟩:=Oper.apart_spec hap
  have keep:∀ (a:Act),YieldsIf P ops R oi v a→∀ u,YieldsIf P ops R oi v (a.put oj.dst u):=fun a hy u =>
    hy.of_same (execOp_put oi hsi a oj.dst u h3) (wanted_put oi a oj.dst u h3)
  have keepD:∀ d,YieldsIf P ops R oi v { a with defers:=d::a.defers }:=fun d=>hy.of_same rfl rfl
  have hmj:=Array.mem_of_getElem? hj
  unfold wpOpIn at *
  simp only [hj] at *
  rw [wanted_put oj a oi.dst v h1,about_put oj w a oi.dst v h1] at h
  split
  · rename_i hw
    simp only [hw,if_true] at h
    unfold Oper.wpIn at *
    rw [about_put oj w a oi.dst v h1] at h
    refine ⟨h.1,?_⟩
    have h:=h.2
    rw [sem_of (F:=F) (hro oj hmj),execOp_put oj hsj a oi.dst v h1] at h
    rw [sem_of (F:=F) (hro oj hmj)]
    generalize (execOp a.eval oj).run P w=r at *
    cases r with
    | ok x w' =>
      cases x <;> simp only [Oper.uponIn] at h ⊢
      case value u=>exact ⟨keep a hy u,by rw [← Act.put_comm a v u h2];exact h⟩
      case skip=>exact ⟨keep a hy _,by rw [← Act.put_comm a v undef h2];exact h⟩
      case defer d =>
        refine ⟨keep _ (keepD d) _,?_⟩
        rw [← Act.put_comm _ v undef h2, ← Act.put_defers]
        exact h
      case enter f args =>
        refine ⟨h.1,CallsIn.mono h.2 fun e w'' he=>?_⟩
        cases e with
        | returned u=>exact ⟨keep a hy u,by rw [← Act.put_comm a v u h2];exact he⟩
        | panicked c=>exact hQ _ _ _ he
        | outgrown=>exact he
      case row row args=>exact ⟨h.1,RowsIn.mono h.2 fun u w'' he=>⟨keep a hy u,by rw [← Act.put_comm a v u h2];exact he⟩⟩
      case round l f tmps assign body =>
        refine ⟨h.1,RoundIn.mono h.2 fun e w'' he=>?_⟩
        cases e with
        | returned u=>exact ⟨keep a hy u,by rw [← Act.put_comm a v u h2];exact he⟩
        | panicked c=>exact hQ _ _ _ he
        | outgrown=>exact he
    | halt x w' =>
      cases x <;> simp only [Oper.uponIn] at h ⊢
      case panic u=>exact hQ _ _ _ h
  · rename_i hw
    simp only [hw] at h
    exact ⟨h.1,keep a hy _,by rw [← Act.put_comm a v undef h2];exact h.2⟩
/-- What number j waits for. -/
def onsOf (md:Region.Mode) (ops:Array Oper) (j:Nat):List Nat:=match ops[j]? with
  | some o=>(o.after.toList.filter (Region.binds md)).map (·.on)
  | none=>[]
/-- What those wait for, and so on, each number looked at once, downwards. -/
def back (md:Region.Mode) (ops:Array Oper):Nat→List Nat→List Nat
  | 0,l=>l
  | i+1,l=>back md ops i (if l.contains i then onsOf md ops i++l else l)
/-- What a listed operation waits for is listed. -/
def Closed (md:Region.Mode) (ops:Array Oper) (listed:Array Bool):Prop:=∀ j,listed.getD j false=true→∀ e ∈ onsOf md ops j,listed.getD e false=true
theorem back_listed {listed:Array Bool} (h:Closed md ops listed):∀ (m:Nat) (l:List Nat),(∀ j ∈ l,listed.getD j false=true)→∀ j ∈ back md ops m l,listed.getD j false=true
  | 0,_,hl,j,hj=>hl j hj
  | m+1,l,hl,j,hj=>back_listed h m _ (fun k hk=>by
      split at hk
      · rename_i hc
        rcases List.mem_append.1 hk with hk | hk
        · exact h m (hl m (by simpa using hc)) k hk
        · exact hl k hk
      · exact hl k hk) j hj
theorem ready_ons {listed:Array Bool} {j:Nat} (h:j ∈ Region.ready md ops listed):∀ e ∈ onsOf md ops j,listed.getD e false=true:=by
  obtain ⟨_,o,ho,hall⟩:=mem_ready.1 h
  intro e he
  simp only [onsOf,ho,List.mem_map,List.mem_filter] at he
  obtain ⟨q,⟨h1,h2⟩,rfl⟩:=he
  exact hall q (by simpa using h1) h2
theorem Closed.set {listed:Array Bool} {i:Nat} (h:Closed md ops listed) (hi:i ∈ Region.ready md ops listed):Closed md ops (listed.setIfInBounds i true):=by
  intro j hj e he
  by_cases hij:i=j
  · subst hij;exact getD_set_true (ready_ons hi e he)
  · rw [getD_set_ne false hij] at hj
    exact getD_set_true (h j hj e he)
theorem Closed.none (n:Nat):Closed md ops (Array.replicate n false):=by
  intro j hj
  have:(Array.replicate n false).getD j false=false:=by
    simp only [Array.getD_eq_getD_getElem?,Array.getElem?_replicate]
    split <;> rfl
  rw [this] at hj
  cases hj
theorem bar_not {bar:Nat→Bool} {listed:Array Bool} {i j:Nat} (h:Closed md ops listed) (hj:j ∈ Region.ready md ops listed) (hi:i ∈ Region.ready md ops listed)
    (hb:bar j=true→i ∈ back md ops ops.size (onsOf md ops j)):bar j=false:=by
  rw [Bool.eq_false_iff]
  intro hbj
  obtain ⟨h0,o,ho,_⟩:=mem_ready.1 hi
  have h4:=back_listed h _ _ (ready_ons hj) i (hb hbj)
  rcases Nat.lt_or_ge i listed.size with h' | h'
  · simp [h'] at h0 h4;rw [h0] at h4;cases h4
  · simp [Array.getElem?_eq_none h'] at h4
/-- Behind one operation: the world lies in the class still (behind an operation that waits for all before it: in any class). -/
def Into (b:Bool) (R:World→Prop) (K:(World→Prop)→Act→World→Prop) (a:Act) (w:World):Prop:=∃ R':World→Prop,R' w∧(b=true∨∀ x,R' x→R x)∧K R' a w
theorem yif_mono {P:Program} {ops:Array Oper} {R R':World→Prop} {o:Oper} {v:Value} {a:Act} (h:YieldsIf P ops R o v a) (hs:∀ x,R' x→R x):YieldsIf P ops R' o v a:=by
  rcases h with ⟨h1,h2⟩ | h
  · exact .inl ⟨h1,fun x hx=>h2 x (hs x hx)⟩
  · exact .inr h
def anyR (bar:Nat→Bool) (F:Fence) (n:Nat) (P:Program) (md:Region.Mode) (ops:Array Oper) (Q:Exit→Act→World→Prop):Nat→Array Bool→(World→Prop)→Act→World→Prop
  | 0,listed,_,a,w=>Region.ready md ops listed=[]∧Q .normal a w
  | fuel+1,listed,R,a,w=>(Region.ready md ops listed=[]→Q .normal a w) ∧
      ∀ i ∈ Region.ready md ops listed,wpOpIn F n P ops Q i (Into (bar i) R (fun R' a' w'=>anyR bar F n P md ops Q fuel (listed.setIfInBounds i true) R' a' w')) a w
theorem any_of {bar:Nat→Bool}:∀ (fuel:Nat) (listed:Array Bool) (R:World→Prop) (a:Act) (w:World),anyR bar F n P md ops Q fuel listed R a w→wpAnyIn F n P md ops Q fuel listed a w
  | 0,_,_,_,_,h=>h
  | fuel+1,_,_,_,_,h=>⟨h.1,fun i hi=>wpOpIn_mono (fun a' w' ⟨R',_,_,h3⟩=>any_of fuel _ R' a' w' h3) (h.2 i hi)⟩
theorem first {bar:Nat→Bool} {i:Nat} {oi:Oper} {v:Value} (hro:∀ o ∈ ops,noDefer o=true) (hi:ops[i]?=some oi) (hc:noCall oi=true) (hsel:∀ (j:Nat) (o:Oper) cs b,ops[j]?=some o→o.op≠.select cs b)
    (hQ:∀ c a w,Q (.panic c) (a.put oi.dst v) w→Q (.panic c) a w) :
    ∀ (fuel:Nat) (listed:Array Bool) (R:World→Prop) (a:Act) (w:World),
      (∀ j oj,ops[j]?=some oj→j≠i→listed.getD j true=false→(∀ e ∈ oj.after,Region.binds md e=true→e.on≠i)→oi.apart ops oj=true) →
      (∀ j,listed.getD j true=false→j≠i→bar j=true→i ∈ back md ops ops.size (onsOf md ops j))→Closed md ops listed→i ∈ Region.ready md ops listed→R w→YieldsIf P ops R oi v a →
      anyR bar F n P md ops Q fuel (listed.setIfInBounds i true) R (a.put oi.dst v) w→anyR bar F n P md ops Q (fuel+1) listed R a w:=by
  intro fuel
  induction fuel with
  | zero =>
    intro listed R a w _ _ _ hr hR hy H
    refine ⟨fun h=>(by rw [h] at hr;cases hr),fun j hj=>?_⟩
    by_cases hji:j=i
    · subst hji;exact yif_op hro hi hy hc hR ⟨R,hR,.inr fun _ h=>h,H⟩
    · have:=ready_mono hj hji
      rw [H.1] at this
      cases this
  | succ fuel ih =>
    intro listed R a w hfree hbar hcl hr hR hy H
    refine ⟨fun h=>(by rw [h] at hr;cases hr),fun j hj=>?_⟩
    by_cases hji:j=i
    · subst hji;exact yif_op hro hi hy hc hR ⟨R,hR,.inr fun _ h=>h,H⟩
    · have h1:=H.2 j (ready_mono hj hji)
      obtain ⟨hjun,oj,hoj,hall⟩:=mem_ready.1 hj
      have hnot:∀ e ∈ oj.after,Region.binds md e=true→e.on≠i:=fun e he hb heq=>by
        have h1:=hall e he hb
        have h0:=(mem_ready.1 hr).1
        rw [heq] at h1
        rcases Nat.lt_or_ge i listed.size with h' | h'
        · simp [h'] at h0 h1;rw [h0] at h1;cases h1
        · simp [Array.getElem?_eq_none h'] at h1
      have hb:bar j=false:=bar_not hcl hj hr (hbar j hjun hji)
      have h2:=putIf hro hoj (hfree j oj hoj hji hjun hnot) (fun cs b=>hsel i oi cs b hi) (fun cs b=>hsel j oj cs b hoj) hQ hy h1
      have hfree':∀ k ok,ops[k]?=some ok→k≠i→(listed.setIfInBounds j true).getD k true=false →
          (∀ e ∈ ok.after,Region.binds md e=true→e.on≠i)→oi.apart ops ok=true:=fun k ok hk hki hun hno=>by
        refine hfree k ok hk hki ?_ hno
        by_cases hjk:j=k
        · subst hjk;exact hjun
        · rw [getD_set_ne true hjk] at hun;exact hun
      have hbar':∀ k,(listed.setIfInBounds j true).getD k true=false→k≠i→bar k=true→i ∈ back md ops ops.size (onsOf md ops k):=fun k hun hki hbk=>by
        refine hbar k ?_ hki hbk
        by_cases hjk:j=k
        · subst hjk;exact hjun
        · rw [getD_set_ne true hjk] at hun;exact hun
      refine wpOpIn_mono (fun a' w' ⟨hy',R',hR',hor,hK⟩=>?_) h2
      have hsub:=hor.resolve_left (by simp [hb])
      refine ⟨R',hR',.inr hsub,ih (listed.setIfInBounds j true) R' a' w' hfree' hbar' (hcl.set hj) (ready_mono hr (Ne.symm hji)) hR' (yif_mono hy' hsub) ?_⟩
      rw [Array.setIfInBounds_comm _ _ hji]
      exact hK
/-- The walk in the order that is handed in: 0: the operation only reads (in every world of R), and calls nothing; 1: it may turn the world, within R; else: it may turn the world anyhow, and waits for all that came before it. -/
def can (F:Fence) (n:Nat) (P:Program) (ops:Array Oper) (Q:Exit→Act→World→Prop):List (Oper × Nat)→(World→Prop)→Act→World→Prop
  | [],_,a,w=>Q .normal a w
  | (o,0)::r,R,a,w =>
    if Region.wanted o (yielded ops a.tmps) then ∃ v,(∀ x,R x→(execOp a.eval o).run P x=.ok (.value v) x)∧can F n P ops Q r R (a.put o.dst v) w
    else can F n P ops Q r R (a.put o.dst undef) w
  | (o,1)::r,R,a,w =>
    if Region.wanted o (yielded ops a.tmps) then o.wpIn F n P a w (fun a' w'=>∃ R':World→Prop,(∀ x,R' x→R x)∧R' w'∧can F n P ops Q r R' a' w') Q
    else (∀ f,o.about P w a.eval=some f→F.fn f)∧can F n P ops Q r R (a.put o.dst undef) w
  | (o,_+2)::r,R,a,w =>
    if Region.wanted o (yielded ops a.tmps) then o.wpIn F n P a w (fun a' w'=>∃ R':World→Prop,R' w'∧can F n P ops Q r R' a' w') Q
    else (∀ f,o.about P w a.eval=some f→F.fn f)∧can F n P ops Q r R (a.put o.dst undef) w
def pick (l:List Oper):List (Nat × Nat)→List (Oper × Nat)
  | []=>[]
  | (k,e)::r=>match l[k]? with | some o=>(o,e)::pick l r | none=>[]
/-- The walk, behind a name that nothing opens. -/
structure Can (F:Fence) (n:Nat) (P:Program) (ops:Array Oper) (Q:Exit→Act→World→Prop) (l:List (Oper × Nat)) (R:World→Prop) (a:Act) (w:World):Prop where
  out:can F n P ops Q l R a w
/-- Which operations have all that comes before them in the order that is handed in behind them for good. -/
def barOf (σ:List (Nat × Nat)) (j:Nat):Bool:=σ.any fun p=>p.1 == j && decide (2≤p.2)
/-- The same, and no panic is let out. -/
def noPanic (Q:Exit→Act→World→Prop):Exit→Act→World→Prop
  | .panic _,_,_=>False
  | e,a,w=>Q e a w
theorem can_nil {R:World→Prop} {a:Act} {w:World} (h:Q .normal a w):Can F n P ops Q [] R a w:=⟨h⟩
theorem can_calm {R:World→Prop} {a:Act} {w:World} (h:Q .normal a w):Can F n P ops (noPanic Q) [] R a w:=⟨h⟩
end
end Go.Proofs.YticjodhkmidljaaGreatDoor.RegG
namespace Go.Proofs.YticjodhkmidljaaGreatDoor.RegK
open Go
section
variable {F : Fence} {n : Nat} {P : Program} {ops : Array Oper} {Q : Exit → Act → World → Prop} {md : Region.Mode}
/-- It calls nothing, or what is built in. -/
def noCall (o:Oper):Bool:=match o.op with
  | .call c=>(match c.callee with | .builtin _=>true | _=>false)
  | _=>true
theorem about_none {o:Oper} (h:noCall o=true) (w:World) (ρ:Operand→Value):o.about P w ρ=none:=by
  unfold noCall at h
  unfold Oper.about
  cases ho:o.op <;> rw [ho] at h <;> first | rfl | skip
  rename_i c
  simp only at h ⊢
  cases hc:c.callee <;> rw [hc] at h <;> first | (cases h;done) | skip
  simp [resolve,hc,Target.leads]
/-- It defers nothing. -/
def noDefer (o:Oper):Bool:=match o.op with | .defer _=>false | _=>true
theorem sem_of {o:Oper} (h:noDefer o=true) (ρ:Operand→Value):o.semAt F.round ρ=execOp ρ o:=Oper.semAt_eq _ ρ o (by intro c e;simp [noDefer,e] at h)
theorem yif_op {R:World→Prop} {i:Nat} {o:Oper} {v:Value} {a:Act} (hro:∀ o ∈ ops,noDefer o=true) (hi:ops[i]?=some o) (hy:YieldsIf P ops R o v a) (hc:noCall o=true)
    {K:Act→World→Prop} {w:World} (hR:R w) (h:K (a.put o.dst v) w):wpOpIn F n P ops Q i K a w:=by
  unfold Go.wpOpIn
  simp only [hi]
  have hab:∀ f,o.about P w a.eval=some f→F.fn f:=fun f hf=>by rw [about_none hc] at hf;cases hf
  rcases hy with ⟨hw,hv⟩ | ⟨hw,rfl⟩
  · simp only [hw,if_true,Oper.wpIn,sem_of (F:=F) (hro o (Array.mem_of_getElem? hi)),hv w hR,Oper.uponIn];exact ⟨hab,h⟩
  · simp only [hw,Bool.false_eq_true,if_false];exact ⟨hab,h⟩
theorem putIf {R:World→Prop} {j:Nat} {oi oj:Oper} {v:Value} (hro:∀ o ∈ ops,noDefer o=true) (hj:ops[j]?=some oj) (hap:oi.apart ops oj=true)
    (hsi:∀ cs b,oi.op≠.select cs b) (hsj:∀ cs b,oj.op≠.select cs b)
    (hQ:∀ c a w,Q (.panic c) (a.put oi.dst v) w→Q (.panic c) a w) {K:Act→World→Prop} {a:Act} {w:World}
    (hy:YieldsIf P ops R oi v a) (h:wpOpIn F n P ops Q j K (a.put oi.dst v) w) :
    wpOpIn F n P ops Q j (fun a' w'=>YieldsIf P ops R oi v a'∧K (a'.put oi.dst v) w') a w:=by
  obtain ⟨h1,h2,h3⟩:=Oper.apart_spec hap
  have keep:∀ (a:Act),YieldsIf P ops R oi v a→∀ u,YieldsIf P ops R oi v (a.put oj.dst u):=fun a hy u =>
    hy.of_same (execOp_put oi hsi a oj.dst u h3) (wanted_put oi a oj.dst u h3)
  have keepD:∀ d,YieldsIf P ops R oi v { a with defers:=d::a.defers }:=fun d=>hy.of_same rfl rfl
  have hmj:=Array.mem_of_getElem? hj
  unfold wpOpIn at *
  simp only [hj] at *
  rw [wanted_put oj a oi.dst v h1,about_put oj w a oi.dst v h1] at h
  split
  · rename_i hw
    simp only [hw,if_true] at h
    unfold Oper.wpIn at *
    rw [about_put oj w a oi.dst v h1] at h
    refine ⟨h.1,?_⟩
    have h:=h.2
    rw [sem_of (F:=F) (hro oj hmj),execOp_put oj hsj a oi.dst v h1] at h
    rw [sem_of (F:=F) (hro oj hmj)]
    generalize (execOp a.eval oj).run P w=r at *
    cases r with
    | ok x w' =>
      cases x <;> simp only [Oper.uponIn] at h ⊢
      case value u=>exact ⟨keep a hy u,by rw [← Act.put_comm a v u h2];exact h⟩
      case skip=>exact ⟨keep a hy _,by rw [← Act.put_comm a v undef h2];exact h⟩
      case defer d =>
        refine ⟨keep _ (keepD d) _,?_⟩
        rw [← Act.put_comm _ v undef h2, ← Act.put_defers]
        exact h
      case enter f args =>
        refine ⟨h.1,CallsIn.mono h.2 fun e w'' he=>?_⟩
        cases e with
        | returned u=>exact ⟨keep a hy u,by rw [← Act.put_comm a v u h2];exact he⟩
        | panicked c=>exact hQ _ _ _ he
        | outgrown=>exact he
      case row row args=>exact ⟨h.1,RowsIn.mono h.2 fun u w'' he=>⟨keep a hy u,by rw [← Act.put_comm a v u h2];exact he⟩⟩
      case round l f tmps assign body =>
        refine ⟨h.1,RoundIn.mono h.2 fun e w'' he=>?_⟩
        cases e with
        | returned u=>exact ⟨keep a hy u,by rw [← Act.put_comm a v u h2];exact he⟩
        | panicked c=>exact hQ _ _ _ he
        | outgrown=>exact he
    | halt x w' =>
      cases x <;> simp only [Oper.uponIn] at h ⊢
      case panic u=>exact hQ _ _ _ h
  · rename_i hw
    simp only [hw] at h
    exact ⟨h.1,keep a hy _,by rw [← Act.put_comm a v undef h2];exact h.2⟩
/-- What number j waits for. -/
def onsOf (md:Region.Mode) (ops:Array Oper) (j:Nat):List Nat:=match ops[j]? with
  | some o=>(o.after.toList.filter (Region.binds md)).map (·.on)
  | none=>[]
/-- What those wait for, and so on, each number looked at once, downwards. -/
def back (md:Region.Mode) (ops:Array Oper):Nat→List Nat→List Nat
  | 0,l=>l
  | i+1,l=>back md ops i (if l.contains i then onsOf md ops i++l else l)
/-- What a listed operation waits for is listed. -/
def Closed (md:Region.Mode) (ops:Array Oper) (listed:Array Bool):Prop:=∀ j,listed.getD j false=true→∀ e ∈ onsOf md ops j,listed.getD e false=true
theorem back_listed {listed:Array Bool} (h:Closed md ops listed):∀ (m:Nat) (l:List Nat),(∀ j ∈ l,listed.getD j false=true)→∀ j ∈ back md ops m l,listed.getD j false=true
  | 0,_,hl,j,hj=>hl j hj
  | m+1,l,hl,j,hj=>back_listed h m _ (fun k hk=>by
      split at hk
      · rename_i hc
        rcases List.mem_append.1 hk with hk | hk
        · exact h m (hl m (by simpa using hc)) k hk
        · exact hl k hk
      · exact hl k hk) j hj
theorem ready_ons {listed:Array Bool} {j:Nat} (h:j ∈ Region.ready md ops listed):∀ e ∈ onsOf md ops j,listed.getD e false=true:=by
  obtain ⟨_,o,ho,hall⟩:=mem_ready.1 h
  intro e he
  simp only [onsOf,ho,List.mem_map,List.mem_filter] at he
  obtain ⟨q,⟨h1,h2⟩,rfl⟩:=he
  exact hall q (by simpa using h1) h2
theorem Closed.set {listed:Array Bool} {i:Nat} (h:Closed md ops listed) (hi:i ∈ Region.ready md ops listed):Closed md ops (listed.setIfInBounds i true):=by
  intro j hj e he
  by_cases hij:i=j
  · subst hij;exact getD_set_true (ready_ons hi e he)
  · rw [getD_set_ne false hij] at hj
    exact getD_set_true (h j hj e he)
theorem Closed.none (n:Nat):Closed md ops (Array.replicate n false):=by
  intro j hj
  have:(Array.replicate n false).getD j false=false:=by
    simp only [Array.getD_eq_getD_getElem?,Array.getElem?_replicate]
    split <;> rfl
  rw [this] at hj
  cases hj
theorem bar_not {bar:Nat→Bool} {listed:Array Bool} {i j:Nat} (h:Closed md ops listed) (hj:j ∈ Region.ready md ops listed) (hi:i ∈ Region.ready md ops listed)
    (hb:bar j=true→i ∈ back md ops ops.size (onsOf md ops j)):bar j=false:=by
  rw [Bool.eq_false_iff]
  intro hbj
  obtain ⟨h0,o,ho,_⟩:=mem_ready.1 hi
  have h4:=back_listed h _ _ (ready_ons hj) i (hb hbj)
  rcases Nat.lt_or_ge i listed.size with h' | h'
  · simp [h'] at h0 h4;rw [h0] at h4;cases h4
  · simp [Array.getElem?_eq_none h'] at h4
/-- Behind one operation: the world lies in the class still (behind an operation that waits for all before it: in any class). -/
def Into (b:Bool) (R:World→Prop) (K:(World→Prop)→Act→World→Prop) (a:Act) (w:World):Prop:=∃ R':World→Prop,R' w∧(b=true∨∀ x,R' x→R x)∧K R' a w
theorem yif_mono {P:Program} {ops:Array Oper} {R R':World→Prop} {o:Oper} {v:Value} {a:Act} (h:YieldsIf P ops R o v a) (hs:∀ x,R' x→R x):YieldsIf P ops R' o v a:=by
  rcases h with ⟨h1,h2⟩ | h
  · exact .inl ⟨h1,fun x hx=>h2 x (hs x hx)⟩
  · exact .inr h
def anyR (bar:Nat→Bool) (F:Fence) (n:Nat) (P:Program) (md:Region.Mode) (ops:Array Oper) (Q:Exit→Act→World→Prop):Nat→Array Bool→(World→Prop)→Act→World→Prop
  | 0,listed,_,a,w=>Region.ready md ops listed=[]∧Q .normal a w
  | fuel+1,listed,R,a,w=>(Region.ready md ops listed=[]→Q .normal a w) ∧
      ∀ i ∈ Region.ready md ops listed,wpOpIn F n P ops Q i (Into (bar i) R (fun R' a' w'=>anyR bar F n P md ops Q fuel (listed.setIfInBounds i true) R' a' w')) a w
theorem any_of {bar:Nat→Bool}:∀ (fuel:Nat) (listed:Array Bool) (R:World→Prop) (a:Act) (w:World),anyR bar F n P md ops Q fuel listed R a w→wpAnyIn F n P md ops Q fuel listed a w
  | 0,_,_,_,_,h=>h
  | fuel+1,_,_,_,_,h=>⟨h.1,fun i hi=>wpOpIn_mono (fun a' w' ⟨R',_,_,h3⟩=>any_of fuel _ R' a' w' h3) (h.2 i hi)⟩
theorem first {bar:Nat→Bool} {i:Nat} {oi:Oper} {v:Value} (hro:∀ o ∈ ops,noDefer o=true) (hi:ops[i]?=some oi) (hc:noCall oi=true) (hsel:∀ (j:Nat) (o:Oper) cs b,ops[j]?=some o→o.op≠.select cs b)
    (hQ:∀ c a w,Q (.panic c) (a.put oi.dst v) w→Q (.panic c) a w) :
    ∀ (fuel:Nat) (listed:Array Bool) (R:World→Prop) (a:Act) (w:World),
      (∀ j oj,ops[j]?=some oj→j≠i→listed.getD j true=false→(∀ e ∈ oj.after,Region.binds md e=true→e.on≠i)→oi.apart ops oj=true) →
      (∀ j,listed.getD j true=false→j≠i→bar j=true→i ∈ back md ops ops.size (onsOf md ops j))→Closed md ops listed→i ∈ Region.ready md ops listed→R w→YieldsIf P ops R oi v a →
      anyR bar F n P md ops Q fuel (listed.setIfInBounds i true) R (a.put oi.dst v) w→anyR bar F n P md ops Q (fuel+1) listed R a w:=by
  intro fuel
  induction fuel with
  | zero =>
    intro listed R a w _ _ _ hr hR hy H
    refine ⟨fun h=>(by rw [h] at hr;cases hr),fun j hj=>?_⟩
    by_cases hji:j=i
    · subst hji;exact yif_op hro hi hy hc hR ⟨R,hR,.inr fun _ h=>h,H⟩
    · have:=ready_mono hj hji
      rw [H.1] at this
      cases this
  | succ fuel ih =>
    intro listed R a w hfree hbar hcl hr hR hy H
    refine ⟨fun h=>(by rw [h] at hr;cases hr),fun j hj=>?_⟩
    by_cases hji:j=i
    · subst hji;exact yif_op hro hi hy hc hR ⟨R,hR,.inr fun _ h=>h,H⟩
    · have h1:=H.2 j (ready_mono hj hji)
      obtain ⟨hjun,oj,hoj,hall⟩:=mem_ready.1 hj
      have hnot:∀ e ∈ oj.after,Region.binds md e=true→e.on≠i:=fun e he hb heq=>by
        have h1:=hall e he hb
        have h0:=(mem_ready.1 hr).1
        rw [heq] at h1
        rcases Nat.lt_or_ge i listed.size with h' | h'
        · simp [h'] at h0 h1;rw [h0] at h1;cases h1
        · simp [Array.getElem?_eq_none h'] at h1
      have hb:bar j=false:=bar_not hcl hj hr (hbar j hjun hji)
      have h2:=putIf hro hoj (hfree j oj hoj hji hjun hnot) (fun cs b=>hsel i oi cs b hi) (fun cs b=>hsel j oj cs b hoj) hQ hy h1
      have hfree':∀ k ok,ops[k]?=some ok→k≠i→(listed.setIfInBounds j true).getD k true=false →
          (∀ e ∈ ok.after,Region.binds md e=true→e.on≠i)→oi.apart ops ok=true:=fun k ok hk hki hun hno=>by
        refine hfree k ok hk hki ?_ hno
        by_cases hjk:j=k
        · subst hjk;exact hjun
        · rw [getD_set_ne true hjk] at hun;exact hun
      have hbar':∀ k,(listed.setIfInBounds j true).getD k true=false→k≠i→bar k=true→i ∈ back md ops ops.size (onsOf md ops k):=fun k hun hki hbk=>by
        refine hbar k ?_ hki hbk
        by_cases hjk:j=k
        · subst hjk;exact hjun
        · rw [getD_set_ne true hjk] at hun;exact hun
      refine wpOpIn_mono (fun a' w' ⟨hy',R',hR',hor,hK⟩=>?_) h2
      have hsub:=hor.resolve_left (by simp [hb])
      refine ⟨R',hR',.inr hsub,ih (listed.setIfInBounds j true) R' a' w' hfree' hbar' (hcl.set hj) (ready_mono hr (Ne.symm hji)) hR' (yif_mono hy' hsub) ?_⟩
      rw [Array.setIfInBounds_comm _ _ hji]
      exact hK
theorem firstP {bar:Nat→Bool} {i:Nat} {oi:Oper} {v:Value} (hro:∀ o ∈ ops,noDefer o=true) (hi:ops[i]?=some oi) (hc:noCall oi=true) (hsel:∀ (j:Nat) (o:Oper) cs b,ops[j]?=some o→o.op≠.select cs b)
    (hQ:∀ c a w,Q (.panic c) (a.put oi.dst v) w→Q (.panic c) a w) :
    ∀ (fuel:Nat) (listed:Array Bool) (R:World→Prop) (a:Act) (w:World),
      (∀ j oj,ops[j]?=some oj→j≠i→listed.getD j true=false→(∀ e ∈ oj.after,Region.binds md e=true→e.on≠i)→oi.apart ops oj=true) →
      i ∈ Region.ready md ops listed→R w→YieldsIf P ops (fun _=>True) oi v a →
      anyR bar F n P md ops Q fuel (listed.setIfInBounds i true) R (a.put oi.dst v) w→anyR bar F n P md ops Q (fuel+1) listed R a w:=by
  intro fuel
  induction fuel with
  | zero =>
    intro listed R a w _ hr hR hy H
    refine ⟨fun h=>(by rw [h] at hr;cases hr),fun j hj=>?_⟩
    by_cases hji:j=i
    · subst hji;exact yif_op hro hi hy hc (R:=fun _=>True) trivial ⟨R,hR,.inr fun _ h=>h,H⟩
    · have:=ready_mono hj hji
      rw [H.1] at this
      cases this
  | succ fuel ih =>
    intro listed R a w hfree hr hR hy H
    refine ⟨fun h=>(by rw [h] at hr;cases hr),fun j hj=>?_⟩
    by_cases hji:j=i
    · subst hji;exact yif_op hro hi hy hc (R:=fun _=>True) trivial ⟨R,hR,.inr fun _ h=>h,H⟩
    · have h1:=H.2 j (ready_mono hj hji)
      obtain ⟨hjun,oj,hoj,hall⟩:=mem_ready.1 hj
      have hnot:∀ e ∈ oj.after,Region.binds md e=true→e.on≠i:=fun e he hb heq=>by
        have h1:=hall e he hb
        have h0:=(mem_ready.1 hr).1
        rw [heq] at h1
        rcases Nat.lt_or_ge i listed.size with h' | h'
        · simp [h'] at h0 h1;rw [h0] at h1;cases h1
        · simp [Array.getElem?_eq_none h'] at h1
      have h2:=putIf hro hoj (hfree j oj hoj hji hjun hnot) (fun cs b=>hsel i oi cs b hi) (fun cs b=>hsel j oj cs b hoj) hQ hy h1
      refine wpOpIn_mono (fun a' w' ⟨hy',R',hR',hor,hK⟩=>?_) h2
      refine ⟨R',hR',hor,ih (listed.setIfInBounds j true) R' a' w' (fun k ok hk hki hun hno=>hfree k ok hk hki (by
        by_cases hjk:j=k
        · subst hjk;exact hjun
        · rw [getD_set_ne true hjk] at hun;exact hun) hno) (ready_mono hr (Ne.symm hji)) hR' hy' ?_⟩
      rw [Array.setIfInBounds_comm _ _ hji]
      exact hK
/-- The walk in the order that is handed in: 0: the operation only reads (in every world of R), and calls nothing; 1: it may turn the world, within R; 2: it looks at no world; else: it may turn the world anyhow, and waits for all that came before it. -/
def can (F:Fence) (n:Nat) (P:Program) (ops:Array Oper) (Q:Exit→Act→World→Prop):List (Oper × Nat)→(World→Prop)→Act→World→Prop
  | [],_,a,w=>Q .normal a w
  | (o,0)::r,R,a,w =>
    if Region.wanted o (yielded ops a.tmps) then ∃ v,(∀ x,R x→(execOp a.eval o).run P x=.ok (.value v) x)∧can F n P ops Q r R (a.put o.dst v) w
    else can F n P ops Q r R (a.put o.dst undef) w
  | (o,1)::r,R,a,w =>
    if Region.wanted o (yielded ops a.tmps) then o.wpIn F n P a w (fun a' w'=>∃ R':World→Prop,(∀ x,R' x→R x)∧R' w'∧can F n P ops Q r R' a' w') Q
    else (∀ f,o.about P w a.eval=some f→F.fn f)∧can F n P ops Q r R (a.put o.dst undef) w
  | (o,2)::r,R,a,w =>
    if Region.wanted o (yielded ops a.tmps) then ∃ v,(∀ x,(execOp a.eval o).run P x=.ok (.value v) x)∧can F n P ops Q r R (a.put o.dst v) w
    else can F n P ops Q r R (a.put o.dst undef) w
  | (o,_+3)::r,R,a,w =>
    if Region.wanted o (yielded ops a.tmps) then o.wpIn F n P a w (fun a' w'=>∃ R':World→Prop,R' w'∧can F n P ops Q r R' a' w') Q
    else (∀ f,o.about P w a.eval=some f→F.fn f)∧can F n P ops Q r R (a.put o.dst undef) w
def canB (bar:Nat→Bool) (md:Region.Mode) (ops:Array Oper):List (Nat × Nat)→Array Bool→Bool
  | [],listed=>(Region.ready md ops listed).isEmpty
  | (k,0)::r,listed=>(Region.ready md ops listed).contains k && Region.free md ops listed k && (match ops[k]? with | some o=>noCall o | none=>false) &&
      ((List.range ops.size).all fun j=>listed.getD j true || j == k || !bar j || (back md ops ops.size (onsOf md ops j)).contains k) && canB bar md ops r (listed.setIfInBounds k true)
  | (k,1)::r,listed=>Region.ready md ops listed == [k] && !bar k && canB bar md ops r (listed.setIfInBounds k true)
  | (k,2)::r,listed=>(Region.ready md ops listed).contains k && Region.free md ops listed k && (match ops[k]? with | some o=>noCall o | none=>false) && canB bar md ops r (listed.setIfInBounds k true)
  | (k,_+3)::r,listed=>Region.ready md ops listed == [k] && bar k && canB bar md ops r (listed.setIfInBounds k true)
def pick (l:List Oper):List (Nat × Nat)→List (Oper × Nat)
  | []=>[]
  | (k,e)::r=>match l[k]? with | some o=>(o,e)::pick l r | none=>[]
theorem bar_spec {bar:Nat→Bool} {listed:Array Bool} {k:Nat} (h:((List.range ops.size).all fun j=>listed.getD j true || j == k || !bar j || (back md ops ops.size (onsOf md ops j)).contains k)=true) (hsz:listed.size≤ops.size) :
    ∀ j,listed.getD j true=false→j≠k→bar j=true→k ∈ back md ops ops.size (onsOf md ops j):=by
  intro j h1 h2 h3
  have hj:j<ops.size:=by
    rcases Nat.lt_or_ge j listed.size with h' | h'
    · omega
    · simp [Array.getElem?_eq_none h'] at h1
  have:=List.all_eq_true.1 h j (List.mem_range.2 hj)
  rw [h1,h3] at this
  simpa [h2] using this
theorem any_can {bar:Nat→Bool} (hro:∀ o ∈ ops,noDefer o=true) (hs:Region.noSelect ops=true) (hQ:∀ c a d v w,Q (.panic c) (Act.put a d v) w→Q (.panic c) a w):∀ (r:List (Nat × Nat)) (listed:Array Bool) (R:World→Prop) (a:Act) (w:World),
    listed.size=ops.size→Closed md ops listed→canB bar md ops r listed=true→r.all (fun p=>decide (p.1<ops.size))=true→R w→can F n P ops Q (pick ops.toList r) R a w→anyR bar F n P md ops Q r.length listed R a w
  | [],_,_,_,_,_,_,hB,_,_,h=>⟨by simpa [canB] using hB,h⟩
  | (k,0)::r,listed,R,a,w,hsz,hcl,hB,hl,hR,h=>by
    simp only [List.all_cons,Bool.and_eq_true,decide_eq_true_eq] at hl
    obtain ⟨hk,hl'⟩:=hl
    have h0:ops[k]?=some ops[k]:=Array.getElem?_eq_getElem hk
    have h0':ops.toList[k]?=some ops[k]:=by simp [hk]
    simp only [canB,Bool.and_eq_true,h0] at hB
    obtain ⟨⟨⟨⟨hr,hf⟩,hc⟩,hbar⟩,hB'⟩:=hB
    have hsz':(listed.setIfInBounds k true).size=ops.size:=by simpa using hsz
    have hcl':=hcl.set (i:=k) (by simpa using hr)
    have hbs:=bar_spec hbar (Nat.le_of_eq hsz)
    simp only [pick,h0',can] at h
    by_cases hw:Region.wanted ops[k] (yielded ops a.tmps)=true
    · simp only [hw,if_true] at h
      obtain ⟨v,hv,hK⟩:=h
      exact first hro h0 hc (Region.noSelect_spec hs) (fun c a w=>hQ c a _ _ w) r.length listed R a w (Region.free_spec h0 hf) hbs hcl (by simpa using hr) hR (.inl ⟨hw,hv⟩) (any_can hro hs hQ r _ R _ w hsz' hcl' hB' hl' hR hK)
    · simp only [hw] at h
      exact first hro h0 hc (Region.noSelect_spec hs) (fun c a w=>hQ c a _ _ w) r.length listed R a w (Region.free_spec h0 hf) hbs hcl (by simpa using hr) hR (.inr ⟨by simpa using hw,rfl⟩) (any_can hro hs hQ r _ R _ w hsz' hcl' hB' hl' hR h)
  | (k,1)::r,listed,R,a,w,hsz,hcl,hB,hl,hR,h=>by
    simp only [canB,Bool.and_eq_true,beq_iff_eq,Bool.not_eq_true'] at hB
    obtain ⟨⟨hr,hbk⟩,hB'⟩:=hB
    simp only [List.all_cons,Bool.and_eq_true,decide_eq_true_eq] at hl
    obtain ⟨hk,hl'⟩:=hl
    have h0:ops[k]?=some ops[k]:=Array.getElem?_eq_getElem hk
    have h0':ops.toList[k]?=some ops[k]:=by simp [hk]
    have hsz':(listed.setIfInBounds k true).size=ops.size:=by simpa using hsz
    have hcl':=hcl.set (i:=k) (by rw [hr];simp)
    simp only [pick,h0',can] at h
    refine ⟨fun h=>(by rw [hr] at h;cases h),fun j hj=>?_⟩
    rw [hr] at hj
    obtain rfl:j=k:=by simpa using hj
    unfold wpOpIn
    simp only [h0]
    by_cases hw:Region.wanted ops[j] (yielded ops a.tmps)=true
    · simp only [hw,if_true] at h ⊢
      exact Oper.wpIn_mono (fun a' w' ⟨R',g0,g1,g2⟩=>⟨R',g1,.inr g0,any_can hro hs hQ r _ R' a' w' hsz' hcl' hB' hl' g1 g2⟩) h
    · simp only [hw] at h ⊢
      exact ⟨h.1,R,hR,.inr fun _ h=>h,any_can hro hs hQ r _ R _ w hsz' hcl' hB' hl' hR h.2⟩
  | (k,2)::r,listed,R,a,w,hsz,hcl,hB,hl,hR,h=>by
    simp only [List.all_cons,Bool.and_eq_true,decide_eq_true_eq] at hl
    obtain ⟨hk,hl'⟩:=hl
    have h0:ops[k]?=some ops[k]:=Array.getElem?_eq_getElem hk
    have h0':ops.toList[k]?=some ops[k]:=by simp [hk]
    simp only [canB,Bool.and_eq_true,h0] at hB
    obtain ⟨⟨⟨hr,hf⟩,hc⟩,hB'⟩:=hB
    have hsz':(listed.setIfInBounds k true).size=ops.size:=by simpa using hsz
    have hcl':=hcl.set (i:=k) (by simpa using hr)
    simp only [pick,h0',can] at h
    by_cases hw:Region.wanted ops[k] (yielded ops a.tmps)=true
    · simp only [hw,if_true] at h
      obtain ⟨v,hv,hK⟩:=h
      exact firstP hro h0 hc (Region.noSelect_spec hs) (fun c a w=>hQ c a _ _ w) r.length listed R a w (Region.free_spec h0 hf) (by simpa using hr) hR (.inl ⟨hw,fun x _=>hv x⟩) (any_can hro hs hQ r _ R _ w hsz' hcl' hB' hl' hR hK)
    · simp only [hw] at h
      exact firstP hro h0 hc (Region.noSelect_spec hs) (fun c a w=>hQ c a _ _ w) r.length listed R a w (Region.free_spec h0 hf) (by simpa using hr) hR (.inr ⟨by simpa using hw,rfl⟩) (any_can hro hs hQ r _ R _ w hsz' hcl' hB' hl' hR h)
  | (k,m+3)::r,listed,R,a,w,hsz,hcl,hB,hl,hR,h=>by
    simp only [canB,Bool.and_eq_true,beq_iff_eq] at hB
    obtain ⟨⟨hr,hbk⟩,hB'⟩:=hB
    simp only [List.all_cons,Bool.and_eq_true,decide_eq_true_eq] at hl
    obtain ⟨hk,hl'⟩:=hl
    have h0:ops[k]?=some ops[k]:=Array.getElem?_eq_getElem hk
    have h0':ops.toList[k]?=some ops[k]:=by simp [hk]
    have hsz':(listed.setIfInBounds k true).size=ops.size:=by simpa using hsz
    have hcl':=hcl.set (i:=k) (by rw [hr];simp)
    simp only [pick,h0',can] at h
    refine ⟨fun h=>(by rw [hr] at h;cases h),fun j hj=>?_⟩
    rw [hr] at hj
    obtain rfl:j=k:=by simpa using hj
    unfold wpOpIn
    simp only [h0]
    by_cases hw:Region.wanted ops[j] (yielded ops a.tmps)=true
    · simp only [hw,if_true] at h ⊢
      exact Oper.wpIn_mono (fun a' w' ⟨R',g1,g2⟩=>⟨R',g1,.inl hbk,any_can hro hs hQ r _ R' a' w' hsz' hcl' hB' hl' g1 g2⟩) h
    · simp only [hw] at h ⊢
      exact ⟨h.1,R,hR,.inr fun _ h=>h,any_can hro hs hQ r _ R _ w hsz' hcl' hB' hl' hR h.2⟩
/-- The walk, behind a name that nothing opens. -/
structure Can (F:Fence) (n:Nat) (P:Program) (ops:Array Oper) (Q:Exit→Act→World→Prop) (l:List (Oper × Nat)) (R:World→Prop) (a:Act) (w:World):Prop where
  out:can F n P ops Q l R a w
/-- Which operations have all that comes before them in the order that is handed in behind them for good. -/
def barOf (σ:List (Nat × Nat)) (j:Nat):Bool:=σ.any fun p=>p.1 == j && decide (3≤p.2)
/-- **ONE WALK, IN THE ORDER THAT IS HANDED IN, SERVES EVERY ORDER.** -/
theorem wpIn_region_can (R:World→Prop) (σ:List (Nat × Nat)) {id:Nat} {a:Act} {w:World} {l:List Oper} (hro:l.all noDefer=true) (hm:P.follows .mixedOrders=true)
    (hB:(Region.noSelect l.toArray && canB (barOf σ) .any l.toArray σ (Array.replicate l.length false) && σ.all (fun p=>decide (p.1<l.length)) && (σ.length == l.length))=true)
    (hQ:∀ c a d v w,Q (.panic c) (Act.put a d v) w→Q (.panic c) a w)
    (hR:R { w with drawn:=w.drawn+1 })
    (h:Can F n P l.toArray Q (pick l σ) R a { w with drawn:=w.drawn+1 }):(Code.region id l.toArray true).wpIn F n P Q a w:=by
  simp only [Bool.and_eq_true,beq_iff_eq] at hB
  obtain ⟨⟨⟨h1,h2⟩,h3⟩,h4⟩:=hB
  refine wpIn_region_any hm (any_of (bar:=barOf σ) _ _ R _ _ ?_)
  have:=any_can (bar:=barOf σ) (F:=F) (n:=n) (P:=P) (ops:=l.toArray) (md:=.any) (Q:=Q) (fun o ho=>List.all_eq_true.1 hro o (by simpa using ho)) h1 hQ σ (Array.replicate l.length false) R a _ (by simp) (Closed.none _) h2 (by simpa using h3) hR (by simpa using h.out)
  simpa [h4] using this
/-- The same, and no panic is let out. -/
def noPanic (Q:Exit→Act→World→Prop):Exit→Act→World→Prop
  | .panic _,_,_=>False
  | e,a,w=>Q e a w
/-- The same where what follows looks at the frame behind a panic: no operation of the region may panic. -/
theorem wpIn_region_calm (R:World→Prop) (σ:List (Nat × Nat)) {id:Nat} {a:Act} {w:World} {l:List Oper} (hro:l.all noDefer=true) (hm:P.follows .mixedOrders=true)
    (hB:(Region.noSelect l.toArray && canB (barOf σ) .any l.toArray σ (Array.replicate l.length false) && σ.all (fun p=>decide (p.1<l.length)) && (σ.length == l.length))=true)
    (hR:R { w with drawn:=w.drawn+1 })
    (h:Can F n P l.toArray (noPanic Q) (pick l σ) R a { w with drawn:=w.drawn+1 }):(Code.region id l.toArray true).wpIn F n P Q a w :=
  wpIn_mono (wpIn_region_can R σ hro hm hB (fun _ _ _ _ _ h=>h.elim) hR h) (fun e a w hq=>by cases e <;> first | exact hq | exact hq.elim)
/-- An operation that only reads. -/
theorem can_reads {R:World→Prop} {a:Act} {w:World} {o:Oper} {r:List (Oper × Nat)}
    (h:∀ K:Act→Prop,(∀ a,Can F n P ops Q r R a w→K a)→if Region.wanted o (yielded ops a.tmps) then ∃ v,(∀ x,R x→(execOp a.eval o).run P x=.ok (.value v) x)∧K (a.put o.dst v) else K (a.put o.dst undef)) :
    Can F n P ops Q ((o,0)::r) R a w:=⟨h _ (fun _ h=>h.out)⟩
/-- An operation that may turn the world, within R; the class may narrow. -/
theorem can_narrows (hfn:∀ f,F.fn f) {R:World→Prop} {a:Act} {w:World} {o:Oper} {r:List (Oper × Nat)}
    (h:∀ (K:Act→World→Prop) (K0:Act→Prop),(∀ (R':World→Prop) a w,(∀ x,R' x→R x)→R' w→Can F n P ops Q r R' a w→K a w)→(∀ a,Can F n P ops Q r R a w→K0 a) →
      if Region.wanted o (yielded ops a.tmps) then o.wpIn F n P a w K Q else K0 (a.put o.dst undef)) :
    Can F n P ops Q ((o,1)::r) R a w:=by
  have h':=h (fun a' w'=>∃ R':World→Prop,(∀ x,R' x→R x)∧R' w'∧can F n P ops Q r R' a' w') (fun a=>can F n P ops Q r R a w) (fun R' _ _ h0 h1 h2=>⟨R',h0,h1,h2.out⟩) (fun _ h=>h.out)
  refine ⟨?_⟩
  simp only [can]
  split
  · rename_i hw;rw [if_pos hw] at h';exact h'
  · rename_i hw;rw [if_neg hw] at h';exact ⟨fun f _=>hfn f,h'⟩
/-- An operation that may turn the world, within R. -/
theorem can_turns (hfn:∀ f,F.fn f) {R:World→Prop} {a:Act} {w:World} {o:Oper} {r:List (Oper × Nat)}
    (h:∀ (K:Act→World→Prop) (K0:Act→Prop),(∀ a w,R w→Can F n P ops Q r R a w→K a w)→(∀ a,Can F n P ops Q r R a w→K0 a) →
      if Region.wanted o (yielded ops a.tmps) then o.wpIn F n P a w K Q else K0 (a.put o.dst undef)) :
    Can F n P ops Q ((o,1)::r) R a w:=can_narrows hfn (fun K K0 hK hK0=>h K K0 (fun a w h1 h2=>hK R a w (fun _ h=>h) h1 h2) hK0)
/-- An operation that may turn the world anyhow, and waits for all that came before it (at the wide fence). -/
theorem can_frees (hfn:∀ f,F.fn f) {R:World→Prop} {a:Act} {w:World} {o:Oper} {r:List (Oper × Nat)}
    (h:∀ (K:Act→World→Prop) (K0:Act→Prop),(∀ (R':World→Prop) a w,R' w→Can F n P ops Q r R' a w→K a w)→(∀ a,Can F n P ops Q r R a w→K0 a) →
      if Region.wanted o (yielded ops a.tmps) then o.wpIn F n P a w K Q else K0 (a.put o.dst undef)) :
    Can F n P ops Q ((o,3)::r) R a w:=by
  have h':=h (fun a' w'=>∃ R':World→Prop,R' w'∧can F n P ops Q r R' a' w') (fun a=>can F n P ops Q r R a w) (fun R' _ _ h1 h2=>⟨R',h1,h2.out⟩) (fun _ h=>h.out)
  refine ⟨?_⟩
  simp only [can]
  split
  · rename_i hw;rw [if_pos hw] at h';exact h'
  · rename_i hw;rw [if_neg hw] at h';exact ⟨fun f _=>hfn f,h'⟩
/-- An operation's law without a fence serves at the wide one. -/
theorem op_wide {o:Oper} (hd:noDefer o=true) {K:Act→World→Prop} {a:Act} {w:World} (h:o.wp P a w K Q):o.wpIn Fence.wide n P a w K Q:=by
  refine ⟨fun _ _=>trivial,?_⟩
  rw [sem_of (F:=Fence.wide) hd]
  unfold Oper.wp at h
  generalize (execOp a.eval o).run P w=r at *
  cases r with
  | ok x w' =>
    cases x with
    | value v=>exact h
    | skip=>exact h
    | defer d=>exact h
    | enter f args=>exact ⟨fun e=>(by cases e),callsIn_wide.2 h⟩
    | row row args=>exact ⟨fun e=>(by cases e),fun c cs _=>let ⟨v,w'',r,s⟩:=h c cs;⟨v,w'',r,stepsIn_wide.2 s⟩⟩
    | _=>exact h.elim
  | halt x w'=>cases x <;> exact h
theorem can_nil {R:World→Prop} {a:Act} {w:World} (h:Q .normal a w):Can F n P ops Q [] R a w:=⟨h⟩
theorem can_calm {R:World→Prop} {a:Act} {w:World} (h:Q .normal a w):Can F n P ops (noPanic Q) [] R a w:=⟨h⟩
end
end Go.Proofs.YticjodhkmidljaaGreatDoor.RegK
