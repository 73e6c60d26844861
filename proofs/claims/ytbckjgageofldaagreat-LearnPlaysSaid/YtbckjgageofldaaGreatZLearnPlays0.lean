/- Plain facts on the checksum of 64 bits: one step, eight steps, a text. No condition. -/
import Derived.Laws.Bits64
import Derived.Laws.BitsAllLaws
import Derived.Test.YtbckjgageofldaaGreatRows
import Derived.WalkKit
import Derived.WalkSpells
import Derived.WalkLawsBesides
import Derived.Lib.Hide
import Derived.OrdersHeld
import Derived.BigQuiet
import Derived.Deep.QuietTactic
import Derived.Below
import Derived.OpenShut
import Derived.Deep.DeepCutAuto
import Derived.Deep.CutBlock
import Derived.LaidEqlPtr
namespace Go.Proofs.YtbckjgageofldaaGreat.Crc
def poly:BitVec 64:=0xc96c5795d7870f42#64
def st (x:BitVec 64):BitVec 64:=if x &&& 1#64 == 1#64 then (x >>> 1) ^^^ poly else x >>> 1
def sts:Nat→BitVec 64→BitVec 64
 | 0,x=>x
 | k+1,x=>st (sts k x)
def byte (c:UInt8):BitVec 64:=BitVec.ofNat 64 c.toNat
def more (n:BitVec 64) (l:List UInt8):BitVec 64:=l.foldl (fun n c=>sts 8 (n ^^^ byte c)) n
def sum (s:BitVec 64) (l:List UInt8):BitVec 64 := ~~~ more (~~~ s) l
theorem more_snoc (n:BitVec 64) (l:List UInt8) (c:UInt8):more n (l++[c])=sts 8 (more n l ^^^ byte c):=by simp [more]
theorem ofInt_toNat (x:BitVec 64):BitVec.ofInt 64 (x.toNat:Int)=x:=by
 rw [BitVec.ofInt_natCast];simp
theorem wrap_toNat (x:BitVec 64):IntKind.u64.wrap (x.toNat:Int)=x.toNat:=by
 have:=x.isLt;rw [IntKind.wrap_u64];omega
theorem xor_bv (x y:BitVec 64):bits .xor .u64 (x.toNat:Int) (y.toNat:Int)=((x ^^^ y).toNat:Int):=by
 show IntKind.u64.wrap ((BitVec.ofInt 64 (x.toNat:Int) ^^^ BitVec.ofInt 64 (y.toNat:Int)).toNat:Int)=_;rw [ofInt_toNat,ofInt_toNat,wrap_toNat]
theorem xor_poly (x:BitVec 64):bits .xor .u64 (x.toNat:Int) 14514072000185962306=((x ^^^ poly).toNat:Int):=xor_bv x poly
theorem and_bv (x y:BitVec 64):bits .and .u64 (x.toNat:Int) (y.toNat:Int)=((x &&& y).toNat:Int):=by
 show IntKind.u64.wrap ((BitVec.ofInt 64 (x.toNat:Int) &&& BitVec.ofInt 64 (y.toNat:Int)).toNat:Int)=_;rw [ofInt_toNat,ofInt_toNat,wrap_toNat]
theorem and_one (x:BitVec 64):bits .and .u64 (x.toNat:Int) 1=((x &&& 1#64).toNat:Int):=and_bv x 1#64
theorem half_bv (x:BitVec 64):(x.toNat:Int) / (2:Int)=((x >>> (1:Nat)).toNat:Int):=by
 simp [Nat.shiftRight_eq_div_pow]
theorem low_bv (x:BitVec 64):((x &&& 1#64).toNat:Int)=(x.toNat:Int) % 2:=by
 simp
theorem eq_bv (x y:BitVec 64):(((x.toNat:Int)) == (y.toNat:Int))=(x == y):=by
 rw [Bool.eq_iff_iff,beq_iff_eq,beq_iff_eq];exact ⟨fun h=>BitVec.eq_of_toNat_eq (Int.ofNat.inj h),fun h=>by rw [h]⟩
theorem low_iff (x:BitVec 64):(x &&& 1#64 == 1#64)=(bits .and .u64 (x.toNat:Int) 1 == 1):=by
 rw [← eq_bv,and_one];rfl
theorem st_odd (x:BitVec 64) (h:(bits .and .u64 (x.toNat:Int) 1 == 1)=true):bits .xor .u64 ((x.toNat:Int) / 2) 14514072000185962306=((st x).toNat:Int):=by
 rw [← low_iff] at h;simp only [st,h,if_true];rw [half_bv,xor_poly]
theorem st_even (x:BitVec 64) (h:(bits .and .u64 (x.toNat:Int) 1 == 1)=false):(x.toNat:Int) / 2=((st x).toNat:Int):=by
 rw [← low_iff] at h;simp only [st,h,Bool.false_eq_true,if_false];rw [half_bv]
theorem low_mod (x:BitVec 64):bits .and .u64 (x.toNat:Int) 1=(x.toNat:Int) % 2:=by
 rw [and_one,low_bv]
theorem st_odd' (x:BitVec 64) (h:((x.toNat:Int) % 2 == 1)=true):bits .xor .u64 ((x.toNat:Int) / 2) 14514072000185962306=((st x).toNat:Int):=by
 rw [← low_mod] at h;exact st_odd x h
theorem st_even' (x:BitVec 64) (h:((x.toNat:Int) % 2 == 1)=false):(x.toNat:Int) / 2=((st x).toNat:Int):=by
 rw [← low_mod] at h;exact st_even x h
theorem not_bv (x:BitVec 64):bits .xor .u64 IntKind.u64.max (x.toNat:Int)=((~~~ x).toNat:Int):=by
 have h:IntKind.u64.max=((BitVec.allOnes 64).toNat:Int):=by decide
 rw [h,xor_bv,BitVec.allOnes_xor]
theorem byte_wrap (c:UInt8):IntKind.u64.wrap (c.toNat:Int)=((byte c).toNat:Int):=by
 have:=c.toNat_lt;rw [IntKind.wrap_u64];simp [byte];omega
theorem byte_xor (x:BitVec 64) (c:UInt8):bits .xor .u64 (x.toNat:Int) (IntKind.u64.wrap (c.toNat:Int))=((x ^^^ byte c).toNat:Int):=by
 rw [byte_wrap,xor_bv]
theorem take_snoc (s:ByteArray) (k:Nat) (h:k<s.size):s.data.toList.take (k+1)=s.data.toList.take k++[s[k]]:=by
 rw [List.take_succ_eq_append_getElem (by simpa using h)];rfl
theorem more_take (x:BitVec 64) (s:ByteArray) (k:Nat) (h:k<s.size):more x (s.data.toList.take (k+1))=sts 8 (more x (s.data.toList.take k) ^^^ byte s[k]):=by
 rw [take_snoc s k h,more_snoc]
theorem take_all (s:ByteArray):s.data.toList.take s.size=s.data.toList:=List.take_of_length_le (by simp)
end Go.Proofs.YtbckjgageofldaaGreat.Crc
namespace Go.Proofs.YtbckjgageofldaaGreat
open Go.RowKit
set_option maxHeartbeats 400000 in
theorem eight_any (x:BitVec 64) (w:World) :
  Calls Tryz.prog 178 #[.int .u64 (x.toNat:Int)] w fun e w'=>e=.returned (.int .u64 (Crc.sts 8 x).toNat)∧w=w':=by
 go_enter Tryz.func178,Tryz.ntmps178
 go_wp2
 go_loop [0,3,4] (fun n _ i=>∃ k:Nat,k≤8∧i=.int .i64 k∧n=.int .u64 (Crc.sts k x).toNat) (fun _ _ i=>8 - (intOf i).toNat)
 case atStart=>exact ⟨0,by omega,rfl,rfl⟩
 case round =>
  obtain ⟨k,hk,rfl,rfl⟩:=hrel;generalize hy:Crc.sts k x=y;have Hy:=Lib.hid hy;clear hy
  go_wp2
  ·
   go_round
   case rel=>exact ⟨k+1,by omega,by go_num,by rw [Crc.st_odd _ ‹_›, ← Hy.out];rfl⟩
   case measure=>simp [intOf];omega
  ·
   go_round
   case rel=>exact ⟨k+1,by omega,by go_num,by rw [Crc.st_even _ ‹_›, ← Hy.out];rfl⟩
   case measure=>simp [intOf];omega
  ·
   have h8:k=8:=by omega
   subst h8;go_ret;exact ⟨by rw [Hy.out];rfl,rfl⟩
set_option maxHeartbeats 400000 in
theorem more_any (x:BitVec 64) (s:ByteArray) (hs:s.size≤maxLen) (w:World) :
  Calls Tryz.prog 157 #[.int .u64 (x.toNat:Int),.string s] w fun e w'=>e=.returned (.int .u64 (Crc.sum x s.data.toList).toNat)∧w=w':=by
 unfold maxLen at hs;have hn:=Crc.not_bv x;generalize hz : ~~~ x=z at hn;have Hz:=Lib.hid hz;clear hz
 go_enter Tryz.func157,Tryz.ntmps157
 go_wp2
 clear hn;go_loop [5,6,11] (fun n _ i=>∃ k:Nat,k≤s.size∧i=.int .i64 k∧n=.int .u64 (Crc.more z (s.data.toList.take k)).toNat) (fun _ _ i=>s.size - (intOf i).toNat)
 case atStart=>exact ⟨0,by omega,rfl,rfl⟩
 case round =>
  obtain ⟨k,hk,rfl,rfl⟩:=hrel;generalize hy:Crc.more z (s.data.toList.take k)=y;have Hy:=Lib.hid hy;clear hy
  by_cases hlt:k<s.size
  ·
   have hb:=Crc.byte_xor y s[k];generalize hv:y ^^^ Crc.byte s[k]=v at hb;have Hv:=Lib.hid hv;clear hv
   go_wp2_with (go_at_call 178;(with_reducible refine (eight_any _ _).mono ?_);rintro e w' ⟨rfl,rfl⟩);go_round
   case rel=>exact ⟨k+1,by omega,by go_num,by rw [Crc.more_take _ _ _ hlt,Hy.out,Hv.out]⟩
   case measure=>simp [intOf];omega
  ·
   have hk':k=s.size:=by omega
   subst hk';have hn:=Crc.not_bv y;generalize hv : ~~~ y=v at hn;have Hv:=Lib.hid hv;clear hv
   go_wp2
   go_ret;exact ⟨by rw [Crc.sum, ← Crc.take_all s,Hz.out,Hy.out,Hv.out];rfl,rfl⟩
set_option maxHeartbeats 400000 in
theorem sum_any (s:ByteArray) (hs:s.size≤maxLen) (w:World) :
  Calls Tryz.prog 103 #[.string s] w fun e w'=>e=.returned (.int .u64 (Crc.sum 0#64 s.data.toList).toNat)∧w=w':=by
 go_enter Tryz.func103,Tryz.ntmps103
 go_wp2_with (go_at_call 157;refine (more_any 0#64 _ hs _).mono ?_;rintro e w' ⟨rfl,rfl⟩);go_ret;exact ⟨rfl,rfl⟩
end Go.Proofs.YtbckjgageofldaaGreat
namespace Go.Proofs.YtbckjgageofldaaGreat.RegR
open Go
section
variable {P : Program} {ops : Array Oper} {Q : Exit → Act → World → Prop} {md : Region.Mode}
def onsOf (md:Region.Mode) (ops:Array Oper) (j:Nat):List Nat:=match ops[j]? with
 | some o=>(o.after.toList.filter (Region.binds md)).map (·.on)
 | none=>[]
def anc (md:Region.Mode) (ops:Array Oper):Nat→List Nat→List Nat
 | 0,l=>l
 | n+1,l=>anc md ops n (l++l.flatMap (onsOf md ops)).eraseDups
def Closed (md:Region.Mode) (ops:Array Oper) (listed:Array Bool):Prop:=∀ j,listed.getD j false=true→∀ e ∈ onsOf md ops j,listed.getD e false=true
theorem anc_listed {listed:Array Bool} (h:Closed md ops listed):∀ (n:Nat) (l:List Nat),(∀ j ∈ l,listed.getD j false=true)→∀ j ∈ anc md ops n l,listed.getD j false=true
 | 0,_,hl,j,hj=>hl j hj
 | n+1,l,hl,j,hj=>anc_listed h n _ (fun k hk=>by
   rw [List.mem_eraseDups,List.mem_append,List.mem_flatMap] at hk;rcases hk with hk | ⟨q,hq,hk⟩
   ·
    exact hl k hk
   ·
    exact h q (hl q hq) k hk) j hj
theorem ready_ons {listed:Array Bool} {j:Nat} (h:j ∈ Region.ready md ops listed):∀ e ∈ onsOf md ops j,listed.getD e false=true:=by
 obtain ⟨_,o,ho,hall⟩:=mem_ready.1 h;intro e he;simp only [onsOf,ho,List.mem_map,List.mem_filter] at he;obtain ⟨q,⟨h1,h2⟩,rfl⟩:=he;exact hall q (by simpa using h1) h2
theorem getD_set_grow {listed:Array Bool} {i j:Nat} (h:listed.getD j false=true):(listed.setIfInBounds i true).getD j false=true:=getD_set_true h
theorem Closed.set {listed:Array Bool} {i:Nat} (h:Closed md ops listed) (hi:i ∈ Region.ready md ops listed):Closed md ops (listed.setIfInBounds i true):=by
 intro j hj e he;by_cases hij:i=j
 ·
  subst hij;exact getD_set_grow (ready_ons hi e he)
 ·
  rw [getD_set_ne false hij] at hj;exact getD_set_grow (h j hj e he)
theorem Closed.none (n:Nat):Closed md ops (Array.replicate n false):=by
 intro j hj;have:(Array.replicate n false).getD j false=false:=by
  simp only [Array.getD_eq_getD_getElem?,Array.getElem?_replicate];split <;> rfl
 rw [this] at hj;cases hj
theorem bar_not {bar:Nat→Bool} {listed:Array Bool} {i j:Nat} (h:Closed md ops listed) (hj:j ∈ Region.ready md ops listed) (hi:i ∈ Region.ready md ops listed)
  (hb:bar j=true→i ∈ anc md ops 8 (onsOf md ops j)):bar j=false:=by
 rw [Bool.eq_false_iff];intro hbj;obtain ⟨h0,o,ho,_⟩:=mem_ready.1 hi;have h4:=anc_listed h 8 _ (ready_ons hj) i (hb hbj);rcases Nat.lt_or_ge i listed.size with h' | h'
 ·
  simp [h'] at h0 h4;rw [h0] at h4;cases h4
 ·
  simp [Array.getElem?_eq_none h'] at h4
def Into (b:Bool) (R:World→Prop) (K:(World→Prop)→Act→World→Prop) (a:Act) (w:World):Prop:=∃ R':World→Prop,R' w∧(b=true∨R'=R)∧K R' a w
def wpAnyR (bar:Nat→Bool) (P:Program) (md:Region.Mode) (ops:Array Oper) (Q:Exit→Act→World→Prop):Nat→Array Bool→(World→Prop)→Act→World→Prop
 | 0,listed,_,a,w=>Region.ready md ops listed=[]∧Q .normal a w
 | fuel+1,listed,R,a,w=>(Region.ready md ops listed=[]→Q .normal a w) ∧
   ∀ i ∈ Region.ready md ops listed,wpOp P ops Q i (Into (bar i) R (fun R' a' w'=>wpAnyR bar P md ops Q fuel (listed.setIfInBounds i true) R' a' w')) a w
theorem wpAny_of_R {bar:Nat→Bool}:∀ (fuel:Nat) (listed:Array Bool) (R:World→Prop) (a:Act) (w:World),wpAnyR bar P md ops Q fuel listed R a w→wpAny P md ops Q fuel listed a w
 | 0,_,_,_,_,h=>h
 | fuel+1,_,_,_,_,h=>⟨h.1,fun i hi=>wpOp_mono (fun a' w' ⟨R',_,_,h3⟩=>wpAny_of_R fuel _ R' a' w' h3) (h.2 i hi)⟩
theorem wpAnyR_first {bar:Nat→Bool} {i:Nat} {oi:Oper} {v:Value} (hi:ops[i]?=some oi) (hsel:∀ (j:Nat) (o:Oper) cs b,ops[j]?=some o→o.op≠.select cs b)
  (hQ:∀ c a w,Q (.panic c) (a.put oi.dst v) w→Q (.panic c) a w) :
  ∀ (fuel:Nat) (listed:Array Bool) (R:World→Prop) (a:Act) (w:World),
   (∀ j oj,ops[j]?=some oj→j≠i→listed.getD j true=false→(∀ e ∈ oj.after,Region.binds md e=true→e.on≠i)→oi.apart ops oj=true) →
   (∀ j,listed.getD j true=false→j≠i→bar j=true→i ∈ anc md ops 8 (onsOf md ops j))→Closed md ops listed→i ∈ Region.ready md ops listed→R w→YieldsIf P ops R oi v a →
   wpAnyR bar P md ops Q fuel (listed.setIfInBounds i true) R (a.put oi.dst v) w→wpAnyR bar P md ops Q (fuel+1) listed R a w:=by
 intro fuel;induction fuel with
 | zero =>
  intro listed R a w _ _ _ hr hR hy H;refine ⟨fun h=>(by rw [h] at hr;cases hr),fun j hj=>?_⟩;by_cases hji:j=i
  ·
   subst hji;exact hy.wpOp hi hR ⟨R,hR,.inr rfl,H⟩
  ·
   have:=ready_mono hj hji;rw [H.1] at this;cases this
 | succ fuel ih =>
  intro listed R a w hfree hbar hcl hr hR hy H;refine ⟨fun h=>(by rw [h] at hr;cases hr),fun j hj=>?_⟩;by_cases hji:j=i
  ·
   subst hji;exact hy.wpOp hi hR ⟨R,hR,.inr rfl,H⟩
  ·
   have h1:=H.2 j (ready_mono hj hji);obtain ⟨hjun,oj,hoj,hall⟩:=mem_ready.1 hj;have hnot:∀ e ∈ oj.after,Region.binds md e=true→e.on≠i:=fun e he hb heq=>by
    have h1:=hall e he hb;have h0:=(mem_ready.1 hr).1;rw [heq] at h1;rcases Nat.lt_or_ge i listed.size with h' | h'
    ·
     simp [h'] at h0 h1;rw [h0] at h1;cases h1
    ·
     simp [Array.getElem?_eq_none h'] at h1
   have hb:bar j=false:=bar_not hcl hj hr (hbar j hjun hji);have h2:=wpOp_putIf hoj (hfree j oj hoj hji hjun hnot) (fun cs b=>hsel i oi cs b hi) (fun cs b=>hsel j oj cs b hoj) hQ hy h1;have hfree':∀ k ok,ops[k]?=some ok→k≠i→(listed.setIfInBounds j true).getD k true=false →
     (∀ e ∈ ok.after,Region.binds md e=true→e.on≠i)→oi.apart ops ok=true:=fun k ok hk hki hun hno=>by
    refine hfree k ok hk hki ?_ hno;by_cases hjk:j=k
    ·
     subst hjk;exact hjun
    ·
     rw [getD_set_ne true hjk] at hun;exact hun
   have hbar':∀ k,(listed.setIfInBounds j true).getD k true=false→k≠i→bar k=true→i ∈ anc md ops 8 (onsOf md ops k):=fun k hun hki hbk=>by
    refine hbar k ?_ hki hbk;by_cases hjk:j=k
    ·
     subst hjk;exact hjun
    ·
     rw [getD_set_ne true hjk] at hun;exact hun
   refine wpOp_mono (fun a' w' ⟨hy',R',hR',hor,hK⟩=>?_) h2;obtain rfl:R'=R:=hor.resolve_left (by simp [hb]);refine ⟨R',hR',.inr rfl,ih (listed.setIfInBounds j true) R' a' w' hfree' hbar' (hcl.set hj) (ready_mono hr (Ne.symm hji)) hR' hy' ?_⟩;rw [Array.setIfInBounds_comm _ _ hji];exact hK
def wpCan (P:Program) (ops:Array Oper) (Q:Exit→Act→World→Prop):List (Oper × Nat)→(World→Prop)→Act→World→Prop
 | [],_,a,w=>Q .normal a w
 | (o,0)::r,R,a,w =>
  if Region.wanted o (yielded ops a.tmps) then ∃ v,(∀ x,R x→(execOp a.eval o).run P x=.ok (.value v) x)∧wpCan P ops Q r R (a.put o.dst v) w
  else wpCan P ops Q r R (a.put o.dst undef) w
 | (o,1)::r,R,a,w =>
  if Region.wanted o (yielded ops a.tmps) then o.wp P a w (fun a' w'=>R w'∧wpCan P ops Q r R a' w') Q
  else wpCan P ops Q r R (a.put o.dst undef) w
 | (o,2)::_,_,a,w =>
  if Region.wanted o (yielded ops a.tmps) then o.wp P a w (Q .normal) Q else Q .normal (a.put o.dst undef) w
 | (o,_+3)::r,R,a,w =>
  if Region.wanted o (yielded ops a.tmps) then o.wp P a w (fun a' w'=>∃ R':World→Prop,R' w'∧wpCan P ops Q r R' a' w') Q
  else wpCan P ops Q r R (a.put o.dst undef) w
def canB (bar:Nat→Bool) (md:Region.Mode) (ops:Array Oper):List (Nat × Nat)→Array Bool→Bool
 | [],listed=>(Region.ready md ops listed).isEmpty
 | (k,0)::r,listed=>(Region.ready md ops listed).contains k && Region.free md ops listed k && ((List.range ops.size).all fun j=>listed.getD j true || j == k || !bar j || (anc md ops 8 (onsOf md ops j)).contains k) &&
   canB bar md ops r (listed.setIfInBounds k true)
 | (k,1)::r,listed=>Region.ready md ops listed == [k] && !bar k && canB bar md ops r (listed.setIfInBounds k true)
 | (k,2)::r,listed=>Region.ready md ops listed == [k] && bar k && r.isEmpty && (Region.ready md ops (listed.setIfInBounds k true)).isEmpty
 | (k,_+3)::r,listed=>Region.ready md ops listed == [k] && bar k && canB bar md ops r (listed.setIfInBounds k true)
theorem bar_spec {bar:Nat→Bool} {listed:Array Bool} {k:Nat} (h:((List.range ops.size).all fun j=>listed.getD j true || j == k || !bar j || (anc md ops 8 (onsOf md ops j)).contains k)=true) (hsz:listed.size≤ops.size) :
  ∀ j,listed.getD j true=false→j≠k→bar j=true→k ∈ anc md ops 8 (onsOf md ops j):=by
 intro j h1 h2 h3;have hj:j<ops.size:=by
  rcases Nat.lt_or_ge j listed.size with h' | h'
  ·
   omega
  ·
   simp [Array.getElem?_eq_none h'] at h1
 have:=List.all_eq_true.1 h j (List.mem_range.2 hj);rw [h1,h3] at this;simpa [h2] using this
def pick (l:List Oper):List (Nat × Nat)→List (Oper × Nat)
 | []=>[]
 | (k,e)::r=>match l[k]? with | some o=>(o,e)::pick l r | none=>[]
theorem wpAnyR_can {bar:Nat→Bool} (hs:Region.noSelect ops=true) (hQ:∀ c a d v w,Q (.panic c) (Act.put a d v) w→Q (.panic c) a w):∀ (r:List (Nat × Nat)) (listed:Array Bool) (R:World→Prop) (a:Act) (w:World),
  listed.size=ops.size→Closed md ops listed→canB bar md ops r listed=true→r.all (fun p=>decide (p.1<ops.size))=true→R w→wpCan P ops Q (pick ops.toList r) R a w→wpAnyR bar P md ops Q r.length listed R a w
 | [],_,_,_,_,_,_,hB,_,_,h=>⟨by simpa [canB] using hB,h⟩
 | (k,0)::r,listed,R,a,w,hsz,hcl,hB,hl,hR,h=>by
  simp only [canB,Bool.and_eq_true] at hB;obtain ⟨⟨⟨hr,hf⟩,hbar⟩,hB'⟩:=hB;simp only [List.all_cons,Bool.and_eq_true,decide_eq_true_eq] at hl;obtain ⟨hk,hl'⟩:=hl;have h0:ops[k]?=some ops[k]:=Array.getElem?_eq_getElem hk;have h0':ops.toList[k]?=some ops[k]:=by simp [hk]
  have hsz':(listed.setIfInBounds k true).size=ops.size:=by simpa using hsz
  have hcl':=hcl.set (i:=k) (by simpa using hr);have hbs:=bar_spec hbar (Nat.le_of_eq hsz);simp only [pick,h0',wpCan] at h;by_cases hw:Region.wanted ops[k] (yielded ops a.tmps)=true
  ·
   simp only [hw,if_true] at h;obtain ⟨v,hv,hK⟩:=h;exact wpAnyR_first h0 (Region.noSelect_spec hs) (fun c a w=>hQ c a _ _ w) r.length listed R a w (Region.free_spec h0 hf) hbs hcl (by simpa using hr) hR (.inl ⟨hw,hv⟩) (wpAnyR_can hs hQ r _ R _ w hsz' hcl' hB' hl' hR hK)
  ·
   simp only [hw] at h;exact wpAnyR_first h0 (Region.noSelect_spec hs) (fun c a w=>hQ c a _ _ w) r.length listed R a w (Region.free_spec h0 hf) hbs hcl (by simpa using hr) hR (.inr ⟨by simpa using hw,rfl⟩) (wpAnyR_can hs hQ r _ R _ w hsz' hcl' hB' hl' hR h)
 | (k,1)::r,listed,R,a,w,hsz,hcl,hB,hl,hR,h=>by
  simp only [canB,Bool.and_eq_true,beq_iff_eq,Bool.not_eq_true'] at hB;obtain ⟨⟨hr,hbk⟩,hB'⟩:=hB;simp only [List.all_cons,Bool.and_eq_true,decide_eq_true_eq] at hl;obtain ⟨hk,hl'⟩:=hl;have h0:ops[k]?=some ops[k]:=Array.getElem?_eq_getElem hk;have h0':ops.toList[k]?=some ops[k]:=by simp [hk]
  have hsz':(listed.setIfInBounds k true).size=ops.size:=by simpa using hsz
  simp only [pick,h0',wpCan] at h;have hcl':=hcl.set (i:=k) (by rw [hr];simp);refine ⟨fun h=>(by rw [hr] at h;cases h),fun j hj=>?_⟩;rw [hr] at hj;obtain rfl:j=k:=by simpa using hj
  unfold wpOp;simp only [h0];by_cases hw:Region.wanted ops[j] (yielded ops a.tmps)=true
  ·
   simp only [hw,if_true] at h ⊢;exact .inl (Oper.wp_mono (fun a' w' ⟨g1,g2⟩=>⟨R,g1,.inr rfl,wpAnyR_can hs hQ r _ R a' w' hsz' hcl' hB' hl' g1 g2⟩) h)
  ·
   simp only [hw] at h ⊢;exact ⟨R,hR,.inr rfl,wpAnyR_can hs hQ r _ R _ w hsz' hcl' hB' hl' hR h⟩
 | (k,2)::r,listed,R,a,w,_,hcl,hB,hl,hR,h=>by
  simp only [canB,Bool.and_eq_true,beq_iff_eq] at hB;obtain ⟨⟨⟨hr,hbar⟩,hnil⟩,hend⟩:=hB;simp only [List.all_cons,Bool.and_eq_true,decide_eq_true_eq] at hl;obtain ⟨hk,hl'⟩:=hl;have h0:ops[k]?=some ops[k]:=Array.getElem?_eq_getElem hk;have h0':ops.toList[k]?=some ops[k]:=by simp [hk]
  simp only [pick,h0',wpCan] at h;obtain rfl:r=[]:=by simpa using hnil
  refine ⟨fun h=>(by rw [hr] at h;cases h),fun j hj=>?_⟩;rw [hr] at hj;obtain rfl:j=k:=by simpa using hj
  unfold wpOp;simp only [h0];have hend':Region.ready md ops (listed.setIfInBounds j true)=[]:=by simpa using hend
  by_cases hw:Region.wanted ops[j] (yielded ops a.tmps)=true
  ·
   simp only [hw,if_true] at h ⊢;exact .inl (Oper.wp_mono (fun a' w' g=>⟨fun x=>x=w',rfl,.inl hbar,hend',g⟩) h)
  ·
   simp only [hw] at h ⊢;exact ⟨R,hR,.inl hbar,hend',h⟩
 | (k,n+3)::r,listed,R,a,w,hsz,hcl,hB,hl,hR,h=>by
  simp only [canB,Bool.and_eq_true,beq_iff_eq] at hB;obtain ⟨⟨hr,hbar⟩,hB'⟩:=hB;simp only [List.all_cons,Bool.and_eq_true,decide_eq_true_eq] at hl;obtain ⟨hk,hl'⟩:=hl;have h0:ops[k]?=some ops[k]:=Array.getElem?_eq_getElem hk;have h0':ops.toList[k]?=some ops[k]:=by simp [hk]
  have hsz':(listed.setIfInBounds k true).size=ops.size:=by simpa using hsz
  simp only [pick,h0',wpCan] at h;have hcl':=hcl.set (i:=k) (by rw [hr];simp);refine ⟨fun h=>(by rw [hr] at h;cases h),fun j hj=>?_⟩;rw [hr] at hj;obtain rfl:j=k:=by simpa using hj
  unfold wpOp;simp only [h0];by_cases hw:Region.wanted ops[j] (yielded ops a.tmps)=true
  ·
   simp only [hw,if_true] at h ⊢;exact .inl (Oper.wp_mono (fun a' w' ⟨R',g1,g2⟩=>⟨R',g1,.inl hbar,wpAnyR_can hs hQ r _ R' a' w' hsz' hcl' hB' hl' g1 g2⟩) h)
  ·
   simp only [hw] at h ⊢;exact ⟨R,hR,.inr rfl,wpAnyR_can hs hQ r _ R _ w hsz' hcl' hB' hl' hR h⟩
def barOf (σ:List (Nat × Nat)) (j:Nat):Bool:=σ.any fun p=>p.1 == j && decide (2≤p.2)
theorem wp_region_can (R:World→Prop) (σ:List (Nat × Nat)) {id:Nat} {a:Act} {w:World} {l:List Oper} (hm:P.follows .mixedOrders=true)
  (hB:(Region.noSelect l.toArray && canB (barOf σ) .any l.toArray σ (Array.replicate l.length false) && σ.all (fun p=>decide (p.1<l.length)) && (σ.length == l.length))=true)
  (hQ:∀ c a d v w,Q (.panic c) (Act.put a d v) w→Q (.panic c) a w)
  (hR:R { w with drawn:=w.drawn+1 })
  (h:wpCan P l.toArray Q (pick l σ) R a { w with drawn:=w.drawn+1 }):(Code.region id l.toArray true).wp P Q a w:=by
 simp only [Bool.and_eq_true,beq_iff_eq] at hB;obtain ⟨⟨⟨h1,h2⟩,h3⟩,h4⟩:=hB;refine wp_region_any hm (wpAny_of_R (bar:=barOf σ) _ _ R _ _ ?_);have:=wpAnyR_can (bar:=barOf σ) (ops:=l.toArray) (md:=.any) (Q:=Q) h1 hQ σ (Array.replicate l.length false) R a _ (by simp) (Closed.none _) h2 (by simpa using h3) hR (by simpa using h);simpa [h4] using this
theorem can_reads {R:World→Prop} {a:Act} {w:World} {o:Oper} {r:List (Oper × Nat)}
  (h:∀ K:Act→Prop,(∀ a,wpCan P ops Q r R a w→K a)→if Region.wanted o (yielded ops a.tmps) then ∃ v,(∀ x,R x→(execOp a.eval o).run P x=.ok (.value v) x)∧K (a.put o.dst v) else K (a.put o.dst undef)) :
  wpCan P ops Q ((o,0)::r) R a w:=h _ (fun _ h=>h)
theorem can_turns {R:World→Prop} {a:Act} {w:World} {o:Oper} {r:List (Oper × Nat)}
  (h:∀ (K:Act→World→Prop) (K0:Act→Prop),(∀ a w,R w→wpCan P ops Q r R a w→K a w)→(∀ a,wpCan P ops Q r R a w→K0 a) →
   if Region.wanted o (yielded ops a.tmps) then o.wp P a w K Q else K0 (a.put o.dst undef)) :
  wpCan P ops Q ((o,1)::r) R a w:=h _ _ (fun _ _ h1 h2=>⟨h1,h2⟩) (fun _ h=>h)
theorem can_last {R:World→Prop} {a:Act} {w:World} {o:Oper} {r:List (Oper × Nat)}
  (h:∀ K:Act→World→Prop,(∀ a w,Q .normal a w→K a w)→if Region.wanted o (yielded ops a.tmps) then o.wp P a w K Q else K (a.put o.dst undef) w) :
  wpCan P ops Q ((o,2)::r) R a w:=h _ (fun _ _ h=>h)
theorem can_frees {R:World→Prop} {a:Act} {w:World} {o:Oper} {r:List (Oper × Nat)}
  (h:∀ (K:Act→World→Prop) (K0:Act→Prop),(∀ a w,wpCan P ops Q r (fun x=>x=w) a w→K a w)→(∀ a,wpCan P ops Q r R a w→K0 a) →
   if Region.wanted o (yielded ops a.tmps) then o.wp P a w K Q else K0 (a.put o.dst undef)) :
  wpCan P ops Q ((o,3)::r) R a w:=h _ _ (fun _ w h=>⟨fun x=>x=w,rfl,h⟩) (fun _ h=>h)
theorem can_nil {R:World→Prop} {a:Act} {w:World} (h:Q .normal a w):wpCan P ops Q [] R a w:=h
end
end Go.Proofs.YtbckjgageofldaaGreat.RegR
namespace Go.Proofs.YtbckjgageofldaaGreat
open Go.RowKit
def slt (a b:ByteArray):Bool:=Op.bytesLess a.toList b.toList
theorem bl_irrefl:∀ l:List UInt8,Op.bytesLess l l=false
 | []=>rfl
 | a::l=>by simp [Op.bytesLess,bl_irrefl l]
theorem bl_trans:∀ {a b c:List UInt8},Op.bytesLess a b=true→Op.bytesLess b c=true→Op.bytesLess a c=true
 | [],[],_,h,_=>by simp [Op.bytesLess] at h
 | [],_::_,[],_,h=>by simp [Op.bytesLess] at h
 | [],_::_,_::_,_,_=>rfl
 | _::_,[],_,h,_=>by simp [Op.bytesLess] at h
 | _::_,_::_,[],_,h=>by simp [Op.bytesLess] at h
 | a::x,b::y,c::z,h1,h2=>by
  simp only [Op.bytesLess,Bool.or_eq_true,decide_eq_true_eq,Bool.and_eq_true,beq_iff_eq] at h1 h2 ⊢;rcases h1 with h1 | ⟨rfl,h1⟩
  ·
   rcases h2 with h2 | ⟨rfl,h2⟩
   ·
    exact .inl (UInt8.lt_trans h1 h2)
   ·
    exact .inl h1
  ·
   rcases h2 with h2 | ⟨rfl,h2⟩
   ·
    exact .inl h2
   ·
    exact .inr ⟨rfl,bl_trans h1 h2⟩
theorem bl_total:∀ {a b:List UInt8},Op.bytesLess a b=false→Op.bytesLess b a=false→a=b
 | [],[],_,_=>rfl
 | [],_::_,h,_=>by simp [Op.bytesLess] at h
 | _::_,[],_,h=>by simp [Op.bytesLess] at h
 | a::x,b::y,h1,h2=>by
  simp only [Op.bytesLess,Bool.or_eq_false_iff,decide_eq_false_iff_not,Bool.and_eq_false_iff,beq_eq_false_iff_ne] at h1 h2;have e:a=b:=UInt8.le_antisymm (UInt8.not_lt.1 h2.1) (UInt8.not_lt.1 h1.1);subst e;rcases h1.2 with h | h
  ·
   exact absurd rfl h
  rcases h2.2 with h' | h'
  ·
   exact absurd rfl h'
  rw [bl_total h h']
theorem slt_irrefl (a:ByteArray):slt a a=false:=bl_irrefl _
theorem slt_trans {a b c:ByteArray} (h:slt a b=true) (k:slt b c=true):slt a c=true:=bl_trans h k
theorem slt_total {a b:ByteArray} (h:slt a b=false) (k:slt b a=false):a=b:=by
 have e:=bl_total h k;rw [ByteArray.toList_eq,ByteArray.toList_eq] at e;cases a;cases b
 simpa using e
theorem slt_asymm {a b:ByteArray} (h:slt a b=true):slt b a=false:=by
 rw [Bool.eq_false_iff];intro k;have:=slt_trans h k;rw [slt_irrefl] at this;cases this
theorem slt_ne {a b:ByteArray} (h:slt a b=true):a≠b:=fun e=>by rw [e,slt_irrefl] at h;cases h
theorem txt_ne {a b:ByteArray} (h:a≠b):(a.toList == b.toList)=false:=by
 rw [← Bool.not_eq_true,beq_iff_eq,ByteArray.toList_eq,ByteArray.toList_eq];intro e;apply h
 cases a;cases b
 simpa using e
inductive Tr where
 | nil:Tr
 | node (b:Nat) (k v:ByteArray) (wt:BitVec 64) (l r:Tr):Tr
def Tr.ptr:Tr→Option Addr
 | .nil=>none
 | .node b _ _ _ _ _=>some ⟨b,0,none⟩
def Tr.cnt:Tr→Nat
 | .nil=>0
 | .node _ _ _ _ l r=>l.cnt+1+r.cnt
def Tr.dep:Tr→Nat
 | .nil=>0
 | .node _ _ _ _ l r=>1+max l.dep r.dep
theorem Tr.dep_cnt:∀ T:Tr,T.dep≤T.cnt
 | .nil=>Nat.le_refl _
 | .node _ _ _ _ l r=>by
  have:=l.dep_cnt;have:=r.dep_cnt;simp only [Tr.dep,Tr.cnt];omega
def nodeCells (k v:ByteArray) (wt:BitVec 64) (pl pr:Option Addr) (c d:Nat):Array Value:=#[.string k,.string v,.int .u64 (wt.toNat:Int),.pointer pl,.pointer pr,.int .i64 (c:Int),.int .i64 (d:Int)]
def NodeAt (w:World) (b:Nat) (k v:ByteArray) (wt:BitVec 64) (pl pr:Option Addr) (c d:Nat):Prop:=w.heap[b]?=some (.cells (nodeCells k v wt pl pr c d) 195 (0,0))
def TreeAt (w:World):Tr→Prop
 | .nil=>True
 | .node b k v wt l r=>NodeAt w b k v wt l.ptr r.ptr (l.cnt+1+r.cnt) (1+max l.dep r.dep)∧TreeAt w l∧TreeAt w r
section
variable {w w' : World} {b : Nat} {k v : ByteArray} {wt : BitVec 64} {pl pr : Option Addr} {c d : Nat}
theorem NodeAt.lt (h:NodeAt w b k v wt pl pr c d):b<w.heap.size:=(Array.getElem?_eq_some_iff.1 h).1
theorem NodeAt.below (h:NodeAt w b k v wt pl pr c d) (hb:Below w.heap.size w w'):NodeAt w' b k v wt pl pr c d:=(hb.block b h.lt).trans h
theorem NodeAt.cells (h:NodeAt w b k v wt pl pr c d):w.cell? ⟨b,0,none⟩=some (.string k)∧w.cell? ⟨b,1,none⟩=some (.string v)∧w.cell? ⟨b,2,none⟩=some (.int .u64 (wt.toNat:Int)) ∧
  w.cell? ⟨b,3,none⟩=some (.pointer pl)∧w.cell? ⟨b,4,none⟩=some (.pointer pr)∧w.cell? ⟨b,5,none⟩=some (.int .i64 (c:Int))∧w.cell? ⟨b,6,none⟩=some (.int .i64 (d:Int)) :=
 ⟨cell_of_row _ _ _ _ _ _ h,cell_of_row _ _ _ _ _ _ h,cell_of_row _ _ _ _ _ _ h,cell_of_row _ _ _ _ _ _ h,cell_of_row _ _ _ _ _ _ h,cell_of_row _ _ _ _ _ _ h,cell_of_row _ _ _ _ _ _ h⟩
theorem NodeAt.thawed (h:NodeAt w b k v wt pl pr c d) (j:Nat):w.frozen? ⟨b,j,none⟩=false:=by
 unfold NodeAt at h;simp [World.frozen?,h]
end
theorem TreeAt.below {w w':World}:∀ {T:Tr},TreeAt w T→Below w.heap.size w w'→TreeAt w' T
 | .nil,_,_=>trivial
 | .node _ _ _ _ _ _,⟨h1,h2,h3⟩,hb=>⟨h1.below hb,TreeAt.below h2 hb,TreeAt.below h3 hb⟩
theorem TreeAt.drew {w:World}:∀ {T:Tr},TreeAt w T→TreeAt w.drew T:=fun h=>h.below ⟨rfl,rfl,rfl,Nat.le_refl _,fun _ _=>rfl⟩
theorem TreeAt.uniq {w:World}:∀ {T U:Tr},TreeAt w T→TreeAt w U→T.ptr=U.ptr→T=U
 | .nil,.nil,_,_,_=>rfl
 | .nil,.node _ _ _ _ _ _,_,_,h=>by simp [Tr.ptr] at h
 | .node _ _ _ _ _ _,.nil,_,_,h=>by simp [Tr.ptr] at h
 | .node b k v wt l r,.node b' k' v' wt' l' r',⟨h1,h2,h3⟩,⟨g1,g2,g3⟩,h=>by
  simp only [Tr.ptr,Option.some.injEq,Addr.mk.injEq,and_true] at h;subst h;unfold NodeAt at h1 g1;rw [h1] at g1;simp only [nodeCells,Option.some.injEq,Obj.cells.injEq,Array.mk.injEq,List.cons.injEq,Value.string.injEq,Value.int.injEq,Value.pointer.injEq,and_true,true_and] at g1;obtain ⟨rfl,rfl,e3,e4,e5,_⟩:=g1;have e3':wt=wt':=BitVec.eq_of_toNat_eq (by omega);rw [e3',TreeAt.uniq h2 g2 e4,TreeAt.uniq h3 g3 e5]
def Tr.Lo (n:Nat):Tr→Prop
 | .nil=>True
 | .node b _ _ _ l r=>b<n∧l.Lo n∧r.Lo n
theorem TreeAt.lo {w:World}:∀ {T:Tr},TreeAt w T→T.Lo w.heap.size
 | .nil,_=>trivial
 | .node _ _ _ _ _ _,⟨h1,h2,h3⟩=>⟨h1.lt,h2.lo,h3.lo⟩
def Tr.find (key:ByteArray):Tr→Tr
 | .nil=>.nil
 | .node b k v wt l r=>if k=key then .node b k v wt l r else if slt key k then l.find key else r.find key
inductive Sub:Tr→Tr→Prop
 | refl (T:Tr):Sub T T
 | left {S:Tr} {b:Nat} {k v:ByteArray} {wt:BitVec 64} {l r:Tr}:Sub S l→Sub S (.node b k v wt l r)
 | right {S:Tr} {b:Nat} {k v:ByteArray} {wt:BitVec 64} {l r:Tr}:Sub S r→Sub S (.node b k v wt l r)
theorem Sub.cnt {S T:Tr} (h:Sub S T):S.cnt≤T.cnt:=by
 induction h with
 | refl=>exact Nat.le_refl _
 | left _ ih=>simp only [Tr.cnt];omega
 | right _ ih=>simp only [Tr.cnt];omega
theorem Sub.at {w:World} {S T:Tr} (h:Sub S T):TreeAt w T→TreeAt w S:=by
 induction h with
 | refl=>exact id
 | left _ ih=>exact fun h=>ih h.2.1
 | right _ ih=>exact fun h=>ih h.2.2
theorem Sub.trans {A B C:Tr} (h:Sub A B) (k:Sub B C):Sub A C:=by
 induction k with
 | refl=>exact h
 | left _ ih=>exact .left ih
 | right _ ih=>exact .right ih
theorem Tr.find_sub (key:ByteArray):∀ T:Tr,T.find key=.nil∨Sub (T.find key) T
 | .nil=>.inl rfl
 | .node b k v wt l r=>by
  unfold Tr.find;split
  ·
   exact .inr (.refl _)
  split
  ·
   rcases l.find_sub key with h | h
   ·
    exact .inl h
   ·
    exact .inr (.left h)
  ·
   rcases r.find_sub key with h | h
   ·
    exact .inl h
   ·
    exact .inr (.right h)
theorem find_at {w:World} {T:Tr} (h:TreeAt w T) (key:ByteArray):TreeAt w (T.find key):=by
 rcases T.find_sub key with e | e
 ·
  rw [e];trivial
 ·
  exact e.at h
def Tr.val:Tr→Option ByteArray
 | .nil=>none
 | .node _ _ v _ _ _=>some v
set_option maxHeartbeats 1000000 in
theorem len_any (T:Tr) (w:World) (h:TreeAt w T):Calls Tryz.prog 54 #[.pointer T.ptr] w fun e w'=>e=.returned (.int .i64 (T.cnt:Int))∧w=w':=by
 match T,h with
 | .nil,_ =>
  go_enter Tryz.func54,Tryz.ntmps54
  simp only [Tr.ptr];go_wp2_with fail;go_ret;exact ⟨rfl,rfl⟩
 | .node b k v wt l r,⟨h1,_,_⟩ =>
  obtain ⟨c0,c1,c2,c3,c4,c5,c6⟩:=h1.cells;clear c0 c1 c2 c3 c4 c6 h1;simp only [Tr.ptr,Tr.cnt];generalize l.cnt+1+r.cnt=n at *;go_enter Tryz.func54,Tryz.ntmps54
  go_wp2_with fail;go_ret;exact ⟨rfl,rfl⟩
set_option maxHeartbeats 1000000 in
theorem depth_any (T:Tr) (w:World) (h:TreeAt w T):Calls Tryz.prog 198 #[.pointer T.ptr] w fun e w'=>e=.returned (.int .i64 (T.dep:Int))∧w=w':=by
 match T,h with
 | .nil,_ =>
  go_enter Tryz.func198,Tryz.ntmps198
  simp only [Tr.ptr];go_wp2_with fail;go_ret;exact ⟨rfl,rfl⟩
 | .node b k v wt l r,⟨h1,_,_⟩ =>
  obtain ⟨c0,c1,c2,c3,c4,c5,c6⟩:=h1.cells;clear c0 c1 c2 c3 c4 c5 h1;simp only [Tr.ptr,Tr.dep];generalize 1+max l.dep r.dep=n at *;go_enter Tryz.func198,Tryz.ntmps198
  go_wp2_with fail;go_ret;exact ⟨rfl,rfl⟩
def cntOf (w:World):Value→Nat
 | .pointer (some p)=>(match w.cell? ⟨p.block,5,none⟩ with | some (.int _ c)=>c.toNat | _=>0)
 | _=>0
theorem cntOf_eq {w:World}:∀ {T:Tr},TreeAt w T→cntOf w (.pointer T.ptr)=T.cnt
 | .nil,_=>rfl
 | .node _ _ _ _ _ _,⟨h1,_,_⟩=>by
  obtain ⟨_,_,_,_,_,c5,_⟩:=h1.cells;simp only [Tr.ptr,cntOf,c5,Tr.cnt];omega
theorem cntOf_node {w:World} {b:Nat} {k v:ByteArray} {wt:BitVec 64} {l r:Tr} (h:TreeAt w (.node b k v wt l r)):cntOf w (.pointer (some ⟨b,0,none⟩))=l.cnt+1+r.cnt:=cntOf_eq h
set_option maxHeartbeats 2000000 in
theorem find_any (key:ByteArray) (T:Tr) (w:World) (h:TreeAt w T):Calls Tryz.prog 176 #[.pointer T.ptr,.string key] w fun e w'=>e=.returned (.pointer (T.find key).ptr)∧w=w':=by
 obtain ⟨R,hR⟩:∃ R,T.find key=R:=⟨_,rfl⟩;rw [hR];have H:=Lib.hid h;clear h
 have HR:=Lib.hid hR;clear hR
 go_enter Tryz.func176,Tryz.ntmps176
 go_wp2_with fail;go_loopw [0] (fun s0 wr=>w=wr∧∃ S:Tr,s0=.pointer S.ptr∧TreeAt w S∧S.find key=R∧S.cnt≤T.cnt) (fun s0 _=>cntOf w s0)
 case atStart=>exact ⟨rfl,T,rfl,H.out,HR.out,Nat.le_refl _⟩
 case round =>
  obtain ⟨rfl,S,rfl,hS,hf,hc⟩:=hrel;match S,hS,hf,hc with
  | .nil,_,hf,_ =>
   have hf':R=.nil:=hf.symm;subst hf';simp only [Tr.ptr];clear hf HR;go_wp2_with fail;go_ret;exact ⟨rfl,rfl⟩
  | .node b k v wt l r,hS,hf,hc =>
   obtain ⟨c0,c1,c2,c3,c4,c5,c6⟩:=hS.1.cells;have HS:=Lib.hid hS;clear hS
   simp only [Tr.ptr];unfold Tr.find at hf;by_cases e:k=key
   ·
    rw [if_pos e] at hf;subst e;subst hf;clear c1 c2 c3 c4 c5 c6;go_wp2_with fail;go_ret;exact ⟨by rw [← hf];rfl,rfl⟩
   ·
    have hne:=txt_ne e;rw [if_neg e] at hf;by_cases hl:slt key k=true
    ·
     rw [if_pos hl] at hf;have hl':Op.bytesLess key.toList k.toList=true:=hl;have Hf:=Lib.hid hf;clear hf
     clear hl c1 c2 c4 c6 e;go_wp2_with fail;go_roundw
     case rel=>exact ⟨trivial,l,rfl,HS.out.2.1,Hf.out,by have:=hc;simp only [Tr.cnt] at this;omega⟩
     case measure=>rw [cntOf_node HS.out,cntOf_eq HS.out.2.1];omega
    ·
     rw [if_neg hl] at hf;have hl':Op.bytesLess key.toList k.toList=false:=by simpa [slt] using hl
     have Hf:=Lib.hid hf;clear hf
     clear hl c1 c2 c3 c6 e;go_wp2_with fail;go_roundw
     case rel=>exact ⟨trivial,r,rfl,HS.out.2.2,Hf.out,by have:=hc;simp only [Tr.cnt] at this;omega⟩
     case measure=>rw [cntOf_node HS.out,cntOf_eq HS.out.2.2];omega
theorem bel_drewN (w:World) (n:Nat):Below w.heap.size w (w.drewN n):=⟨rfl,rfl,rfl,Nat.le_refl _,fun _ _=>rfl⟩
def aboveB (wt:BitVec 64) (k:ByteArray) (wt':BitVec 64) (k':ByteArray):Bool:=if wt=wt' then slt k k' else decide (wt'.toNat<wt.toNat)
set_option maxHeartbeats 2000000 in
theorem above_any {b b':Nat} {k v k' v':ByteArray} {wt wt':BitVec 64} {pl pr pl' pr':Option Addr} {c d c' d':Nat} (w:World) (h:NodeAt w b k v wt pl pr c d) (h':NodeAt w b' k' v' wt' pl' pr' c' d') :
  Calls Tryz.prog 189 #[.pointer (some ⟨b,0,none⟩),.pointer (some ⟨b',0,none⟩)] w fun e w'=>e=.returned (.bool (aboveB wt k wt' k'))∧Below w.heap.size w w':=by
 obtain ⟨c0,c1,c2,c3,c4,c5,c6⟩:=h.cells;obtain ⟨e0,e1,e2,e3,e4,e5,e6⟩:=h'.cells;clear c1 c3 c4 c5 c6 e1 e3 e4 e5 e6 h h';unfold aboveB;by_cases hw:wt=wt'
 ·
  subst hw;rw [if_pos rfl];obtain ⟨r,hr⟩:∃ r,slt k k'=r:=⟨_,rfl⟩;rw [hr];have hr':Op.bytesLess k.toList k'.toList=r:=hr;clear hr;go_enter Tryz.func189,Tryz.ntmps189
  go_wp2_with fail;go_quiet (fail)
  go_wp2_with fail;go_quiet (fail)
  go_wp2_with fail;go_ret;exact ⟨rfl,rfl,rfl,rfl,Nat.le_refl _,fun _ _=>rfl⟩
 ·
  have hw':wt.toNat≠wt'.toNat:=fun e=>hw (BitVec.eq_of_toNat_eq e)
  have hd:((wt.toNat:Int) == (wt'.toNat:Int))=false:=by simp;omega
  have hd2 : ¬ wt.toNat=wt'.toNat:=hw';rw [if_neg hw];obtain ⟨r,hr⟩:∃ r,decide (wt'.toNat<wt.toNat)=r:=⟨_,rfl⟩;rw [hr];go_enter Tryz.func189,Tryz.ntmps189
  go_wp2_with fail;go_quiet (fail)
  go_wp2_with fail;go_quiet (fail)
  go_wp2_with fail;go_ret;exact ⟨rfl,rfl,rfl,rfl,Nat.le_refl _,fun _ _=>rfl⟩
theorem TreeAt.keep {w w':World} {n:Nat}:∀ {T:Tr},TreeAt w T→T.Lo n→(∀ q,q<n→w'.heap[q]?=w.heap[q]?)→TreeAt w' T
 | .nil,_,_,_=>trivial
 | .node _ _ _ _ _ _,⟨h1,h2,h3⟩,⟨l1,l2,l3⟩,hb=>⟨(hb _ l1).trans h1,TreeAt.keep h2 l2 hb,TreeAt.keep h3 l3 hb⟩
theorem Tr.Lo.mono {n m:Nat} (hnm:n≤m):∀ {T:Tr},T.Lo n→T.Lo m
 | .nil,_=>trivial
 | .node _ _ _ _ _ _,⟨h1,h2,h3⟩=>⟨Nat.lt_of_lt_of_le h1 hnm,h2.mono hnm,h3.mono hnm⟩
theorem NodeAt.set {w:World} {b:Nat} {k v k' v':ByteArray} {wt wt':BitVec 64} {pl pr pl' pr':Option Addr} {c d c' d' i:Nat} {x:Value} (h:NodeAt w b k v wt pl pr c d)
  (hx:(nodeCells k v wt pl pr c d).setIfInBounds i x=nodeCells k' v' wt' pl' pr' c' d'):NodeAt (w.setCell ⟨b,i,none⟩ x) b k' v' wt' pl' pr' c' d':=by
 unfold NodeAt;rw [heap_setCell_same _ _ _ _ _ _ h,hx]
theorem below_set {w0 w:World} {n b i:Nat} {x:Value} (h:Below n w0 w) (hb:n≤b):Below n w0 (w.setCell ⟨b,i,none⟩ x) :=
 ⟨h.os,h.tape,h.output,by simpa [World.setCell] using h.size,fun q hq=>(Below.heap_setCell _ _ _ _ (by show q≠b;omega)).trans (h.block q hq)⟩
set_option maxHeartbeats 2000000 in
theorem with_any {b:Nat} {k v:ByteArray} {wt:BitVec 64} {pl pr:Option Addr} {c d:Nat} (L R:Tr) (w:World) (h:NodeAt w b k v wt pl pr c d) (hL:TreeAt w L) (hR:TreeAt w R) (hc:L.cnt+1+R.cnt≤4611686018427387904) :
  Calls Tryz.prog 193 #[.pointer (some ⟨b,0,none⟩),.pointer L.ptr,.pointer R.ptr] w fun e w'=>∃ b',e=.returned (.pointer (some ⟨b',0,none⟩))∧w.heap.size≤b'∧TreeAt w' (.node b' k v wt L R)∧Below w.heap.size w w':=by
 obtain ⟨c0,c1,c2,c3,c4,c5,c6⟩:=h.cells;have d1:=L.dep_cnt;have d2:=R.dep_cnt;have hw1:IntKind.i64.wrap ((L.cnt:Int)+1)=((L.cnt+1:Nat):Int):=by rw [IntKind.wrap_i64] <;> omega
 have hw2:IntKind.i64.wrap (((L.cnt+1:Nat):Int)+(R.cnt:Int))=((L.cnt+1+R.cnt:Nat):Int):=by rw [IntKind.wrap_i64] <;> omega
 obtain ⟨mx,hmx⟩:∃ mx,max L.dep R.dep=mx:=⟨_,rfl⟩;have hif:(if L.dep<R.dep then (R.dep:Int) else (L.dep:Int))=(mx:Int):=by split <;> omega
 have hw3:wrap64 (1+(mx:Int))=((1+mx:Nat):Int):=by unfold wrap64;omega
 obtain ⟨mx1,hmx1⟩:∃ m,1+mx=m:=⟨_,rfl⟩;rw [hmx1] at hw3;have Hmx:=Lib.hid (show 1+max L.dep R.dep=mx1 by rw [hmx];exact hmx1);clear hmx hmx1
 have HL:=Lib.hid hL;clear hL
 have HR:=Lib.hid hR;clear hR
 obtain ⟨m1,hm1⟩:∃ m,L.cnt+1=m:=⟨_,rfl⟩;rw [hm1] at hw1 hw2;obtain ⟨m2,hm2⟩:∃ m,m1+R.cnt=m:=⟨_,rfl⟩;rw [hm2] at hw2;have Hm1:=Lib.hid hm1;clear hm1
 have Hm2:=Lib.hid hm2;clear hm2
 clear d1 d2 hc h;go_enter Tryz.func193,Tryz.ntmps193
 go_upto_region 2 with fail;have hb1:=(Below.refl w.heap.size w).alloc (Nat.le_refl _) (.cells (nodeCells k v wt pl pr c d) 195);have hn1:NodeAt (w.alloc (.cells (nodeCells k v wt pl pr c d) 195)) w.heap.size k v wt pl pr c d:=heap_alloc_new w _;have hloL:=HL.out.lo;have hloR:=HR.out.lo;have hatL:=HL.out;have hatR:=HR.out;change Code.wp _ _ _ _ (w.alloc (.cells (nodeCells k v wt pl pr c d) 195));generalize w.alloc (.cells (nodeCells k v wt pl pr c d) 195)=w1 at *;obtain ⟨g,hg⟩:∃ g,w.heap.size=g:=⟨_,rfl⟩;rw [hg] at hb1 hn1 hloL hloR ⊢;have Hg:=Lib.hid hg;clear hg c0 c1 c2 c3 c4 c5 c6
 obtain ⟨c0,c1,c2,c3,c4,c5,c6⟩:=hn1.cells;have z3:=hn1.thawed 3;have z4:=hn1.thawed 4;have hn2:NodeAt ((w1.setCell ⟨g,3,none⟩ (.pointer L.ptr)).setCell ⟨g,4,none⟩ (.pointer R.ptr)) g k v wt L.ptr R.ptr c d:=(hn1.set rfl).set rfl;have hb2:Below g w ((w1.setCell ⟨g,3,none⟩ (.pointer L.ptr)).setCell ⟨g,4,none⟩ (.pointer R.ptr)):=below_set (below_set hb1 (Nat.le_refl _)) (Nat.le_refl _);have Hn2:=Lib.hid hn2;clear hn2
 have Hb2:=Lib.hid hb2;clear hb2
 have HloL:=Lib.hid hloL;clear hloL
 have HloR:=Lib.hid hloR;clear hloR
 clear hb1 hn1 HL HR;have HatL:=Lib.hid hatL;clear hatL
 have HatR:=Lib.hid hatR;clear hatR
 go_upto_region 3 with fail;generalize (w1.setCell ⟨g,3,none⟩ (.pointer L.ptr)).setCell ⟨g,4,none⟩ (.pointer R.ptr)=w2 at *;clear c0 c1 c2 c3 c4 c5 c6 z3 z4;obtain ⟨c0,c1,c2,c3,c4,c5,c6⟩:=Hn2.out.cells;have z5:=Hn2.out.thawed 5;have hL2:TreeAt w2 L:=HatL.out.keep HloL.out Hb2.out.block;have hR2:TreeAt w2 R:=HatR.out.keep HloR.out Hb2.out.block;have hn3:NodeAt (w2.setCell ⟨g,5,none⟩ (.int .i64 (m2:Int))) g k v wt L.ptr R.ptr m2 d:=Hn2.out.set rfl;have hb3:Below g w (w2.setCell ⟨g,5,none⟩ (.int .i64 (m2:Int))):=below_set Hb2.out (Nat.le_refl _);have Hn3:=Lib.hid hn3;clear hn3
 have Hb3:=Lib.hid hb3;clear hb3
 have HL2:=Lib.hid hL2;clear hL2
 have HR2:=Lib.hid hR2;clear hR2
 go_upto_region 4 with (first
  | ((with_reducible refine (len_any L _ HL2.out).mono ?_);rintro e w' ⟨rfl,rfl⟩)
  | ((with_reducible refine (len_any R _ HR2.out).mono ?_);rintro e w' ⟨rfl,rfl⟩))
 generalize w2.setCell ⟨g,5,none⟩ (.int .i64 (m2:Int))=w3 at *
 clear c0 c1 c2 c3 c4 c5 c6 z5 HL2 HR2 Hn2 Hb2;obtain ⟨c0,c1,c2,c3,c4,c5,c6⟩:=Hn3.out.cells;have z6:=Hn3.out.thawed 6;have hL3:TreeAt w3 L:=HatL.out.keep HloL.out Hb3.out.block;have hR3:TreeAt w3 R:=HatR.out.keep HloR.out Hb3.out.block;have hn4:NodeAt (w3.setCell ⟨g,6,none⟩ (.int .i64 (mx1:Int))) g k v wt L.ptr R.ptr m2 mx1:=Hn3.out.set rfl;have hb4:Below g w (w3.setCell ⟨g,6,none⟩ (.int .i64 (mx1:Int))):=below_set Hb3.out (Nat.le_refl _);have Hn4:=Lib.hid hn4;clear hn4
 have Hb4:=Lib.hid hb4;clear hb4
 have HL3:=Lib.hid hL3;clear hL3
 have HR3:=Lib.hid hR3;clear hR3
 go_upto_region 5 with (first
  | ((with_reducible refine (depth_any L _ HL3.out).mono ?_);rintro e w' ⟨rfl,rfl⟩)
  | ((with_reducible refine (depth_any R _ HR3.out).mono ?_);rintro e w' ⟨rfl,rfl⟩))
 go_wp2_with fail;go_ret;refine ⟨g,rfl,by have:=Hg.out;omega,⟨?_,HatL.out.keep HloL.out Hb4.out.block,HatR.out.keep HloR.out Hb4.out.block⟩,by have:=Hb4.out;rw [← Hg.out] at this ⊢; exact this⟩;have:=Hn4.out;rw [show L.cnt+1+R.cnt=m2 by have:=Hm1.out;have:=Hm2.out;omega,Hmx.out];exact this
theorem infoTree:∃ j,Tryz.prog.info? 195=some j∧j.size≠0:=by
 have h:(Tryz.prog.info? 195).map (·.size)=some 7:=by kernel_rfl
 cases hj:Tryz.prog.info? 195 with
 | none=>rw [hj] at h;cases h
 | some j=>rw [hj] at h;simp only [Option.map_some,Option.some.injEq] at h;exact ⟨j,rfl,by omega⟩
theorem run_eql_nil_ptr {P:Program} (w:World) {tp te:TypeId} (b:Option Addr) (hp:P.underlying tp=some (.pointer te)) :
  (binOp .eql tp (.pointer none) (.pointer b)).run P w=.ok (.bool b.isNone) w:=by
 have h:∀ d:Nat,(Op.equalIn (d+1) tp (.pointer none) (.pointer b)).run P w=.ok b.isNone w:=fun d=>by
  cases b <;> simp [Op.equalIn,run_underlying hp]
 have h2:(Op.equal tp (.pointer none) (.pointer b)).run P w=.ok b.isNone w:=h 9999;simp only [binOp];simp only [Sem.run_bind,h2,Result.andThen_ok,Sem.run_pure]
theorem run_eql_ptr_nil {P:Program} (w:World) {tp te:TypeId} (b:Option Addr) (hp:P.underlying tp=some (.pointer te)) :
  (binOp .eql tp (.pointer b) (.pointer none)).run P w=.ok (.bool b.isNone) w:=by
 have h:∀ d:Nat,(Op.equalIn (d+1) tp (.pointer b) (.pointer none)).run P w=.ok b.isNone w:=fun d=>by
  cases b <;> simp [Op.equalIn,run_underlying hp]
 have h2:(Op.equal tp (.pointer b) (.pointer none)).run P w=.ok b.isNone w:=h 9999;simp only [binOp];simp only [Sem.run_bind,h2,Result.andThen_ok,Sem.run_pure]
theorem tr_same {S T:Tr} {w:World} (e:S.ptr=T.ptr):(binOp .eql 32 (.pointer S.ptr) (.pointer T.ptr)).run Tryz.prog w=.ok (.bool true) w:=by
 obtain ⟨j,hj,hz⟩:=infoTree;have hu:Tryz.prog.underlying 32=some (.pointer 195):=Tryz.underlying32;rw [← e];cases hp:S.ptr with
 | none=>exact run_eql_nil_ptr w none hu
 | some a=>exact run_eql_ptr_same w a hu hj
theorem tr_other {S T:Tr} {w:World} (hS:TreeAt w S) (hT:TreeAt w T) (e:S.ptr≠T.ptr):(binOp .eql 32 (.pointer S.ptr) (.pointer T.ptr)).run Tryz.prog w=.ok (.bool false) w:=by
 obtain ⟨j,hj,hz⟩:=infoTree;have hu:Tryz.prog.underlying 32=some (.pointer 195):=Tryz.underlying32;match S,T,hS,hT with
 | .nil,.nil,_,_=>exact absurd rfl e
 | .node b k v wt l r,.nil,_,_=>exact run_eql_ptr_nil w (some ⟨b,0,none⟩) hu
 | .nil,.node b k v wt l r,_,_=>exact run_eql_nil_ptr w (some ⟨b,0,none⟩) hu
 | .node b k v wt l r,.node b' k' v' wt' l' r',⟨h1,_,_⟩,⟨h2,_,_⟩ =>
  exact run_eql_ptr_other (a:=⟨b,0,none⟩) (b:=⟨b',0,none⟩) w hu hj hz (fun h=>e (congrArg some h)) h1 h2
inductive Sh where
 | nil:Sh
 | node (k v:ByteArray) (wt:BitVec 64) (l r:Sh):Sh
def Tr.sh:Tr→Sh
 | .nil=>.nil
 | .node _ k v wt l r=>.node k v wt l.sh r.sh
def Sh.split (key:ByteArray):Sh→Sh × Sh
 | .nil=>(.nil,.nil)
 | .node k v wt l r=>if slt key k then ((l.split key).1,.node k v wt (l.split key).2 r) else if slt k key then (.node k v wt l (r.split key).1,(r.split key).2) else (l,r)
inductive Made (n:Nat) (T:Tr):Tr→Prop
 | nil:Made n T .nil
 | old {S:Tr}:Sub S T→Made n T S
 | new {b:Nat} {k v:ByteArray} {wt:BitVec 64} {l r:Tr}:n≤b→Made n T l→Made n T r→Made n T (.node b k v wt l r)
theorem Made.up {n:Nat} {T U S:Tr} (h:Made n T S) (hs:Sub T U):Made n U S:=by
 induction h with
 | nil=>exact .nil
 | old h=>exact .old (h.trans hs)
 | new hb _ _ ih1 ih2=>exact .new hb ih1 ih2
def Tr.newc (n:Nat):Tr→Nat
 | .nil=>0
 | .node b _ _ _ l r=>if b<n then 0 else l.newc n+1+r.newc n
theorem Tr.Lo.newc {n:Nat}:∀ {T:Tr},T.Lo n→T.newc n=0
 | .nil,_=>rfl
 | .node _ _ _ _ _ _,⟨h,_,_⟩=>by simp [Tr.newc,h]
def Tr.has (key:ByteArray) (T:Tr):Nat:=if (T.find key).ptr=none then 0 else 1
theorem Tr.cnt_nil {T:Tr}:T.cnt=0 ↔ T=.nil:=by cases T <;> simp [Tr.cnt]
structure SplitPost (n:Nat) (key:ByteArray) (T:Tr) (w w':World) (lo hi:Tr):Prop where
 atLo:TreeAt w' lo
 atHi:TreeAt w' hi
 bel:Below w.heap.size w w'
 shp:T.sh.split key=(lo.sh,hi.sh)
 mLo:Made n T lo
 mHi:Made n T hi
 new:lo.newc n+hi.newc n≤T.dep
 num:lo.cnt+hi.cnt+T.has key=T.cnt
set_option maxRecDepth 100000 in
set_option maxHeartbeats 2000000 in
theorem split_any (key:ByteArray) (T:Tr):∀ (n:Nat) (w:World),n≤w.heap.size→T.Lo n→TreeAt w T→T.cnt≤4611686018427387904 →
  Calls Tryz.prog 190 #[.pointer T.ptr,.string key] w fun e w'=>∃ lo hi,e=.returned (.tuple #[.pointer lo.ptr,.pointer (T.find key).ptr,.pointer hi.ptr])∧SplitPost n key T w w' lo hi:=by
 induction T with
 | nil =>
  intro n w _ _ _ _;change Calls _ _ #[.pointer none,.string key] w _;go_enter Tryz.func190,Tryz.ntmps190
  go_wp2_with fail;refine bodyPost_ret (v:=.tuple #[.pointer none,.pointer none,.pointer none]) (by simp [results,Tryz.results190,go_sem] <;> rfl) rfl ?_;exact ⟨.nil,.nil,rfl,trivial,trivial,Below.refl _ _,rfl,.nil,.nil,Nat.le_refl _,rfl⟩
 | node b k v wt l r ihl ihr =>
  intro n w hn hlo hat hc;obtain ⟨hb,hll,hlr⟩:=hlo;have hcn:l.cnt+1+r.cnt≤4611686018427387904:=hc;have hat':=hat;obtain ⟨hnode,hatl,hatr⟩:=hat;obtain ⟨c0,c1,c2,c3,c4,c5,c6⟩:=hnode.cells;clear c1 c2 c5 c6;by_cases h1:slt key k=true
  ·
   have h1':Op.bytesLess key.toList k.toList=true:=h1;have hne : ¬ k=key:=fun e=>by rw [e,slt_irrefl] at h1;cases h1
   have hfind:(Tr.node b k v wt l r).find key=l.find key:=by
    conv=>lhs;unfold Tr.find
    rw [if_neg hne,if_pos h1]
   have hsh:(Tr.node b k v wt l r).sh.split key=((l.sh.split key).1,.node k v wt (l.sh.split key).2 r.sh):=by
    simp only [Tr.sh];conv=>lhs;unfold Sh.split
    rw [if_pos h1]
   have hhas:(Tr.node b k v wt l r).has key=l.has key:=by unfold Tr.has;rw [hfind]
   rw [hfind];have hih:=ihl n w hn hll hatl (by omega);have Hih:=Lib.hid hih;clear hih ihl ihr
   have Hat:=Lib.hid hat';clear hat'
   have Hnode:=Lib.hid hnode;clear hnode
   have Hatr:=Lib.hid hatr;clear hatr
   have Hlr:=Lib.hid hlr;clear hlr
   have Hll:=Lib.hid hll;clear hll
   have Hatl:=Lib.hid hatl;clear hatl
   have Hhas:=Lib.hid hhas;clear hhas
   have Hsh:=Lib.hid hsh;clear hsh hfind h1 hne
   change Calls _ _ #[.pointer (some ⟨b,0,none⟩),.string key] w _;go_enter Tryz.func190,Tryz.ntmps190
   go_upto_region 5 with ((with_reducible refine Hih.out.mono ?_);rintro e w1 ⟨lo,hi,rfl,hp⟩;have Hp:=Lib.hid hp;clear hp)
   obtain ⟨d0,d1,d2,d3,d4,d5,d6⟩:=(Hnode.out.below Hp.out.bel).cells;clear c0 c3 c4 d0 d1 d2 d5 d6 h1';by_cases hp:hi.ptr=l.ptr
   ·
    have hl:hi=l:=TreeAt.uniq Hp.out.atHi (Hatl.out.below Hp.out.bel) hp;have hnum:=Hp.out.num;rw [hl] at hnum;have hlo0:lo=.nil:=Tr.cnt_nil.1 (by omega);have hhas0:l.has key=0:=by omega
    have hfd:(l.find key).ptr=none:=by
     unfold Tr.has at hhas0;split at hhas0
     ·
      assumption
     ·
      cases hhas0
    have Hf:=Lib.hid hfd;clear hfd hnum
    have Hlo0:=Lib.hid hlo0;clear hlo0
    have Hhas0:=Lib.hid hhas0;clear hhas0
    have Hl:=Lib.hid hl;clear hl
    have hcmp:=tr_same (w:=w1) hp;clear hp;go_wp2_with fail;refine bodyPost_ret (v:=.tuple #[.pointer none,.pointer none,.pointer (some ⟨b,0,none⟩)]) (by simp [results,Tryz.results190,go_sem] <;> rfl) rfl ?_;have hs:=Hp.out.shp;rw [Hlo0.out,Hl.out] at hs;refine ⟨.nil,.node b k v wt l r,by rw [Hf.out];rfl,trivial,Hat.out.below Hp.out.bel,Hp.out.bel,by rw [Hsh.out,hs];rfl,.nil,.old (.refl _),?_,by rw [Hhas.out,Hhas0.out];simp [Tr.cnt]⟩;rw [Tr.Lo.newc (show (Tr.node b k v wt l r).Lo n from ⟨hb,Hll.out,Hlr.out⟩)];exact Nat.zero_le _
   ·
    have hnum:=Hp.out.num;have Hw:=Lib.hid (with_any hi r w1 (Hnode.out.below Hp.out.bel) Hp.out.atHi (Hatr.out.below Hp.out.bel) (by omega));clear hnum;have hcmp:=tr_other Hp.out.atHi (Hatl.out.below Hp.out.bel) hp;clear hp;go_wp2_with ((with_reducible refine Hw.out.mono ?_);rintro e w2 ⟨b',rfl,hb',hat2,hbel2⟩;have Hb':=Lib.hid hb';clear hb';have Hat2:=Lib.hid hat2;clear hat2;have Hbel2:=Lib.hid hbel2;clear hbel2 d3 d4);refine bodyPost_ret (v:=.tuple #[.pointer lo.ptr,.pointer (l.find key).ptr,.pointer (some ⟨b',0,none⟩)]) (by simp [results,Tryz.results190,go_sem] <;> rfl) rfl ?_;have hs:=Hp.out.shp;have hnb:n≤b':=Nat.le_trans hn (Nat.le_trans Hp.out.bel.size Hb'.out);refine ⟨lo,.node b' k v wt hi r,rfl,Hp.out.atLo.below Hbel2.out,Hat2.out,Hp.out.bel.trans (Hbel2.out.mono Hp.out.bel.size),by rw [Hsh.out,hs];rfl,Hp.out.mLo.up (.left (.refl _)),.new hnb (Hp.out.mHi.up (.left (.refl _))) (.old (.right (.refl _))),?_,?_⟩
    ·
     have h1:=Hp.out.new;have h2:=Hlr.out.newc;have h3 : ¬ b'<n:=by omega
     simp only [Tr.newc,if_neg h3,h2,Tr.dep];omega
    ·
     have h1:=Hp.out.num;rw [Hhas.out];simp only [Tr.cnt];omega
  ·
   by_cases h2:slt k key=true
   ·
    have h2':Op.bytesLess key.toList k.toList=false:=slt_asymm h2;have hne : ¬ k=key:=slt_ne h2;have hnt:=txt_ne (fun e:key=k=>hne e.symm);have h1':Op.bytesLess key.toList k.toList=false:=by simpa [slt] using h1
    have hfind:(Tr.node b k v wt l r).find key=r.find key:=by
     conv=>lhs;unfold Tr.find
     rw [if_neg hne,if_neg h1]
    have hsh:(Tr.node b k v wt l r).sh.split key=(.node k v wt l.sh (r.sh.split key).1,(r.sh.split key).2):=by
     simp only [Tr.sh];conv=>lhs;unfold Sh.split
     rw [if_neg h1,if_pos h2]
    have hhas:(Tr.node b k v wt l r).has key=r.has key:=by unfold Tr.has;rw [hfind]
    rw [hfind];have hih:=ihr n w hn hlr hatr (by omega);have Hih:=Lib.hid hih;clear hih ihl ihr
    have Hat:=Lib.hid hat';clear hat'
    have Hnode:=Lib.hid hnode;clear hnode
    have Hatr:=Lib.hid hatr;clear hatr
    have Hlr:=Lib.hid hlr;clear hlr
    have Hll:=Lib.hid hll;clear hll
    have Hatl:=Lib.hid hatl;clear hatl
    have Hhas:=Lib.hid hhas;clear hhas
    have Hsh:=Lib.hid hsh;clear hsh hfind h1 hne h2 h1'
    change Calls _ _ #[.pointer (some ⟨b,0,none⟩),.string key] w _;go_enter Tryz.func190,Tryz.ntmps190
    go_upto_region 10 with ((with_reducible refine Hih.out.mono ?_);rintro e w1 ⟨lo,hi,rfl,hp⟩;have Hp:=Lib.hid hp;clear hp)
    obtain ⟨d0,d1,d2,d3,d4,d5,d6⟩:=(Hnode.out.below Hp.out.bel).cells;clear c0 c3 c4 d0 d1 d2 d5 d6 h2' hnt;by_cases hp:lo.ptr=r.ptr
    ·
     have hl:lo=r:=TreeAt.uniq Hp.out.atLo (Hatr.out.below Hp.out.bel) hp;have hnum:=Hp.out.num;rw [hl] at hnum;have hlo0:hi=.nil:=Tr.cnt_nil.1 (by omega);have hhas0:r.has key=0:=by omega
     have hfd:(r.find key).ptr=none:=by
      unfold Tr.has at hhas0;split at hhas0
      ·
       assumption
      ·
       cases hhas0
     have Hf:=Lib.hid hfd;clear hfd hnum
     have Hhi0:=Lib.hid hlo0;clear hlo0
     have Hhas0:=Lib.hid hhas0;clear hhas0
     have Hl:=Lib.hid hl;clear hl
     have hcmp:=tr_same (w:=w1) hp;clear hp;go_wp2_with fail;refine bodyPost_ret (v:=.tuple #[.pointer (some ⟨b,0,none⟩),.pointer none,.pointer none]) (by simp [results,Tryz.results190,go_sem] <;> rfl) rfl ?_;have hs:=Hp.out.shp;rw [Hhi0.out,Hl.out] at hs;refine ⟨.node b k v wt l r,.nil,by rw [Hf.out];rfl,Hat.out.below Hp.out.bel,trivial,Hp.out.bel,by rw [Hsh.out,hs];rfl,.old (.refl _),.nil,?_,by rw [Hhas.out,Hhas0.out];simp [Tr.cnt]⟩;rw [Tr.Lo.newc (show (Tr.node b k v wt l r).Lo n from ⟨hb,Hll.out,Hlr.out⟩)];exact Nat.zero_le _
    ·
     have hnum:=Hp.out.num;have Hw:=Lib.hid (with_any l lo w1 (Hnode.out.below Hp.out.bel) (Hatl.out.below Hp.out.bel) Hp.out.atLo (by omega));clear hnum;have hcmp:=tr_other Hp.out.atLo (Hatr.out.below Hp.out.bel) hp;clear hp;go_wp2_with ((with_reducible refine Hw.out.mono ?_);rintro e w2 ⟨b',rfl,hb',hat2,hbel2⟩;have Hb':=Lib.hid hb';clear hb';have Hat2:=Lib.hid hat2;clear hat2;have Hbel2:=Lib.hid hbel2;clear hbel2 d3 d4);refine bodyPost_ret (v:=.tuple #[.pointer (some ⟨b',0,none⟩),.pointer (r.find key).ptr,.pointer hi.ptr]) (by simp [results,Tryz.results190,go_sem] <;> rfl) rfl ?_;have hs:=Hp.out.shp;have hnb:n≤b':=Nat.le_trans hn (Nat.le_trans Hp.out.bel.size Hb'.out);refine ⟨.node b' k v wt l lo,hi,rfl,Hat2.out,Hp.out.atHi.below Hbel2.out,Hp.out.bel.trans (Hbel2.out.mono Hp.out.bel.size),by rw [Hsh.out,hs];rfl,.new hnb (.old (.left (.refl _))) (Hp.out.mLo.up (.right (.refl _))),Hp.out.mHi.up (.right (.refl _)),?_,?_⟩
     ·
      have h1:=Hp.out.new;have h2:=Hll.out.newc;have h3 : ¬ b'<n:=by omega
      simp only [Tr.newc,if_neg h3,h2,Tr.dep];omega
     ·
      have h1:=Hp.out.num;rw [Hhas.out];simp only [Tr.cnt];omega
   ·
    have h1':Op.bytesLess key.toList k.toList=false:=by simpa [slt] using h1
    have he:k=key:=(slt_total (by simpa [slt] using h1') (by simpa using h2)).symm;subst he;have hfind:(Tr.node b k v wt l r).find k=.node b k v wt l r:=by unfold Tr.find;rw [if_pos rfl]
    have hsh:(Tr.node b k v wt l r).sh.split k=(l.sh,r.sh):=by
     simp only [Tr.sh];conv=>lhs;unfold Sh.split
     rw [if_neg h1,if_neg h1]
    have hhas:(Tr.node b k v wt l r).has k=1:=by unfold Tr.has;rw [hfind];rfl
    rw [hfind];have Hsh:=Lib.hid hsh;clear hsh
    have Hhas:=Lib.hid hhas;clear hhas
    have Hat:=Lib.hid hat';clear hat'
    have Hatl:=Lib.hid hatl;clear hatl
    have Hatr:=Lib.hid hatr;clear hatr
    have Hll:=Lib.hid hll;clear hll
    have Hlr:=Lib.hid hlr;clear hlr
    clear h1 h2 hfind hnode ihl ihr;change Calls _ _ #[.pointer (some ⟨b,0,none⟩),.string k] w _;go_enter Tryz.func190,Tryz.ntmps190
    go_wp2_with fail;go_quiet (fail)
    go_wp2_with fail;refine bodyPost_ret (v:=.tuple #[.pointer l.ptr,.pointer (some ⟨b,0,none⟩),.pointer r.ptr]) (by simp [results,Tryz.results190,go_sem] <;> rfl) rfl ?_;have hbd:Below w.heap.size w (w.drewN nq):=⟨rfl,rfl,rfl,Nat.le_refl _,fun _ _=>rfl⟩;refine ⟨l,r,rfl,Hatl.out.below hbd,Hatr.out.below hbd,hbd,Hsh.out,.old (.left (.refl _)),.old (.right (.refl _)),by rw [Hll.out.newc,Hlr.out.newc];exact Nat.zero_le _,by rw [Hhas.out];simp only [Tr.cnt];omega⟩
end Go.Proofs.YtbckjgageofldaaGreat
