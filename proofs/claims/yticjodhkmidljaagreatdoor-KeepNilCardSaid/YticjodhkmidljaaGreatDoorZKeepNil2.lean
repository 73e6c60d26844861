/- A law on 'make([]T, l, c)', l and c variables; rows of bytes: read, owned. Over any program. No condition. -/
import Derived.OwnWalk
import Derived.Laws.CopyOwn
import Derived.Laws.MakeOwn
import Derived.Lib.AppendStr
import Derived.Below
import Derived.Laws.IdiomStrings
import Derived.Lib.BufferRead
import Derived.Laws.AppendOwnNone
import Derived.Test.YticjodhkmidljaaGreatDoorChecked
import Derived.WalkKit
import Derived.ProofKit
import Derived.Lib.Hide
import Derived.IntWalk
import Derived.Shelf.Strconv.Itoa0
import Derived.Deep.DeepCutAuto
import Derived.StillTailTactics
import Derived.Test.YticjodhkmidljaaGreatDoorZKeepNil1
import Derived.Laws.BitsAllLaws
namespace Go.Proofs.YticjodhkmidljaaGreatDoor
open Go.RowKit
theorem wpList_make_lc {P:Program} (w:World) {ops:Array Oper} {rest:List Oper} {o:Oper} {a:Act} {Q:Exit→Act→World→Prop}
    (hg:o.guard=none) (l c:Operand) (t:TypeId) (hop:o.op=Op.makeSlice t l c)
    (e:TypeId) (i:TypeInfo) (z:Value) (h1:P.underlying t=some (.slice e)) (h2:P.info? e=some i) (h3:i.zero=some z)
    (kl kc:IntKind) (L C:Int) (n m:Nat) (hl:a.eval l=.int kl L) (hc:a.eval c=.int kc C) (hL:L=(n:Int)) (hC:C=(m:Int)) (hLC:n≤m) (b2:i.bytes*m≤281474976710656) (b3:m≤maxLen)
    (hK:wpList P ops Q rest (a.put o.dst (.slice (some ⟨w.heap.size,0,none⟩) n m)) (w.alloc (.cells (madeCells z.cells (m*i.size)) e))) :
    wpList P ops Q (o::rest) a w:=by
  refine wpList_plain hg fun K hK'=>?_
  subst hL
  subst hC
  unfold maxLen at b3
  have hb':(i.bytes:Int)*(m:Int)≤281474976710656:=by
    have h:((i.bytes*m:Nat):Int)≤281474976710656:=by omega
    rwa [Int.natCast_mul] at h
  have hr:=run_make (P:=P) w t e i z h1 h2 h3 kl kc n m (by omega) (by omega) hb' (by omega)
  simp only [Int.toNat_natCast] at hr
  unfold Oper.wp
  simp [execOp,hop,hl,hc,hr,Result.andThen]
  exact hK' _ _ hK
/-- Bytes as cells. -/
def bcells (l:List UInt8):List Value:=l.map fun b=>Value.int .u8 b.toNat
theorem bcells_len (l:List UInt8):(bcells l).length=l.length:=by simp [bcells]
theorem bcells_one (l:List UInt8):∀ u ∈ bcells l,u.oneCell'=true:=by
  intro u hu
  simp only [bcells,List.mem_map] at hu
  obtain ⟨b,_,rfl⟩:=hu
  rfl
theorem bcells_get {l:List UInt8} {j:Nat} (hj:j<l.length):(bcells l)[j]?=some (.int .u8 (l[j].toNat:Int)):=by
  unfold bcells
  rw [List.getElem?_map,List.getElem?_eq_getElem hj]
  rfl
theorem bcells_app (l k:List UInt8):bcells (l++k)=bcells l++bcells k:=by simp [bcells]
theorem bcells_str (s:ByteArray):Lib.strCells s=bcells s.data.toList:=rfl
/-- A slice whose bytes can be read. -/
structure ReadB (w:World) (v:Value) (l:List UInt8):Prop where
  out:∃ a cap,v=.slice a l.length cap∧(a=none→cap=0)∧∀ j u,(bcells l)[j]?=some u→∃ b o,a=some ⟨b,o,none⟩∧b<w.heap.size∧w.cell? ⟨b,o+j,none⟩=some u
theorem ReadB.below {w w':World} {v:Value} {l:List UInt8} (h:ReadB w v l) (hb:Below w.heap.size w w'):ReadB w' v l:=by
  obtain ⟨a,cap,e,h0,h2⟩:=h.out
  exact ⟨a,cap,e,h0,fun j u hj=>by obtain ⟨b,o,e1,e2,e3⟩:=h2 j u hj;exact ⟨b,o,e1,Nat.lt_of_lt_of_le e2 hb.size,(hb.cell (p:=⟨b,_,none⟩) e2).trans e3⟩⟩
theorem ReadB.slice {w:World} {v:Value} {l:List UInt8} (h:ReadB w v l):∃ a n c,v=.slice a n c:=by
  obtain ⟨a,cap,e,_⟩:=h.out
  exact ⟨a,_,cap,e⟩
theorem ReadB.nil (w:World):ReadB w (.slice none 0 0) []:=⟨none,0,rfl,fun _=>rfl,fun j u hj=>by simp [bcells] at hj⟩
theorem ReadB.conv {P:Program} {w:World} {v:Value} {l:List UInt8} {src dst e:TypeId} (h:ReadB w v l) (hs:P.underlying src=some (.slice e)) (he:P.underlying e=some (.int .u8)) (hd:P.underlying dst=some .string) :
    (convert src dst v).run P w=.ok (.string ⟨l.toArray⟩) w:=by
  obtain ⟨a,cap,rfl,_,h2⟩:=h.out
  match l,h2 with
  | [],_ =>
    cases a with
    | none=>exact Lib.run_convert_nil_bytes w src dst e cap hs he hd
    | some a=>exact run_convert_bytes_back w src dst e a cap [] hs he hd (fun j hj=>by simp at hj)
  | b::r,h2 =>
    obtain ⟨g,o,rfl,_,_⟩:=h2 0 _ (List.getElem?_eq_getElem (show 0<(bcells (b::r)).length by simp [bcells]))
    refine run_convert_bytes_back w src dst e ⟨g,o,none⟩ cap (b::r) hs he hd (fun j hj=>?_)
    obtain ⟨g',o',e1,_,e3⟩:=h2 j (.int .u8 ((b::r)[j].toNat:Int)) (bcells_get hj)
    cases e1
    rw [Addr.add_lit]
    exact e3
theorem ReadB.cells (w:World) (l:List UInt8) (t:TypeId) (cs:Array Value) (hcs:cs=(bcells l).toArray) (cap:Nat):ReadB (w.alloc (.cells cs t)) (.slice (some ⟨w.heap.size,0,none⟩) l.length cap) l:=by
  subst hcs
  refine ⟨some ⟨w.heap.size,0,none⟩,cap,rfl,(fun e=>by cases e),fun j u hj=>⟨w.heap.size,0,rfl,by simp,?_⟩⟩
  have h:=heap_alloc_new w (.cells (bcells l).toArray t)
  unfold World.cell?
  simp only [h,Nat.zero_add]
  simpa using hj
theorem ReadB.one (w:World) (b:UInt8) (t:TypeId):ReadB (w.alloc (.cells #[.int .u8 (b.toNat:Int)] t)) (.slice (some ⟨w.heap.size,0,none⟩) 1 1) [b]:=by
  refine ⟨some ⟨w.heap.size,0,none⟩,1,rfl,(fun e=>by cases e),fun j u hj=>?_⟩
  match j,hj with
  | 0,hj =>
    rw [show bcells [b]=[.int .u8 (b.toNat:Int)] from rfl,List.getElem?_cons_zero,Option.some.injEq] at hj
    subst hj
    have h:=heap_alloc_new w (.cells #[.int .u8 (b.toNat:Int)] t)
    refine ⟨w.heap.size,0,rfl,by simp,?_⟩
    unfold World.cell?
    simp only [h]
    rfl
theorem cells_one (v:Value) (t:TypeId) (w:World):∀ j u,[v][j]?=some u→(w.alloc (.cells #[v] t)).cell? ((⟨w.heap.size,0,none⟩:Addr).add j)=some u:=by
  intro j u hj
  match j,hj with
  | 0,hj =>
    rw [List.getElem?_cons_zero,Option.some.injEq] at hj
    subst hj
    have h:=heap_alloc_new w (.cells #[v] t)
    show (w.alloc (.cells #[v] t)).cell? ⟨w.heap.size,0,none⟩=_
    unfold World.cell?
    simp only [h]
    rfl
/-- A slice that owns its bytes: nobody else holds its block. -/
def OwnB (w:World) (base:Nat) (t:TypeId) (v:Value) (l:List UInt8):Prop:=w.ownsRow base t 1 v l.length (bcells l)
theorem OwnB.read {w:World} {base:Nat} {t:TypeId} {v:Value} {l:List UInt8} (h:OwnB w base t v l):ReadB w v l:=by
  unfold OwnB at h
  obtain ⟨h1,h2⟩:=h
  rcases h2 with ⟨rfl,h3⟩ | ⟨g,cap,cur,rfl,_,hg,_,_,hs,ht⟩
  · have:l=[]:=List.eq_nil_of_length_eq_zero h3
    subst this
    exact ReadB.nil w
  · refine ⟨some ⟨g,0,none⟩,cap,rfl,(fun e=>by cases e),fun j u hj=>⟨g,0,rfl,(Array.getElem?_eq_some_iff.1 hg).1,?_⟩⟩
    have hjl:j<l.length:=by
      have:=(List.getElem?_eq_some_iff.1 hj).1
      rwa [bcells_len] at this
    rw [Nat.mul_one] at ht
    rw [← ht,List.getElem?_take,if_pos hjl,Array.getElem?_toList] at hj
    simp only [World.cell?,hg,Nat.zero_add]
    simpa using hj
theorem OwnB.below {w w':World} {base:Nat} {t:TypeId} {v:Value} {l:List UInt8} (h:OwnB w base t v l) (hb:Below w.heap.size w w'):OwnB w' base t v l:=by
  unfold OwnB at *
  obtain ⟨h1,h2⟩:=h
  refine ⟨h1,?_⟩
  rcases h2 with h2 | ⟨g,cap,cur,e,h3,hg,h4⟩
  · exact .inl h2
  · exact .inr ⟨g,cap,cur,e,h3,(hb.block g (Array.getElem?_eq_some_iff.1 hg).1).trans hg,h4⟩
theorem OwnB.mono {w:World} {base base':Nat} {t:TypeId} {v:Value} {l:List UInt8} (h:OwnB w base t v l) (hb:base'≤base):OwnB w base' t v l:=by
  unfold OwnB at *
  obtain ⟨h1,h2⟩:=h
  refine ⟨h1,?_⟩
  rcases h2 with h2 | ⟨g,cap,cur,e,h3,h4⟩
  · exact .inl h2
  · exact .inr ⟨g,cap,cur,e,Nat.le_trans hb h3,h4⟩
theorem OwnB.setCell {w:World} {base:Nat} {t:TypeId} {v:Value} {l:List UInt8} {g i:Nat} {x:Value} (h:OwnB w base t v l) (hg:g<base):OwnB (w.setCell ⟨g,i,none⟩ x) base t v l:=by
  unfold OwnB at *
  obtain ⟨h1,h2⟩:=h
  refine ⟨h1,?_⟩
  rcases h2 with h2 | ⟨q,cap,cur,e,h3,hq,h4⟩
  · exact .inl h2
  · exact .inr ⟨q,cap,cur,e,h3,(Below.heap_setCell _ _ _ _ (by show q≠g;omega)).trans hq,h4⟩
theorem OwnB.of {w:World} {base:Nat} {t:TypeId} {v:Value} {l k:List UInt8} {n:Nat} {xs:List Value} (h:w.ownsRow base t 1 v n xs) (hn:n=l.length+k.length) (hx:xs=bcells l++bcells k):OwnB w base t v (l++k):=by
  subst hn hx
  unfold OwnB
  rw [bcells_app,List.length_append]
  exact h
theorem OwnB.splice {w:World} {base g cap:Nat} {t:TypeId} {l:List UInt8} {cur:List Value} (hg:w.heap[g]?=some (.cells (splice cur 0 (bcells l)).toArray t (0,0))) (hb:base≤g) (hlen:cur.length=cap) (hl:l.length≤cap) (hm:cap≤maxLen) :
    OwnB w base t (.slice (some ⟨g,0,none⟩) l.length cap) l:=by
  refine ⟨by rw [bcells_len];simp,.inr ⟨g,cap,_,rfl,hb,hg,hl,hm,?_,?_⟩⟩
  · rw [List.size_toArray,length_splice _ _ _ (by rw [bcells_len];omega)]
    omega
  · rw [Nat.mul_one,show l.length=(bcells l).length from (bcells_len l).symm]
    simp [Go.splice]
theorem OwnB.one (w:World) (b:UInt8) (t:TypeId):OwnB (w.alloc (.cells #[.int .u8 (b.toNat:Int)] t)) w.heap.size t (.slice (some ⟨w.heap.size,0,none⟩) 1 1) [b] :=
  ⟨rfl,.inr ⟨w.heap.size,1,_,rfl,Nat.le_refl _,heap_alloc_new w _,Nat.le_refl _,by unfold maxLen;omega,rfl,rfl⟩⟩
/-- 'append(s, x...)', s owned, x a slice that can be read, nil or not. -/
theorem wp_append_read {P:Program} {w:World} {o:Oper} {a:Act} {K:Act→World→Prop} {Q:Exit→Act→World→Prop} (s x:Operand) (t:TypeId)
    (ho:o.op=.call { callee:=.builtin .append,args:=#[s,x],argTypes:=#[t,t] })
    (base:Nat) (e:TypeId) (i:TypeInfo) (z:Value) (ht:P.underlying t=some (.slice e)) (hi:P.info? e=some i) (hz:i.zero=some z)
    (hsize:i.size=1) (hby:i.bytes=1) (hzs:z.cells.size=1)
    (v:Value) (n:Nat) (xs:List Value) (hs:a.eval s=v) (hown:w.ownsRow base e 1 v n xs) (V:Value) (k:List UInt8) (hx:a.eval x=V) (hr:ReadB w V k)
    (h63:n+k.length≤140737488355328) (hbase:base≤w.heap.size)
    (h:∀ v' w',w'.ownsRow base e 1 v' (n+k.length) (xs++bcells k)→w.grownBy w' v.ownBlock→K (a.put o.dst v') w'):o.wp P a w K Q:=by
  obtain ⟨ad,cap,rfl,h0,h2⟩:=hr.out
  cases ad with
  | none =>
    obtain rfl:=h0 rfl
    have hk:k=[]:=by
      match k,h2 with
      | [],_=>rfl
      | b::r,h2 =>
        obtain ⟨_,_,e1,_⟩:=h2 0 _ (bcells_get (show 0<(b::r).length by simp))
        cases e1
    subst hk
    have hrun:=run_append_owned_none (P:=P) (w:=w) base t o.type e i 1 ht hi v n xs hown
    have hh:=h v w (by simpa [bcells] using hown) (World.grownBy.refl w _)
    have hx':a.eval x=.slice none 0 0:=hx
    unfold Oper.wp
    simp [execOp,ho,resolve,invoke,builtin,hs,hx',hrun,Result.andThen]
    exact hh
  | some ad =>
    refine wp_append_own w s x t ho base e i z 1 1 ht hi hz hsize hby hzs (by omega) v n xs hs hown ad k.length cap (bcells k) hx (by rw [bcells_len,Nat.mul_one]) (fun j u hj=>?_) (bcells_one k) (by unfold maxLen;omega) (by omega) hbase (fun v' w' h3 h4 _=>h v' w' h3 h4)
    obtain ⟨b,o',e1,_,e3⟩:=h2 j u hj
    cases e1
    rw [Addr.add_lit]
    exact e3
theorem wpList_append_read {P:Program} {w:World} {ops:Array Oper} {rest:List Oper} {o:Oper} {a:Act} {Q:Exit→Act→World→Prop} (hgd:o.guard=none) (s x:Operand) (t:TypeId)
    (ho:o.op=.call { callee:=.builtin .append,args:=#[s,x],argTypes:=#[t,t] })
    (base:Nat) (e:TypeId) (i:TypeInfo) (z:Value) (ht:P.underlying t=some (.slice e)) (hi:P.info? e=some i) (hz:i.zero=some z)
    (hsize:i.size=1) (hby:i.bytes=1) (hzs:z.cells.size=1)
    (v:Value) (n:Nat) (xs:List Value) (hs:a.eval s=v) (hown:w.ownsRow base e 1 v n xs) (V:Value) (k:List UInt8) (hx:a.eval x=V) (hr:ReadB w V k)
    (h63:n+k.length≤140737488355328) (hbase:base≤w.heap.size)
    (h:∀ v' w',w'.ownsRow base e 1 v' (n+k.length) (xs++bcells k)→w.grownBy w' v.ownBlock→wpList P ops Q rest (a.put o.dst v') w'):wpList P ops Q (o::rest) a w :=
  wpList_plain hgd fun _ hK=>wp_append_read s x t ho base e i z ht hi hz hsize hby hzs v n xs hs hown V k hx hr h63 hbase fun v' w' h3 h4=>hK _ _ (h v' w' h3 h4)
theorem below_grown {w w':World} {row:Option Nat} {n:Nat} {w0:World} (hg:w.grownBy w' row) (hb:Below n w0 w) (hn:n≤w.heap.size) (hr:∀ k,row=some k→n≤k):Below n w0 w' :=
  hb.trans ⟨hg.os,hg.tape,hg.output,hg.size,fun k hk=>hg.block k (Nat.lt_of_lt_of_le hk hn) (fun e=>by have:=hr k e.symm;omega)⟩
end Go.Proofs.YticjodhkmidljaaGreatDoor
namespace Go.Proofs.YticjodhkmidljaaGreatDoor
open Go.RowKit
open Go.Shelf
/-- How many bytes a number fits in. -/
def wid (n:Nat):Nat:=if n=0 then 0 else if n<256 then 1 else if n<65536 then 2 else if n<16777216 then 3 else if n<4294967296 then 4 else if n<1099511627776 then 5 else if n<281474976710656 then 6 else if n<72057594037927936 then 7 else 8
/-- The lowest k bytes of a number, the greatest first. -/
def bigB:Nat→Nat→List UInt8
  | 0,_=>[]
  | k+1,n=>UInt8.ofNat (n / 256 ^ k)::bigB k n
/-- The bytes of a number. -/
def numL (n:Nat):List UInt8:=if n<248 then [UInt8.ofNat n] else UInt8.ofNat (247+wid n)::bigB (wid n) n
theorem bigB_len:∀ k n,(bigB k n).length=k
  | 0,_=>rfl
  | k+1,n=>by simp [bigB,bigB_len k n]
theorem wid_le (n:Nat):wid n≤8:=by
  unfold wid
  repeat' split
  all_goals omega
theorem wid_pos {n:Nat} (h:n≠0):1≤wid n:=by
  unfold wid
  rw [if_neg h]
  repeat' split
  all_goals omega
theorem numL_len (n:Nat):(numL n).length≤9∧1≤(numL n).length:=by
  unfold numL
  have:=wid_le n
  split
  · simp
  · simp [bigB_len];omega
theorem len_most (n:Nat) (hn:n<2 ^ 64):Lib.bitLen n≤64:=Lib.bitLen_le n 64 (by omega) hn
theorem len_eq (n:Nat) (_:n≠0) (hn:n<2 ^ 64) (k:Nat) (h:2 ^ k≤n) (h2:n<2 ^ (k+8)) (hk:k+8≤64):k<Lib.bitLen n∧Lib.bitLen n≤k+8:=by
  refine ⟨?_,Lib.bitLen_le n (k+8) hk h2⟩
  have e:=Lib.bitLen_shift k n h hn
  have h3:n / 2 ^ k≠0:=by
    have:0<n / 2 ^ k:=Nat.div_pos h (Nat.two_pow_pos k)
    omega
  have h4:=Lib.bitLen_half (n / 2 ^ k) h3 (Nat.lt_of_le_of_lt (Nat.div_le_self _ _) hn)
  omega
theorem len_wid (n:Nat) (hn:n<18446744073709551616):(Lib.bitLen n+7) / 8=wid n:=by
  have h64:n<2 ^ 64:=hn
  unfold wid
  by_cases h0:n=0
  · subst h0;rw [if_pos rfl];decide
  rw [if_neg h0]
  repeat' split
  · have:=len_eq n h0 h64 0 (by omega) (by omega) (by omega);omega
  · have:=len_eq n h0 h64 8 (by omega) (by omega) (by omega);omega
  · have:=len_eq n h0 h64 16 (by omega) (by omega) (by omega);omega
  · have:=len_eq n h0 h64 24 (by omega) (by omega) (by omega);omega
  · have:=len_eq n h0 h64 32 (by omega) (by omega) (by omega);omega
  · have:=len_eq n h0 h64 40 (by omega) (by omega) (by omega);omega
  · have:=len_eq n h0 h64 48 (by omega) (by omega) (by omega);omega
  · have:=len_eq n h0 h64 56 (by omega) (by omega) (by omega);omega
/-- The library's contract of bits.Len64, at this program. -/
def len64_ren:Go.Shelf.Ren:=⟨fun | 129=>112 | n=>n,fun | 3=>3 | 4=>4 | 5=>5 | 9=>9 | 46=>156 | 53=>22 | n=>n,fun n=>n⟩
theorem len64_lays:Lays.n129 Tryz.prog len64_ren :=
  { mixed:=by kernel_rfl,f129:=by kernel_rfl
    t3:=by kernel_rfl,a3:=fun _=>by kernel_rfl,z3:=fun _=>by kernel_rfl,v3:=fun _=>by kernel_rfl
    t4:=by kernel_rfl,a4:=fun _=>by kernel_rfl,z4:=fun _=>by kernel_rfl,v4:=fun _=>by kernel_rfl
    t5:=by kernel_rfl,a5:=fun _=>by kernel_rfl,z5:=fun _=>by kernel_rfl,v5:=fun _=>by kernel_rfl
    t9:=by kernel_rfl,a9:=fun _=>by kernel_rfl,z9:=fun _=>by kernel_rfl,v9:=fun _=>by kernel_rfl
    t46:=by kernel_rfl,a46:=fun _=>by kernel_rfl,z46:=fun _=>by kernel_rfl,v46:=fun _=>by kernel_rfl
    t53:=by kernel_rfl,a53:=fun _=>by kernel_rfl,z53:=fun _=>by kernel_rfl,v53:=fun _=>by kernel_rfl
  }
theorem len64_any (n:Nat) (hn:n<18446744073709551616) (w:World):Calls Tryz.prog 112 #[.int .u64 (n:Int)] w fun e w'=>e=.returned (.int .i64 (Lib.bitLen n:Int))∧w=w':=by
  have h:=Any.bits_Len64 len64_lays (n:Int) w (by omega) (by omega)
  rw [Int.toNat_natCast] at h
  exact h.mono fun e w' hh=>⟨hh.1,hh.2.symm⟩
theorem width_any (n:Nat) (hn:n<18446744073709551616) (w:World):Calls Tryz.prog 87 #[.int .u64 (n:Int)] w fun e w'=>e=.returned (.int .i64 (wid n:Int))∧w=w':=by
  have H:=Lib.hid (len64_any n hn w)
  have hm:=len_most n hn
  have hq:=len_wid n hn
  rw [← hq]
  clear hq
  generalize Lib.bitLen n=L at *
  go_enter Tryz.func87,Tryz.ntmps87
  go_wp2_with ((with_reducible refine H.out.mono ?_);rintro e w' ⟨rfl,rfl⟩)
  go_ret
  refine ⟨congrArg Ending.returned (congrArg (Value.int IntKind.i64) ?_),rfl⟩
  try rw [IntKind.wrap_i64]
  omega
end Go.Proofs.YticjodhkmidljaaGreatDoor
namespace Go.Proofs.YticjodhkmidljaaGreatDoor
open Go.RowKit
theorem info8:(Tryz.prog.info? 5).map (fun i=>(i.zero,i.size,i.bytes))=some (some (.int .u8 0),1,1):=by kernel_rfl
theorem info8s:(Tryz.prog.info? 5).map (·.size)=some 1:=by kernel_rfl
set_option maxRecDepth 100000 in
set_option maxHeartbeats 4000000 in
theorem num_any (v:Value) (l:List UInt8) (n:Nat) (hn:n<18446744073709551616) (hl:l.length≤1099511627776) (w:World) (h:ReadB w v l) :
    Calls Tryz.prog 65 #[v,.int .u64 (n:Int)] w fun e w'=>∃ v',e=.returned v'∧OwnB w' w.heap.size 5 v' (l++numL n)∧Below w.heap.size w w':=by
  obtain ⟨i0,hi0,hz0,hs0,hb0⟩:=info_parts info8
  obtain ⟨a,cap,rfl,hcap0,hread⟩:=h.out
  have Hr:=Lib.hid hread;clear hread
  go_enter Tryz.func65,Tryz.ntmps65
  go_upto_region 2 with (refine wpList_make_lc _ rfl _ _ 121 rfl 5 i0 (.int .u8 0) Tryz.underlying121 hi0 hz0 .i64 .i64 _ _ l.length (l.length+9) rfl rfl (by simp) (by first | omega | (rw [IntKind.wrap_i64];omega)) (by omega) (by rw [hb0];omega) (by unfold maxLen;omega) ?_)
  have hb1:=(Below.refl w.heap.size w).alloc (Nat.le_refl _) (.cells (madeCells #[Value.int .u8 0] (l.length+9)) 5)
  have hr1:=(ReadB.below (w:=w) (v:=.slice a l.length cap) (l:=l) ⟨a,cap,rfl,hcap0,Hr.out⟩ ((Below.refl w.heap.size w).alloc (Nat.le_refl _) (.cells (madeCells #[Value.int .u8 0] (l.length+9)) 5))).out
  have hg1:(w.alloc (.cells (madeCells #[Value.int .u8 0] (l.length+9)) 5)).heap[w.heap.size]?=some (.cells (madeCells #[Value.int .u8 0] (l.length+9)).toList.toArray 5 (0,0)):=heap_alloc_new _ _
  generalize w.alloc (.cells (madeCells #[Value.int .u8 0] (l.length+9)) 5)=w1 at *
  have hc1:(madeCells #[Value.int .u8 0] (l.length+9)).toList.length=l.length+9:=by simp [size_madeCells]
  generalize (madeCells #[Value.int .u8 0] (l.length+9)).toList=cur at *
  have Hb1:=Lib.hid hb1;clear hb1
  have Hg1:=Lib.hid hg1;clear hg1
  have Hr1:=Lib.hid hr1;clear hr1
  have Hc1:=Lib.hid hc1;clear hc1 Hr h
  obtain ⟨X,hX⟩:∃ X,bcells l=X:=⟨_,rfl⟩
  have HX:=Lib.hid hX
  have hpos:0<X.length→(some ⟨w.heap.size,0,none⟩:Option Addr)=some ⟨w.heap.size,0,none⟩∧∃ ad,a=some ad∧∀ j u,X[j]?=some u→w1.cell? (ad.add j)=some u:=by
    intro hp
    obtain ⟨a',cap',e,_,h2⟩:=Hr1.out
    cases e
    rw [← hX] at hp ⊢
    obtain ⟨b,o,e1,_,_⟩:=h2 0 _ (List.getElem?_eq_getElem hp)
    refine ⟨rfl,⟨b,o,none⟩,e1,fun j u hj=>?_⟩
    obtain ⟨b',o',e2,_,e3⟩:=h2 j u hj
    rw [e1] at e2
    cases e2
    rw [Addr.add_lit]
    exact e3
  have Hpos:=Lib.hid hpos;clear hpos
  have Hlen:=Lib.hid (show X.length=Nat.min l.length l.length by rw [← hX,bcells_len];exact (Nat.min_self _).symm)
  have Hfit:=Lib.hid (show 0+X.length≤cur.length by rw [← hX,bcells_len,Hc1.out];omega)
  have Hone:=Lib.hid (show ∀ u ∈ X,u.oneCell'=true by rw [← hX];exact bcells_one l)
  clear hX Hr1
  go_upto_region 3 with (with_reducible refine wpList_copy_splice rfl (.tmp 14) (.tmp 15) 121 121 rfl 5 Tryz.underlying121 info8s _ _ _ _ _ _ rfl rfl w.heap.size 0 cur 5 Hg1.out X Hlen.out Hpos.out Hfit.out Hone.out w.heap.size w Hb1.out (Nat.le_refl _) ?_;intro w2 hg2 hb2;have Hb2:=Lib.hid hb2;clear hb2)
  have hown:OwnB w2 w.heap.size 5 (.slice (some ⟨w.heap.size,0,none⟩) l.length (l.length+9)) l:=by
    have hg:=hg2.out
    rw [← HX.out] at hg
    exact OwnB.splice hg (Nat.le_refl _) Hc1.out (by omega) (by unfold maxLen;omega)
  have Hown:=Lib.hid hown;clear hown
  have Hlt:=Lib.hid (show w.heap.size≤w2.heap.size from Hb2.out.size)
  clear hg2 Hg1 Hb1 Hpos Hlen Hfit Hone Hc1 HX
  by_cases h248:n<248
  · have h248':(n:Int)<248:=by omega
    have hnum:numL n=[UInt8.ofNat n]:=by unfold numL;rw [if_pos h248]
    have Hnum:=Lib.hid hnum;clear hnum
    have hmod:(n:Int) % 256=(n:Int):=by omega
    have hnews:bcells [UInt8.ofNat n]=[.int .u8 (n:Int)]:=by simp [bcells];omega
    have Hnews:=Lib.hid hnews;clear hnews
    go_wp2_with (at_builtin;refine wpList_append_fits _ rfl _ _ 121 rfl w.heap.size 5 i0 1 Tryz.underlying121 hi0 hs0 w.heap.size l.length (l.length+9) (bcells l) rfl (World.ownsRow.alloc Hown.out _) ⟨w2.heap.size,0,none⟩ 1 1 (bcells [UInt8.ofNat n]) rfl rfl (by rw [Hnews.out];exact cells_one _ _ _) (bcells_one _) (by omega) ?_;intro w3 ho3 hg3;have Hg3:=Lib.hid hg3;clear hg3;have Ho3:=Lib.hid ho3;clear ho3)
    go_ret
    refine ⟨_,rfl,?_,?_⟩
    · rw [Hnum.out]
      exact OwnB.of Ho3.out rfl rfl
    · exact below_grown Hg3.out (Hb2.out.alloc Hlt.out _) (by simp;have:=Hlt.out;omega) (fun k hk=>by cases hk;exact Nat.le_refl _)
  · have h248' : ¬ (n:Int)<248:=by omega
    have Hw:=Lib.hid (fun y:World=>width_any n hn y)
    have hw8:=wid_le n
    have hw1:=wid_pos (n:=n) (by omega)
    have hnum:numL n=UInt8.ofNat (247+wid n)::bigB (wid n) n:=by unfold numL;rw [if_neg h248]
    have Hnum:=Lib.hid hnum;clear hnum
    obtain ⟨k,hk⟩:∃ k,wid n=k:=⟨_,rfl⟩
    rw [hk] at Hw Hnum hw8 hw1
    clear hk
    have hmod:(247+(k:Int)) % 256=247+(k:Int):=by omega
    have hnews:bcells [UInt8.ofNat (247+k)]=[.int .u8 (247+(k:Int))]:=by simp [bcells];omega
    have Hnews:=Lib.hid hnews;clear hnews
    go_upto_region 7 with (first
      | ((with_reducible refine (Hw.out _).mono ?_);rintro e w' ⟨rfl,rfl⟩)
      | (at_builtin;refine wpList_append_fits _ rfl _ _ 121 rfl w.heap.size 5 i0 1 Tryz.underlying121 hi0 hs0 w.heap.size l.length (l.length+9) (bcells l) rfl (World.ownsRow.alloc Hown.out _) ⟨w2.heap.size,0,none⟩ 1 1 (bcells [UInt8.ofNat (247+k)]) rfl rfl (by rw [Hnews.out];exact cells_one _ _ _) (bcells_one _) (by omega) ?_;intro w3 ho3 hg3;have Hg3:=Lib.hid hg3;clear hg3;have Ho3:=Lib.hid ho3;clear ho3))
    have hb3:=below_grown Hg3.out (Hb2.out.alloc Hlt.out _) (by simp;have:=Hlt.out;omega) (fun k hk=>by cases hk;exact Nat.le_refl _)
    have ho3:OwnB w3 w.heap.size 5 (.slice (some ⟨w.heap.size,0,none⟩) (l.length+1) (l.length+9)) (l++[UInt8.ofNat (247+k)]):=OwnB.of Ho3.out rfl rfl
    clear Ho3 Hg3 Hown Hb2 Hlt Hnews
    have Hb3:=Lib.hid hb3;clear hb3
    have Ho3:=Lib.hid ho3;clear ho3
    go_wp2_with fail
    go_loopw [5,7] (fun s5 s7 wr=>∃ (j:Nat) (q:List UInt8),j≤k∧s7=.int .i64 ((j:Int) - 1)∧s5=.slice (some ⟨w.heap.size,0,none⟩) q.length (l.length+9)∧q.length+j=l.length+1+k∧OwnB wr w.heap.size 5 s5 q∧q++bigB j n=l++numL n∧Below w.heap.size w wr) (fun _ s7 _=>(intOf s7+1).toNat)
    case atStart=>exact ⟨k,l++[UInt8.ofNat (247+k)],Nat.le_refl _,rfl,by simp,by simp,Ho3.out,by rw [Hnum.out];simp,Hb3.out⟩
    case round =>
      clear Ho3 Hb3
      obtain ⟨j,q,hj,rfl,rfl,hql,ho,hq,hb⟩:=hrel
      have Ho:=Lib.hid ho;clear ho
      have Hq:=Lib.hid hq;clear hq
      have Hb:=Lib.hid hb;clear hb
      match j with
      | 0 =>
        go_wp2_with fail
        go_ret
        refine ⟨_,rfl,?_,Hb.out⟩
        have e:=Hq.out
        simp only [bigB,List.append_nil] at e
        rw [← e]
        exact Ho.out
      | i+1 =>
        have hi:((i+1:Nat):Int) - 1=(i:Int):=by omega
        rw [hi]
        clear hi
        have hi0':(0:Int)≤(i:Int):=by omega
        have hi7:(i:Int)≤7:=by omega
        have hnews:bcells [UInt8.ofNat (n / 256 ^ i)]=[.int .u8 ((n:Int) / 2 ^ (8*i) % 256)]:=by
          have e:(2:Nat) ^ (8*i)=256 ^ i:=by rw [Nat.pow_mul]
          simp [bcells, ← e]
        have Hnews:=Lib.hid hnews;clear hnews
        have Hlt:=Lib.hid (show w.heap.size≤wr.heap.size from Hb.out.size)
        go_wp2_with (at_builtin;refine wpList_append_fits _ rfl _ _ 121 rfl w.heap.size 5 i0 1 Tryz.underlying121 hi0 hs0 w.heap.size q.length (l.length+9) (bcells q) rfl (World.ownsRow.alloc Ho.out _) ⟨wr.heap.size,0,none⟩ 1 1 (bcells [UInt8.ofNat (n / 256 ^ i)]) rfl rfl (by rw [Hnews.out];exact cells_one _ _ _) (bcells_one _) (by omega) ?_;intro w4 ho4 hg4;have Hg4:=Lib.hid hg4;clear hg4;have Ho4:=Lib.hid ho4;clear ho4)
        go_roundw
        case rel =>
          refine ⟨i,q++[UInt8.ofNat (n / 256 ^ i)],by omega,rfl,by simp,by rw [List.length_append];show q.length+1+i=_;omega,OwnB.of Ho4.out rfl rfl,?_,below_grown Hg4.out (Hb.out.alloc Hlt.out _) (by simp;have:=Hlt.out;omega) (fun k hk=>by cases hk;exact Nat.le_refl _)⟩
          rw [← Hq.out]
          simp [bigB]
        case measure=>simp [intOf]
end Go.Proofs.YticjodhkmidljaaGreatDoor
namespace Go.Proofs.YticjodhkmidljaaGreatDoor
open Go.RowKit
theorem str_len (s:ByteArray):s.data.toList.length=s.size:=by rw [Array.length_toList];rfl
/-- The bytes of a text. -/
def strL (s:ByteArray):List UInt8:=numL s.size++s.data.toList
theorem strL_len (s:ByteArray):(strL s).length≤s.size+9:=by
  have h:=(numL_len s.size).1
  have e:=str_len s
  unfold strL
  rw [List.length_append,e]
  omega
set_option maxRecDepth 100000 in
set_option maxHeartbeats 4000000 in
theorem str_any (v:Value) (l:List UInt8) (s:ByteArray) (hl:l.length+s.size≤1099511627776) (w:World) (h:ReadB w v l) :
    Calls Tryz.prog 64 #[v,.string s] w fun e w'=>∃ v',e=.returned v'∧OwnB w' w.heap.size 5 v' (l++strL s)∧Below w.heap.size w w':=by
  obtain ⟨i0,hi0,hz0,hs0,hb0⟩:=info_parts info8
  have Hn:=Lib.hid (num_any v l s.size (by omega) (by omega) w h);clear h
  have hn9:=(numL_len s.size).1
  have hlen:=str_len s
  go_enter Tryz.func64,Tryz.ntmps64
  go_wp2_with (first
    | ((with_reducible refine Hn.out.mono ?_);rintro e w1 ⟨v1,rfl,ho1,hb1⟩;have Ho1:=Lib.hid ho1;clear ho1;have Hb1:=Lib.hid hb1;clear hb1)
    | (at_builtin;refine Lib.wpList_append_own_string _ rfl _ _ 121 9 rfl w.heap.size 5 i0 Tryz.underlying121 Tryz.underlying9 hi0 hz0 hs0 hb0 _ _ _ rfl Ho1.out s rfl (by rw [List.length_append];unfold maxLen;omega) (by rw [List.length_append];omega) Hb1.out.size ?_;intro v2 w2 ho2 hg2 hn2;have Ho2:=Lib.hid ho2;clear ho2;have Hg2:=Lib.hid hg2;clear hg2 hn2))
  go_ret
  refine ⟨_,rfl,?_,?_⟩
  · unfold strL
    rw [← List.append_assoc]
    exact OwnB.of Ho2.out (by rw [hlen]) (by rw [bcells_str])
  · exact below_grown Hg2.out Hb1.out Hb1.out.size (fun k hk=>(World.ownsRow.lt Ho1.out k hk).1)
end Go.Proofs.YticjodhkmidljaaGreatDoor
namespace Go.Proofs.YticjodhkmidljaaGreatDoor
open Go.RowKit
/-- A reader: its first error, and the bytes that are not gone over. -/
structure RdV where
  e:Nat
  s:List UInt8
def RdV.fail (R:RdV) (c:Nat):RdV:=if R.e=0 then ⟨c,R.s⟩ else R
def RdV.take (R:RdV) (n:Nat):List UInt8 × Bool × RdV:=if R.e=0 then (if n≤R.s.length then (R.s.take n,true,⟨0,R.s.drop n⟩) else ([],false,⟨3,R.s⟩)) else ([],false,R)
def RdV.byte (R:RdV):UInt8 × RdV:=((R.take 1).1.headD 0,(R.take 1).2.2)
def bigN (l:List UInt8):Nat:=l.foldl (fun n b=>n*256+b.toNat) 0
def RdV.wide (R:RdV) (k:Nat):Nat × RdV :=
  if (R.take k).2.1=true then (if bigN (R.take k).1<248∨wid (bigN (R.take k).1)≠k then (0,(R.take k).2.2.fail 4) else (bigN (R.take k).1,(R.take k).2.2)) else (0,(R.take k).2.2)
def RdV.num (R:RdV):Nat × RdV:=if R.byte.1.toNat<248 then (R.byte.1.toNat,R.byte.2) else R.byte.2.wide (R.byte.1.toNat - 247)
def RdV.below (R:RdV) (n:Nat):Nat × RdV:=if R.num.2.e=0 then (if R.num.1<n then R.num else (0,R.num.2.fail 4)) else (0,R.num.2)
def RdV.str (R:RdV) (most:Nat):List UInt8 × RdV:=(((R.below (most+1)).2.take (R.below (most+1)).1).1,((R.below (most+1)).2.take (R.below (most+1)).1).2.2)
theorem bigN_snoc (l:List UInt8) (b:UInt8):bigN (l++[b])=bigN l*256+b.toNat:=by
  unfold bigN
  rw [List.foldl_append]
  rfl
theorem bigN_from:∀ (l:List UInt8) (n:Nat),l.foldl (fun n b=>n*256+b.toNat) n=n*256 ^ l.length+bigN l
  | [],n=>by simp [bigN]
  | b::r,n=>by
    have h1:=bigN_from r (n*256+b.toNat)
    have h2:=bigN_from r (0*256+b.toNat)
    unfold bigN at h1 h2 ⊢
    simp only [List.foldl_cons,List.length_cons] at h1 h2 ⊢
    rw [h1,h2,Nat.pow_succ]
    simp only [Nat.add_mul,Nat.zero_mul,Nat.zero_add]
    have:n*256*256 ^ r.length=n*(256 ^ r.length*256):=by rw [Nat.mul_assoc,Nat.mul_comm 256]
    omega
theorem bigN_cons (b:UInt8) (r:List UInt8):bigN (b::r)=b.toNat*256 ^ r.length+bigN r:=by
  have h:=bigN_from r (0*256+b.toNat)
  show r.foldl (fun n b=>n*256+b.toNat) (0*256+b.toNat)=_
  rw [h]
  simp
theorem bigN_lt:∀ (l:List UInt8),bigN l<256 ^ l.length
  | []=>by simp [bigN]
  | b::r=>by
    have h:=bigN_lt r
    have hb:=b.toNat_lt
    rw [bigN_cons,List.length_cons,Nat.pow_succ]
    have:b.toNat*256 ^ r.length+256 ^ r.length≤256*256 ^ r.length:=by
      have:=Nat.mul_le_mul_right (256 ^ r.length) (show b.toNat+1≤256 by omega)
      rw [Nat.add_mul,Nat.one_mul] at this
      exact this
    rw [Nat.mul_comm 256] at this
    omega
theorem bigB_mod:∀ (k n m:Nat),bigB k (n+m*256 ^ k)=bigB k n
  | 0,_,_=>rfl
  | k+1,n,m=>by
    have h1:(n+m*256 ^ (k+1)) / 256 ^ k=n / 256 ^ k+m*256:=by
      rw [Nat.pow_succ, ← Nat.mul_assoc,Nat.mul_right_comm,Nat.add_mul_div_right _ _ (Nat.pow_pos (by omega))]
    have h2:=bigB_mod k n (m*256)
    have e:m*256*256 ^ k=m*256 ^ (k+1):=by rw [Nat.pow_succ,Nat.mul_assoc,Nat.mul_comm 256]
    rw [e] at h2
    show UInt8.ofNat ((n+m*256 ^ (k+1)) / 256 ^ k)::bigB k (n+m*256 ^ (k+1))=UInt8.ofNat (n / 256 ^ k)::bigB k n
    rw [h1,h2]
    congr 1
    apply UInt8.toNat_inj.1
    simp
theorem big_bigN:∀ (l:List UInt8),bigB l.length (bigN l)=l
  | []=>rfl
  | b::r=>by
    have hl:=bigN_lt r
    have hp:0<256 ^ r.length:=Nat.pow_pos (by omega)
    rw [bigN_cons]
    show UInt8.ofNat ((b.toNat*256 ^ r.length+bigN r) / 256 ^ r.length)::bigB r.length (b.toNat*256 ^ r.length+bigN r)=b::r
    have h1:(b.toNat*256 ^ r.length+bigN r) / 256 ^ r.length=b.toNat:=by
      rw [Nat.add_comm,Nat.add_mul_div_right _ _ hp,Nat.div_eq_of_lt hl]
      omega
    rw [h1,Nat.add_comm,bigB_mod,big_bigN r]
    simp
theorem bigN_big:∀ (k n:Nat),n<256 ^ k→bigN (bigB k n)=n
  | 0,n,h=>by
    have:n=0:=by simpa using h
    rw [this];rfl
  | k+1,n,h=>by
    have hp:0<256 ^ k:=Nat.pow_pos (by omega)
    have hd:n / 256 ^ k<256:=by
      rw [Nat.div_lt_iff_lt_mul hp]
      rw [Nat.pow_succ] at h
      omega
    show bigN (UInt8.ofNat (n / 256 ^ k)::bigB k n)=n
    rw [bigN_cons,bigB_len]
    have h1:bigB k n=bigB k (n % 256 ^ k):=by
      have:=bigB_mod k (n % 256 ^ k) (n / 256 ^ k)
      rw [Nat.mul_comm,Nat.mod_add_div] at this
      exact this
    rw [h1,bigN_big k _ (Nat.mod_lt _ hp)]
    have h2:(UInt8.ofNat (n / 256 ^ k)).toNat=n / 256 ^ k:=by simp;omega
    rw [h2,Nat.mul_comm]
    exact Nat.div_add_mod n (256 ^ k)
theorem wid_lt {n:Nat} (h:n<18446744073709551616):n<256 ^ wid n:=by
  unfold wid
  repeat' split
  all_goals first | omega | (simp;omega)
theorem take_app (t r:List UInt8):(RdV.mk 0 (t++r)).take t.length=(t,true,⟨0,r⟩):=by
  unfold RdV.take
  rw [if_pos rfl,if_pos (by simp)]
  simp
theorem byte_app (b:UInt8) (r:List UInt8):(RdV.mk 0 (b::r)).byte=(b,⟨0,r⟩):=by
  have h:(RdV.mk 0 (b::r)).take 1=([b],true,⟨0,r⟩):=take_app [b] r
  unfold RdV.byte
  rw [h]
  rfl
theorem num_app {n:Nat} (hn:n<18446744073709551616) (r:List UInt8):(RdV.mk 0 (numL n++r)).num=(n,⟨0,r⟩):=by
  unfold numL
  by_cases h:n<248
  · rw [if_pos h]
    unfold RdV.num
    rw [List.singleton_append,byte_app]
    have e:(UInt8.ofNat n).toNat=n:=by simp;omega
    rw [if_pos (by rw [e];exact h)]
    simp only [e]
  · rw [if_neg h]
    have hw:=wid_le n
    have hp:=wid_pos (n:=n) (by omega)
    have e:(UInt8.ofNat (247+wid n)).toNat=247+wid n:=by simp;omega
    have ht:=take_app (bigB (wid n) n) r
    rw [bigB_len] at ht
    unfold RdV.num
    rw [List.cons_append,byte_app]
    simp only [e]
    rw [if_neg (by omega),show 247+wid n - 247=wid n by omega]
    unfold RdV.wide
    rw [ht]
    simp only [if_true]
    rw [bigN_big _ _ (wid_lt hn),if_neg (by omega)]
theorem below_app {n m:Nat} (hn:n<18446744073709551616) (hm:n<m) (r:List UInt8):(RdV.mk 0 (numL n++r)).below m=(n,⟨0,r⟩):=by
  unfold RdV.below
  rw [num_app hn]
  simp only [if_true]
  rw [if_pos hm]
theorem str_app' {t:List UInt8} {most:Nat} (ht:t.length≤most) (hm:most<1000000) (r:List UInt8):(RdV.mk 0 (numL t.length++t++r)).str most=(t,⟨0,r⟩):=by
  unfold RdV.str
  rw [List.append_assoc,below_app (by omega) (by omega)]
  simp only [take_app]
theorem take_inv {R R2:RdV} {n:Nat} {t:List UInt8} {b:Bool} (h:R.take n=(t,b,R2)) (he:R2.e=0):R.e=0∧b=true∧t.length=n∧R.s=t++R2.s:=by
  unfold RdV.take at h
  split at h
  · rename_i h0
    split at h
    · rename_i hl
      cases h
      exact ⟨h0,rfl,by simp;omega,by simp⟩
    · cases h;cases he
  · rename_i h0
    cases h
    exact absurd he h0
theorem byte_inv {R R2:RdV} {b:UInt8} (h:R.byte=(b,R2)) (he:R2.e=0):R.e=0∧R.s=b::R2.s:=by
  obtain ⟨⟨t,k,R3⟩,ht⟩:∃ x,R.take 1=x:=⟨_,rfl⟩
  unfold RdV.byte at h
  rw [ht] at h
  cases h
  obtain ⟨h1,_,h3,h4⟩:=take_inv ht he
  refine ⟨h1,?_⟩
  match t,h3 with
  | [x],_=>exact h4
theorem fail_e {R:RdV} {c:Nat} (hc:c≠0):(R.fail c).e≠0:=by
  unfold RdV.fail
  split
  · exact hc
  · rename_i h;exact h
theorem wide_inv {R R2:RdV} {k n:Nat} (h:R.wide k=(n,R2)) (he:R2.e=0):R.e=0∧248≤n∧wid n=k∧R.s=bigB k n++R2.s:=by
  obtain ⟨⟨t,b,R3⟩,ht⟩:∃ x,R.take k=x:=⟨_,rfl⟩
  unfold RdV.wide at h
  rw [ht] at h
  simp only at h
  split at h
  · split at h
    · cases h;exact absurd he (fail_e (by omega))
    · rename_i hw
      cases h
      obtain ⟨h1,_,h3,h4⟩:=take_inv ht he
      have hb:=big_bigN t
      rw [h3] at hb
      exact ⟨h1,by omega,by omega,by rw [hb];exact h4⟩
  · rename_i hb
    cases h
    obtain ⟨_,h2,_,_⟩:=take_inv ht he
    exact absurd h2 hb
theorem num_inv {R R2:RdV} {n:Nat} (h:R.num=(n,R2)) (he:R2.e=0):R.e=0∧R.s=numL n++R2.s:=by
  obtain ⟨⟨b,R3⟩,hb⟩:∃ x,R.byte=x:=⟨_,rfl⟩
  unfold RdV.num at h
  rw [hb] at h
  simp only at h
  split at h
  · rename_i hl
    cases h
    obtain ⟨h1,h2⟩:=byte_inv hb he
    refine ⟨h1,?_⟩
    unfold numL
    rw [if_pos hl,h2]
    simp
  · rename_i hl
    obtain ⟨h1,h2,h3,h4⟩:=wide_inv h he
    obtain ⟨h5,h6⟩:=byte_inv hb h1
    refine ⟨h5,?_⟩
    have hb8:=b.toNat_lt
    unfold numL
    rw [if_neg (by omega),h3,h6,h4,show 247+(b.toNat - 247)=b.toNat by omega]
    simp
theorem below_inv {R R2:RdV} {n m:Nat} (h:R.below m=(n,R2)) (he:R2.e=0):R.e=0∧n<m∧R.s=numL n++R2.s:=by
  obtain ⟨⟨v,R3⟩,hv⟩:∃ x,R.num=x:=⟨_,rfl⟩
  unfold RdV.below at h
  rw [hv] at h
  simp only at h
  split at h
  · split at h
    · rename_i hm
      cases h
      obtain ⟨h1,h2⟩:=num_inv hv he
      exact ⟨h1,hm,h2⟩
    · cases h;exact absurd he (fail_e (by omega))
  · rename_i h0
    cases h
    exact absurd he h0
theorem take_len (R:RdV) (n:Nat):(R.take n).2.2.s.length≤R.s.length:=by
  unfold RdV.take
  split
  · split
    · simp
    · exact Nat.le_refl _
  · exact Nat.le_refl _
theorem fail_s (R:RdV) (c:Nat):(R.fail c).s=R.s:=by
  unfold RdV.fail
  split <;> rfl
theorem byte_len (R:RdV):R.byte.2.s.length≤R.s.length:=take_len R 1
theorem wide_len (R:RdV) (k:Nat):(R.wide k).2.s.length≤R.s.length:=by
  have h:=take_len R k
  unfold RdV.wide
  split
  · split
    · rw [fail_s];exact h
    · exact h
  · exact h
theorem num_len (R:RdV):R.num.2.s.length≤R.s.length:=by
  have h:=byte_len R
  unfold RdV.num
  split
  · exact h
  · exact Nat.le_trans (wide_len _ _) h
theorem below_len (R:RdV) (n:Nat):(R.below n).2.s.length≤R.s.length:=by
  have h:=num_len R
  unfold RdV.below
  split
  · split
    · exact h
    · rw [fail_s];exact h
  · exact h
end Go.Proofs.YticjodhkmidljaaGreatDoor
namespace Go.Proofs.YticjodhkmidljaaGreatDoor
open Go.RowKit
theorem bs_size (l:List UInt8):(⟨l.toArray⟩:ByteArray).size=l.length:=by
  show l.toArray.size=l.length
  rw [List.size_toArray]
end Go.Proofs.YticjodhkmidljaaGreatDoor
namespace Go.Proofs.YticjodhkmidljaaGreatDoor
open Go.RowKit
/-- Nothing but one block is another. -/
structure Only (g:Nat) (w w':World):Prop where
  os:w'.os=w.os
  tape:w'.tape=w.tape
  output:w'.output=w.output
  size:w'.heap.size=w.heap.size
  block:∀ k,k≠g→w'.heap[k]?=w.heap[k]?
theorem Only.refl (g:Nat) (w:World):Only g w w:=⟨rfl,rfl,rfl,rfl,fun _ _=>rfl⟩
theorem Only.trans {g:Nat} {a b c:World} (h:Only g a b) (k:Only g b c):Only g a c :=
  ⟨k.os.trans h.os,k.tape.trans h.tape,k.output.trans h.output,k.size.trans h.size,fun i hi=>(k.block i hi).trans (h.block i hi)⟩
theorem Only.below {g n:Nat} {w0 a b:World} (h:Below n w0 a) (k:Only g a b) (hg:n≤g):Below n w0 b :=
  ⟨k.os.trans h.os,k.tape.trans h.tape,k.output.trans h.output,by rw [k.size];exact h.size,fun i hi=>(k.block i (by omega)).trans (h.block i hi)⟩
theorem Only.set (g i:Nat) (w:World) (v:Value):Only g w (w.setCell ⟨g,i,none⟩ v):=by
  have h:=below_setV (x:=v) (i:=i) (b:=g) (Below.refl 0 w) (Nat.zero_le _)
  refine ⟨h.os,h.tape,h.output,?_,fun k hk=>Below.heap_setCell _ _ _ _ (by exact hk)⟩
  unfold World.setCell
  split <;> simp
def rdCells (R:RdV):List Value:=[.int .i64 (R.e:Int),.string ⟨R.s.toArray⟩]
/-- A reader lies there. -/
structure RdAt (w:World) (g:Nat) (R:RdV):Prop where
  row:w.heap[g]?=some (.cells (rdCells R).toArray 153 (0,0))
  len:R.s.length≤maxLen
theorem RdAt.cells {w:World} {g:Nat} {R:RdV} (h:RdAt w g R):w.cell? ⟨g,0,none⟩=some (.int .i64 (R.e:Int))∧w.cell? ⟨g,1,none⟩=some (.string ⟨R.s.toArray⟩) :=
  ⟨cell_of_row _ _ _ _ _ _ h.row,cell_of_row _ _ _ _ _ _ h.row⟩
theorem RdAt.thawed {w:World} {g:Nat} {R:RdV} (h:RdAt w g R) (j:Nat):w.frozen? ⟨g,j,none⟩=false:=by
  have h:=h.row
  simp [World.frozen?,h]
theorem RdAt.lt {w:World} {g:Nat} {R:RdV} (h:RdAt w g R):g<w.heap.size:=(Array.getElem?_eq_some_iff.1 h.row).1
theorem RdAt.below {w w':World} {g:Nat} {R:RdV} (h:RdAt w g R) (hb:Below w.heap.size w w'):RdAt w' g R:=⟨(hb.block g h.lt).trans h.row,h.len⟩
theorem RdAt.other {w w':World} {g q:Nat} {R:RdV} (h:RdAt w g R) (hq:g≠q) (ho:Only q w w'):RdAt w' g R:=⟨(ho.block g hq).trans h.row,h.len⟩
theorem RdAt.err {w:World} {g e:Nat} {s:List UInt8} (h:RdAt w g ⟨e,s⟩) (c:Nat):RdAt (w.setCell ⟨g,0,none⟩ (.int .i64 (c:Int))) g ⟨c,s⟩:=by
  refine ⟨?_,h.len⟩
  rw [heap_setCell_same _ _ _ _ _ _ h.row]
  rfl
theorem RdAt.rest {w:World} {g e:Nat} {s:List UInt8} (h:RdAt w g ⟨e,s⟩) (t:List UInt8) (ht:t.length≤s.length):RdAt (w.setCell ⟨g,1,none⟩ (.string ⟨t.toArray⟩)) g ⟨e,t⟩:=by
  refine ⟨?_,Nat.le_trans ht h.len⟩
  rw [heap_setCell_same _ _ _ _ _ _ h.row]
  rfl
theorem bs_extract (l:List UInt8) (a b:Nat):(⟨l.toArray⟩:ByteArray).extract a b=⟨((l.take b).drop a).toArray⟩:=by
  apply ByteArray.ext
  rw [ByteArray.data_extract]
  simp [List.drop_take]
set_option maxHeartbeats 4000000 in
theorem fail_any (R:RdV) (c g:Nat) (w:World) (h:RdAt w g R) :
    Calls Tryz.prog 88 #[.pointer (some ⟨g,0,none⟩),.int .i64 (c:Int)] w fun e w'=>e=.returned (.tuple #[])∧RdAt w' g (R.fail c)∧Only g w w':=by
  obtain ⟨e,s⟩:=R
  obtain ⟨f0,f1⟩:=h.cells
  have f2:=h.thawed 0
  unfold RdV.fail
  by_cases he:e=0
  · subst he
    rw [if_pos rfl]
    have hh:=h.err c
    have H:=Lib.hid h;clear h
    have HH:=Lib.hid (And.intro hh (Only.set g 0 w (.int .i64 (c:Int))));clear hh
    go_enter Tryz.func88,Tryz.ntmps88
    go_wp2_with fail
    refine bodyPost_end (results_none rfl _ _ _) rfl ?_
    exact ⟨rfl,HH.out.1,HH.out.2⟩
  · rw [if_neg he]
    have he':((e:Int) == 0)=false:=by rw [beq_eq_false_iff_ne];omega
    have H:=Lib.hid h;clear h
    have HE:=Lib.hid he;clear he
    go_enter Tryz.func88,Tryz.ntmps88
    go_wp2_with fail
    refine bodyPost_end (results_none rfl _ _ _) rfl ?_
    exact ⟨rfl,H.out,Only.refl _ _⟩
theorem fail_short (R:RdV) (g:Nat) (w:World) (h:RdAt w g R) :
    Calls Tryz.prog 88 #[.pointer (some ⟨g,0,none⟩),.int .i64 3] w fun e w'=>e=.returned (.tuple #[])∧RdAt w' g (R.fail 3)∧Only g w w':=fail_any R 3 g w h
theorem fail_form (R:RdV) (g:Nat) (w:World) (h:RdAt w g R) :
    Calls Tryz.prog 88 #[.pointer (some ⟨g,0,none⟩),.int .i64 4] w fun e w'=>e=.returned (.tuple #[])∧RdAt w' g (R.fail 4)∧Only g w w':=fail_any R 4 g w h
set_option maxHeartbeats 4000000 in
theorem failed_any (R:RdV) (g:Nat) (w:World) (h:RdAt w g R) :
    Calls Tryz.prog 111 #[.pointer (some ⟨g,0,none⟩)] w fun e w'=>e=.returned (.bool (decide (R.e≠0)))∧w=w':=by
  obtain ⟨f0,f1⟩:=h.cells
  obtain ⟨b,hb⟩:∃ b,decide (R.e≠0)=b:=⟨_,rfl⟩
  have hb':((R.e:Int) != 0)=b:=by
    rw [← hb]
    by_cases h0:R.e=0
    · simp [h0]
    · have:(R.e:Int)≠0:=by omega
      simp [h0]
  rw [hb]
  clear h hb
  go_enter Tryz.func111,Tryz.ntmps111
  go_wp2_with fail
  go_ret
  exact ⟨rfl,rfl⟩
theorem take_str (l:List UInt8) (n:Nat):(⟨l.toArray⟩:ByteArray).extract 0 n=⟨(l.take n).toArray⟩∧(⟨l.toArray⟩:ByteArray).extract n l.length=⟨(l.drop n).toArray⟩:=by
  refine ⟨by rw [bs_extract];simp,by rw [bs_extract];simp⟩
set_option maxHeartbeats 8000000 in
theorem take_any (R:RdV) (n:Nat) (_:n<18446744073709551616) (g:Nat) (w:World) (h:RdAt w g R) :
    Calls Tryz.prog 86 #[.pointer (some ⟨g,0,none⟩),.int .u64 (n:Int)] w fun e w'=>e=.returned (.tuple #[.string ⟨(R.take n).1.toArray⟩,.bool (R.take n).2.1])∧RdAt w' g (R.take n).2.2∧Only g w w':=by
  have hfd:=failed_any R g w h
  obtain ⟨e,s⟩:=R
  have hlen:=h.len
  unfold maxLen at hlen
  simp only at hlen hfd
  obtain ⟨f0,f1⟩:=h.cells
  simp only at f0 f1
  have f3:=h.thawed 1
  unfold RdV.take
  by_cases he:e=0
  · subst he
    have hfd:Calls Tryz.prog 111 #[.pointer (some ⟨g,0,none⟩)] w fun e w'=>e=.returned (.bool false)∧w=w':=hfd
    simp only [if_true]
    have Hfd:=Lib.hid hfd;clear hfd
    have hsz:=bs_size s
    have hwrap:IntKind.u64.wrap (s.length:Int)=(s.length:Int):=by rw [IntKind.wrap_u64];omega
    by_cases hs:n≤s.length
    · rw [if_pos hs]
      obtain ⟨t1,t2⟩:=take_str s n
      have hs' : ¬ (s.length:Int)<(n:Int):=by omega
      have HH:=Lib.hid (And.intro (h.rest (s.drop n) (by simp)) (Only.set g 1 w (.string ⟨(s.drop n).toArray⟩)))
      have H:=Lib.hid h;clear h
      go_enter Tryz.func86,Tryz.ntmps86
      go_wp2_with ((with_reducible refine Hfd.out.mono ?_);rintro e w' ⟨rfl,rfl⟩)
      refine bodyPost_ret (v:=.tuple #[.string ⟨(s.take n).toArray⟩,.bool true]) (by simp [results,Tryz.results86,go_sem]) rfl ?_
      exact ⟨rfl,HH.out.1,HH.out.2⟩
    · rw [if_neg hs]
      have hs':(s.length:Int)<(n:Int):=by omega
      have hfl:=fail_short ⟨0,s⟩ g w h
      have Hfl:=Lib.hid hfl;clear hfl
      have H:=Lib.hid h;clear h
      go_enter Tryz.func86,Tryz.ntmps86
      go_wp2_with (first
        | ((with_reducible refine Hfd.out.mono ?_);rintro e w' ⟨rfl,rfl⟩)
        | ((with_reducible refine Hfl.out.mono ?_);rintro e w2 ⟨rfl,h2⟩;have H2:=Lib.hid h2;clear h2))
      refine bodyPost_ret (v:=.tuple #[Value.string ⟨#[]⟩,.bool false]) (by simp [results,Tryz.results86,go_sem]) rfl ?_
      exact ⟨rfl,H2.out⟩
  · have hfd:Calls Tryz.prog 111 #[.pointer (some ⟨g,0,none⟩)] w fun e w'=>e=.returned (.bool true)∧w=w':=by simpa [he] using hfd
    rw [if_neg he]
    have Hfd:=Lib.hid hfd;clear hfd
    have H:=Lib.hid h;clear h
    go_enter Tryz.func86,Tryz.ntmps86
    go_wp2_with ((with_reducible refine Hfd.out.mono ?_);rintro e w' ⟨rfl,rfl⟩)
    refine bodyPost_ret (v:=.tuple #[Value.string ⟨#[]⟩,.bool false]) (by simp [results,Tryz.results86,go_sem]) rfl ?_
    exact ⟨rfl,H.out,Only.refl _ _⟩
set_option maxHeartbeats 8000000 in
theorem byte_any (R:RdV) (g:Nat) (w:World) (h:RdAt w g R) :
    Calls Tryz.prog 53 #[.pointer (some ⟨g,0,none⟩)] w fun e w'=>e=.returned (.int .u8 (R.byte.1.toNat:Int))∧RdAt w' g R.byte.2∧Only g w w':=by
  have ht:Calls Tryz.prog 86 #[.pointer (some ⟨g,0,none⟩),.int .u64 1] w fun e w'=>e=.returned (.tuple #[.string ⟨(R.take 1).1.toArray⟩,.bool (R.take 1).2.1])∧RdAt w' g (R.take 1).2.2∧Only g w w':=take_any R 1 (by omega) g w h
  clear h
  unfold RdV.byte
  have hcase:((R.take 1).2.1=true∧(R.take 1).1.length=1)∨((R.take 1).2.1=false∧(R.take 1).1=[]):=by
    unfold RdV.take
    split
    · split
      · exact .inl ⟨rfl,by simp;omega⟩
      · exact .inr ⟨rfl,rfl⟩
    · exact .inr ⟨rfl,rfl⟩
  generalize R.take 1=X at *
  obtain ⟨t,b,R2⟩:=X
  simp only at ht hcase ⊢
  rcases hcase with ⟨rfl,hl⟩ | ⟨rfl,rfl⟩
  · match t,hl with
    | [x],_ =>
      have Ht:=Lib.hid ht;clear ht
      go_enter Tryz.func53,Tryz.ntmps53
      go_wp2_with ((with_reducible refine Ht.out.mono ?_);rintro e w2 ⟨rfl,h2⟩;have H2:=Lib.hid h2;clear h2)
      go_ret
      exact ⟨rfl,H2.out⟩
  · have Ht:=Lib.hid ht;clear ht
    go_enter Tryz.func53,Tryz.ntmps53
    go_wp2_with ((with_reducible refine Ht.out.mono ?_);rintro e w2 ⟨rfl,h2⟩;have H2:=Lib.hid h2;clear h2)
    go_ret
    exact ⟨rfl,H2.out⟩
set_option maxHeartbeats 4000000 in
theorem bad_any (R:RdV) (g:Nat) (w:World) (h:RdAt w g R) :
    Calls Tryz.prog 55 #[.pointer (some ⟨g,0,none⟩)] w fun e w'=>e=.returned (.tuple #[])∧RdAt w' g (R.fail 4)∧Only g w w':=by
  have Hfl:=Lib.hid (fail_form R g w h);clear h
  go_enter Tryz.func55,Tryz.ntmps55
  go_wp2_with ((with_reducible refine Hfl.out.mono ?_);rintro e w2 ⟨rfl,h2⟩;have H2:=Lib.hid h2;clear h2)
  refine bodyPost_end (results_none rfl _ _ _) rfl ?_
  exact ⟨rfl,H2.out⟩
set_option maxHeartbeats 4000000 in
theorem err_any (R:RdV) (g:Nat) (w:World) (h:RdAt w g R) :
    Calls Tryz.prog 89 #[.pointer (some ⟨g,0,none⟩)] w fun e w'=>e=.returned (.int .i64 (R.e:Int))∧w=w':=by
  obtain ⟨f0,f1⟩:=h.cells
  clear h
  go_enter Tryz.func89,Tryz.ntmps89
  go_wp2_with fail
  go_ret
  exact ⟨rfl,rfl⟩
def RdV.end_ (R:RdV):RdV:=if R.s=[] then R else R.fail 4
set_option maxHeartbeats 4000000 in
theorem end_any (R:RdV) (g:Nat) (w:World) (h:RdAt w g R) :
    Calls Tryz.prog 58 #[.pointer (some ⟨g,0,none⟩)] w fun e w'=>e=.returned (.int .i64 (R.end_.e:Int))∧RdAt w' g R.end_∧Only g w w':=by
  have hsz:=bs_size R.s
  unfold RdV.end_
  by_cases hs:R.s=[]
  · rw [if_pos hs]
    have hl:R.s.length=0:=by rw [hs];rfl
    obtain ⟨f0,f1⟩:=h.cells
    have H:=Lib.hid h;clear h
    rw [hl] at hsz
    have hlt : ¬ (0:Int)<0:=by omega
    have Hs:=Lib.hid hs;clear hs hl
    go_enter Tryz.func58,Tryz.ntmps58
    go_wp2_with fail
    go_ret
    exact ⟨rfl,H.out,Only.refl _ _⟩
  · rw [if_neg hs]
    have hl:0<R.s.length:=List.length_pos_iff.2 hs
    have hl':(0:Int)<(R.s.length:Int):=by omega
    obtain ⟨f0,f1⟩:=h.cells
    have Hfl:=Lib.hid (fail_form R g w h)
    clear h hs hl
    go_enter Tryz.func58,Tryz.ntmps58
    go_wp2_with ((with_reducible refine Hfl.out.mono ?_);rintro e w2 ⟨rfl,h2⟩;have H2:=Lib.hid h2;obtain ⟨k0,k1⟩:=h2.1.cells;clear h2 f0 f1)
    go_ret
    exact ⟨rfl,H2.out⟩
end Go.Proofs.YticjodhkmidljaaGreatDoor
