/- Readers, plain: what reading takes of bytes, and its laws: what was told as a number or a text is read back, and what is read was told. No condition. -/
import Derived.Test.YtbckjgageofldaaGreatZLearnRefuses11
import Derived.Test.YtbckjgageofldaaGreatZLearnRefuses7
import Derived.Deep.DeepCutAuto
import Derived.Test.YtbckjgageofldaaGreatZLearnRefuses8
import Derived.Test.YtbckjgageofldaaGreatZLearnRefuses5
set_option maxRecDepth 100000
set_option maxHeartbeats 16000000
namespace Go.Proofs.YtbckjgageofldaaGreat
open Go.RowKit
structure RdV where
 e:Nat
 s:List UInt8
def RdV.fail (R:RdV) (c:Nat):RdV:=if R.e=0 then ⟨c,R.s⟩ else R
def RdV.take (R:RdV) (n:Nat):List UInt8 × Bool × RdV:=if R.e=0 then (if n≤R.s.length then (R.s.take n,true,⟨0,R.s.drop n⟩) else ([],false,⟨3,R.s⟩)) else ([],false,R)
def RdV.byte (R:RdV):UInt8 × RdV:=((R.take 1).1.headD 0,(R.take 1).2.2)
def bigN (l:List UInt8):Nat:=l.foldl (fun n b=>n*256+b.toNat) 0
def RdV.wide (R:RdV) (k:Nat):Nat × RdV :=
 if (R.take k).2.1=true then (if bigN (R.take k).1<248∨wid (bigN (R.take k).1)≠k then (0,(R.take k).2.2.fail 4) else (bigN (R.take k).1,(R.take k).2.2)) else (0,(R.take k).2.2)
def RdV.num (R:RdV):Nat × RdV:=if R.byte.1.toNat<248 then (R.byte.1.toNat,R.byte.2) else R.byte.2.wide (R.byte.1.toNat - 247)
def RdV.below (R:RdV) (n:Nat):Nat × RdV:=if R.num.2.e=0 then (if R.num.1<n then R.num else (0,R.num.2.fail 4)) else (0,R.num.2)
def RdV.str (R:RdV) (most:Nat):List UInt8 × RdV:=(((R.below (most+1)).2.take (R.below (most+1)).1).1,((R.below (most+1)).2.take (R.below (most+1)).1).2.2)
theorem bigN_snoc (l:List UInt8) (b:UInt8):bigN (l++[b])=bigN l*256+b.toNat:=by
 unfold bigN;rw [List.foldl_append];rfl
theorem bigN_from:∀ (l:List UInt8) (n:Nat),l.foldl (fun n b=>n*256+b.toNat) n=n*256 ^ l.length+bigN l
 | [],n=>by simp [bigN]
 | b::r,n=>by
  have h1:=bigN_from r (n*256+b.toNat);have h2:=bigN_from r (0*256+b.toNat);unfold bigN at h1 h2 ⊢;simp only [List.foldl_cons,List.length_cons] at h1 h2 ⊢;rw [h1,h2,Nat.pow_succ];simp only [Nat.add_mul,Nat.zero_mul,Nat.zero_add];have:n*256*256 ^ r.length=n*(256 ^ r.length*256):=by rw [Nat.mul_assoc,Nat.mul_comm 256]
  omega
theorem bigN_cons (b:UInt8) (r:List UInt8):bigN (b::r)=b.toNat*256 ^ r.length+bigN r:=by
 have h:=bigN_from r (0*256+b.toNat);show r.foldl (fun n b=>n*256+b.toNat) (0*256+b.toNat)=_;rw [h];simp
theorem bigN_lt:∀ (l:List UInt8),bigN l<256 ^ l.length
 | []=>by simp [bigN]
 | b::r=>by
  have h:=bigN_lt r;have hb:=b.toNat_lt;rw [bigN_cons,List.length_cons,Nat.pow_succ];have:b.toNat*256 ^ r.length+256 ^ r.length≤256*256 ^ r.length:=by
   have:=Nat.mul_le_mul_right (256 ^ r.length) (show b.toNat+1≤256 by omega);rw [Nat.add_mul,Nat.one_mul] at this;exact this
  rw [Nat.mul_comm 256] at this;omega
theorem bigB_mod:∀ (k n m:Nat),bigB k (n+m*256 ^ k)=bigB k n
 | 0,_,_=>rfl
 | k+1,n,m=>by
  have h1:(n+m*256 ^ (k+1)) / 256 ^ k=n / 256 ^ k+m*256:=by
   rw [Nat.pow_succ, ← Nat.mul_assoc,Nat.mul_right_comm,Nat.add_mul_div_right _ _ (Nat.pow_pos (by omega))]
  have h2:=bigB_mod k n (m*256);have e:m*256*256 ^ k=m*256 ^ (k+1):=by rw [Nat.pow_succ,Nat.mul_assoc,Nat.mul_comm 256]
  rw [e] at h2;show UInt8.ofNat ((n+m*256 ^ (k+1)) / 256 ^ k)::bigB k (n+m*256 ^ (k+1))=UInt8.ofNat (n / 256 ^ k)::bigB k n;rw [h1,h2];congr 1
  apply UInt8.toNat_inj.1
  simp
theorem bigN_big:∀ (k n:Nat),n<256 ^ k→bigN (bigB k n)=n
 | 0,n,h=>by
  have:n=0:=by simpa using h
  rw [this];rfl
 | k+1,n,h=>by
  have hp:0<256 ^ k:=Nat.pow_pos (by omega);have hd:n / 256 ^ k<256:=by
   rw [Nat.div_lt_iff_lt_mul hp];rw [Nat.pow_succ] at h;omega
  show bigN (UInt8.ofNat (n / 256 ^ k)::bigB k n)=n;rw [bigN_cons,bigB_len];have h1:bigB k n=bigB k (n % 256 ^ k):=by
   have:=bigB_mod k (n % 256 ^ k) (n / 256 ^ k);rw [Nat.mul_comm,Nat.mod_add_div] at this;exact this
  rw [h1,bigN_big k _ (Nat.mod_lt _ hp)];have h2:(UInt8.ofNat (n / 256 ^ k)).toNat=n / 256 ^ k:=by simp;omega
  rw [h2,Nat.mul_comm];exact Nat.div_add_mod n (256 ^ k)
theorem wid_lt {n:Nat} (h:n<18446744073709551616):n<256 ^ wid n:=by
 unfold wid;repeat' split
 all_goals first | omega | (simp;omega)
theorem take_app (t r:List UInt8):(RdV.mk 0 (t++r)).take t.length=(t,true,⟨0,r⟩):=by
 unfold RdV.take;rw [if_pos rfl,if_pos (by simp)];simp
theorem byte_app (b:UInt8) (r:List UInt8):(RdV.mk 0 (b::r)).byte=(b,⟨0,r⟩):=by
 have h:(RdV.mk 0 (b::r)).take 1=([b],true,⟨0,r⟩):=take_app [b] r;unfold RdV.byte;rw [h];rfl
theorem num_app {n:Nat} (hn:n<18446744073709551616) (r:List UInt8):(RdV.mk 0 (numL n++r)).num=(n,⟨0,r⟩):=by
 unfold numL;by_cases h:n<248
 ·
  rw [if_pos h];unfold RdV.num;rw [List.singleton_append,byte_app];have e:(UInt8.ofNat n).toNat=n:=by simp;omega
  rw [if_pos (by rw [e];exact h)];simp only [e]
 ·
  rw [if_neg h];have hw:=wid_le n;have hp:=wid_pos (n:=n) (by omega);have e:(UInt8.ofNat (247+wid n)).toNat=247+wid n:=by simp;omega
  have ht:=take_app (bigB (wid n) n) r;rw [bigB_len] at ht;unfold RdV.num;rw [List.cons_append,byte_app];simp only [e];rw [if_neg (by omega),show 247+wid n - 247=wid n by omega];unfold RdV.wide;rw [ht];simp only [if_true];rw [bigN_big _ _ (wid_lt hn),if_neg (by omega)]
theorem below_app {n m:Nat} (hn:n<18446744073709551616) (hm:n<m) (r:List UInt8):(RdV.mk 0 (numL n++r)).below m=(n,⟨0,r⟩):=by
 unfold RdV.below;rw [num_app hn];simp only [if_true];rw [if_pos hm]
theorem str_app' {t:List UInt8} {most:Nat} (ht:t.length≤most) (hm:most<1000000) (r:List UInt8):(RdV.mk 0 (numL t.length++t++r)).str most=(t,⟨0,r⟩):=by
 unfold RdV.str;rw [List.append_assoc,below_app (by omega) (by omega)];simp only [take_app]
theorem str_most (R:RdV) (n:Nat):(R.str n).1.length≤n:=by
 obtain ⟨⟨m,R1⟩,hm⟩:∃ x,R.below (n+1)=x:=⟨_,rfl⟩;have h:m<n+1:=by
  have h1:(R.below (n+1)).1<n+1:=by
   unfold RdV.below;split
   ·
    split
    ·
     assumption
    ·
     exact Nat.succ_pos n
   ·
    exact Nat.succ_pos n
  rw [hm] at h1;exact h1
 unfold RdV.str;rw [hm];show ((R1.take m).1).length≤n;unfold RdV.take;split
 ·
  split
  ·
   simp;omega
  ·
   simp
 ·
  simp
theorem bs_size (l:List UInt8):(⟨l.toArray⟩:ByteArray).size=l.length:=by
 show l.toArray.size=l.length;rw [List.size_toArray]
structure Only (g:Nat) (w w':World):Prop where
 os:w'.os=w.os
 tape:w'.tape=w.tape
 output:w'.output=w.output
 size:w'.heap.size=w.heap.size
 block:∀ k,k≠g→w'.heap[k]?=w.heap[k]?
theorem Only.refl (g:Nat) (w:World):Only g w w:=⟨rfl,rfl,rfl,rfl,fun _ _=>rfl⟩
theorem Only.trans {g:Nat} {a b c:World} (h:Only g a b) (k:Only g b c):Only g a c :=
 ⟨k.os.trans h.os,k.tape.trans h.tape,k.output.trans h.output,k.size.trans h.size,fun i hi=>(k.block i hi).trans (h.block i hi)⟩
theorem Only.below {g n:Nat} {w0 a b:World} (h:Below n w0 a) (k:Only g a b) (hg:n≤g):Below n w0 b :=
 ⟨k.os.trans h.os,k.tape.trans h.tape,k.output.trans h.output,by rw [k.size];exact h.size,fun i hi=>(k.block i (by omega)).trans (h.block i hi)⟩
theorem Only.set (g i:Nat) (w:World) (v:Value):Only g w (w.setCell ⟨g,i,none⟩ v):=by
 have h:=below_setV (x:=v) (i:=i) (b:=g) (Below.refl 0 w) (Nat.zero_le _);refine ⟨h.os,h.tape,h.output,?_,fun k hk=>Below.heap_setCell _ _ _ _ (by exact hk)⟩;unfold World.setCell;split <;> simp
def rdCells (R:RdV):List Value:=[.int .i64 (R.e:Int),.string ⟨R.s.toArray⟩]
structure RdAt (w:World) (g:Nat) (R:RdV):Prop where
 row:w.heap[g]?=some (.cells (rdCells R).toArray 246 (0,0))
 len:R.s.length≤maxLen
theorem RdAt.cells {w:World} {g:Nat} {R:RdV} (h:RdAt w g R):w.cell? ⟨g,0,none⟩=some (.int .i64 (R.e:Int))∧w.cell? ⟨g,1,none⟩=some (.string ⟨R.s.toArray⟩) :=
 ⟨cell_of_row _ _ _ _ _ _ h.row,cell_of_row _ _ _ _ _ _ h.row⟩
theorem RdAt.thawed {w:World} {g:Nat} {R:RdV} (h:RdAt w g R) (j:Nat):w.frozen? ⟨g,j,none⟩=false:=by
 have h:=h.row;simp [World.frozen?,h]
theorem RdAt.lt {w:World} {g:Nat} {R:RdV} (h:RdAt w g R):g<w.heap.size:=(Array.getElem?_eq_some_iff.1 h.row).1
theorem RdAt.below {w w':World} {g:Nat} {R:RdV} (h:RdAt w g R) (hb:Below w.heap.size w w'):RdAt w' g R:=⟨(hb.block g h.lt).trans h.row,h.len⟩
theorem RdAt.other {w w':World} {g q:Nat} {R:RdV} (h:RdAt w g R) (hq:g≠q) (ho:Only q w w'):RdAt w' g R:=⟨(ho.block g hq).trans h.row,h.len⟩
theorem RdAt.err {w:World} {g e:Nat} {s:List UInt8} (h:RdAt w g ⟨e,s⟩) (c:Nat):RdAt (w.setCell ⟨g,0,none⟩ (.int .i64 (c:Int))) g ⟨c,s⟩:=by
 refine ⟨?_,h.len⟩;rw [heap_setCell_same _ _ _ _ _ _ h.row];rfl
theorem RdAt.rest {w:World} {g e:Nat} {s:List UInt8} (h:RdAt w g ⟨e,s⟩) (t:List UInt8) (ht:t.length≤s.length):RdAt (w.setCell ⟨g,1,none⟩ (.string ⟨t.toArray⟩)) g ⟨e,t⟩:=by
 refine ⟨?_,Nat.le_trans ht h.len⟩;rw [heap_setCell_same _ _ _ _ _ _ h.row];rfl
theorem bs_extract (l:List UInt8) (a b:Nat):(⟨l.toArray⟩:ByteArray).extract a b=⟨((l.take b).drop a).toArray⟩:=by
 apply ByteArray.ext
 rw [ByteArray.data_extract];simp [List.drop_take]
set_option maxHeartbeats 4000000 in
theorem fail_any (R:RdV) (c g:Nat) (w:World) (h:RdAt w g R) :
  Calls Tryz.prog 156 #[.pointer (some ⟨g,0,none⟩),.int .i64 (c:Int)] w fun e w'=>e=.returned (.tuple #[])∧RdAt w' g (R.fail c)∧Only g w w':=by
 obtain ⟨e,s⟩:=R;obtain ⟨f0,f1⟩:=h.cells;have f2:=h.thawed 0;unfold RdV.fail;by_cases he:e=0
 ·
  subst he;rw [if_pos rfl];have hh:=h.err c;have H:=Lib.hid h;clear h
  have HH:=Lib.hid (And.intro hh (Only.set g 0 w (.int .i64 (c:Int))));clear hh
  go_enter Tryz.func156,Tryz.ntmps156
  go_wp2_with fail;refine bodyPost_end (results_none rfl _ _ _) rfl ?_;exact ⟨rfl,HH.out.1,HH.out.2⟩
 ·
  rw [if_neg he];have he':((e:Int) == 0)=false:=by rw [beq_eq_false_iff_ne];omega
  have H:=Lib.hid h;clear h
  have HE:=Lib.hid he;clear he
  go_enter Tryz.func156,Tryz.ntmps156
  go_wp2_with fail;refine bodyPost_end (results_none rfl _ _ _) rfl ?_;exact ⟨rfl,H.out,Only.refl _ _⟩
theorem fail_short (R:RdV) (g:Nat) (w:World) (h:RdAt w g R) :
  Calls Tryz.prog 156 #[.pointer (some ⟨g,0,none⟩),.int .i64 3] w fun e w'=>e=.returned (.tuple #[])∧RdAt w' g (R.fail 3)∧Only g w w':=fail_any R 3 g w h
theorem fail_form (R:RdV) (g:Nat) (w:World) (h:RdAt w g R) :
  Calls Tryz.prog 156 #[.pointer (some ⟨g,0,none⟩),.int .i64 4] w fun e w'=>e=.returned (.tuple #[])∧RdAt w' g (R.fail 4)∧Only g w w':=fail_any R 4 g w h
set_option maxHeartbeats 4000000 in
theorem failed_any (R:RdV) (g:Nat) (w:World) (h:RdAt w g R) :
  Calls Tryz.prog 151 #[.pointer (some ⟨g,0,none⟩)] w fun e w'=>e=.returned (.bool (decide (R.e≠0)))∧w=w':=by
 obtain ⟨f0,f1⟩:=h.cells;obtain ⟨b,hb⟩:∃ b,decide (R.e≠0)=b:=⟨_,rfl⟩;have hb':((R.e:Int) != 0)=b:=by
  rw [← hb];by_cases h0:R.e=0
  ·
   simp [h0]
  ·
   have:(R.e:Int)≠0:=by omega
   simp [h0]
 rw [hb];clear h hb;go_enter Tryz.func151,Tryz.ntmps151
 go_wp2_with fail;go_ret;exact ⟨rfl,rfl⟩
theorem take_str (l:List UInt8) (n:Nat):(⟨l.toArray⟩:ByteArray).extract 0 n=⟨(l.take n).toArray⟩∧(⟨l.toArray⟩:ByteArray).extract n l.length=⟨(l.drop n).toArray⟩:=by
 refine ⟨by rw [bs_extract];simp,by rw [bs_extract];simp⟩
set_option maxHeartbeats 8000000 in
theorem take_any (R:RdV) (n:Nat) (_:n<18446744073709551616) (g:Nat) (w:World) (h:RdAt w g R) :
  Calls Tryz.prog 150 #[.pointer (some ⟨g,0,none⟩),.int .u64 (n:Int)] w fun e w'=>e=.returned (.tuple #[.string ⟨(R.take n).1.toArray⟩,.bool (R.take n).2.1])∧RdAt w' g (R.take n).2.2∧Only g w w':=by
 have hfd:=failed_any R g w h;obtain ⟨e,s⟩:=R;have hlen:=h.len;unfold maxLen at hlen;simp only at hlen hfd;obtain ⟨f0,f1⟩:=h.cells;simp only at f0 f1;have f3:=h.thawed 1;unfold RdV.take;by_cases he:e=0
 ·
  subst he;have hfd:Calls Tryz.prog 151 #[.pointer (some ⟨g,0,none⟩)] w fun e w'=>e=.returned (.bool false)∧w=w':=hfd
  simp only [if_true];have Hfd:=Lib.hid hfd;clear hfd
  have hsz:=bs_size s;have hwrap:IntKind.u64.wrap (s.length:Int)=(s.length:Int):=by rw [IntKind.wrap_u64];omega
  by_cases hs:n≤s.length
  ·
   rw [if_pos hs];obtain ⟨t1,t2⟩:=take_str s n;have hs' : ¬ (s.length:Int)<(n:Int):=by omega
   have HH:=Lib.hid (And.intro (h.rest (s.drop n) (by simp)) (Only.set g 1 w (.string ⟨(s.drop n).toArray⟩)));have H:=Lib.hid h;clear h
   go_enter Tryz.func150,Tryz.ntmps150
   go_wp2_with ((with_reducible refine Hfd.out.mono ?_);rintro e w' ⟨rfl,rfl⟩);refine bodyPost_ret (v:=.tuple #[.string ⟨(s.take n).toArray⟩,.bool true]) (by simp [results,Tryz.results150,go_sem]) rfl ?_;exact ⟨rfl,HH.out.1,HH.out.2⟩
  ·
   rw [if_neg hs];have hs':(s.length:Int)<(n:Int):=by omega
   have hfl:=fail_short ⟨0,s⟩ g w h;have Hfl:=Lib.hid hfl;clear hfl
   have H:=Lib.hid h;clear h
   go_enter Tryz.func150,Tryz.ntmps150
   go_wp2_with (first
    | ((with_reducible refine Hfd.out.mono ?_);rintro e w' ⟨rfl,rfl⟩)
    | ((with_reducible refine Hfl.out.mono ?_);rintro e w2 ⟨rfl,h2⟩;have H2:=Lib.hid h2;clear h2))
   refine bodyPost_ret (v:=.tuple #[Value.string ⟨#[]⟩,.bool false]) (by simp [results,Tryz.results150,go_sem]) rfl ?_;exact ⟨rfl,H2.out⟩
 ·
  have hfd:Calls Tryz.prog 151 #[.pointer (some ⟨g,0,none⟩)] w fun e w'=>e=.returned (.bool true)∧w=w':=by simpa [he] using hfd
  rw [if_neg he];have Hfd:=Lib.hid hfd;clear hfd
  have H:=Lib.hid h;clear h
  go_enter Tryz.func150,Tryz.ntmps150
  go_wp2_with ((with_reducible refine Hfd.out.mono ?_);rintro e w' ⟨rfl,rfl⟩);refine bodyPost_ret (v:=.tuple #[Value.string ⟨#[]⟩,.bool false]) (by simp [results,Tryz.results150,go_sem]) rfl ?_;exact ⟨rfl,H.out,Only.refl _ _⟩
set_option maxHeartbeats 8000000 in
theorem byte_any (R:RdV) (g:Nat) (w:World) (h:RdAt w g R) :
  Calls Tryz.prog 97 #[.pointer (some ⟨g,0,none⟩)] w fun e w'=>e=.returned (.int .u8 (R.byte.1.toNat:Int))∧RdAt w' g R.byte.2∧Only g w w':=by
 have ht:Calls Tryz.prog 150 #[.pointer (some ⟨g,0,none⟩),.int .u64 1] w fun e w'=>e=.returned (.tuple #[.string ⟨(R.take 1).1.toArray⟩,.bool (R.take 1).2.1])∧RdAt w' g (R.take 1).2.2∧Only g w w':=take_any R 1 (by omega) g w h
 clear h;unfold RdV.byte;have hcase:((R.take 1).2.1=true∧(R.take 1).1.length=1)∨((R.take 1).2.1=false∧(R.take 1).1=[]):=by
  unfold RdV.take;split
  ·
   split
   ·
    exact .inl ⟨rfl,by simp;omega⟩
   ·
    exact .inr ⟨rfl,rfl⟩
  ·
   exact .inr ⟨rfl,rfl⟩
 generalize R.take 1=X at *;obtain ⟨t,b,R2⟩:=X;simp only at ht hcase ⊢;rcases hcase with ⟨rfl,hl⟩ | ⟨rfl,rfl⟩
 ·
  match t,hl with
  | [x],_ =>
   have Ht:=Lib.hid ht;clear ht
   go_enter Tryz.func97,Tryz.ntmps97
   go_wp2_with ((with_reducible refine Ht.out.mono ?_);rintro e w2 ⟨rfl,h2⟩;have H2:=Lib.hid h2;clear h2);go_ret;exact ⟨rfl,H2.out⟩
 ·
  have Ht:=Lib.hid ht;clear ht
  go_enter Tryz.func97,Tryz.ntmps97
  go_wp2_with ((with_reducible refine Ht.out.mono ?_);rintro e w2 ⟨rfl,h2⟩;have H2:=Lib.hid h2;clear h2);go_ret;exact ⟨rfl,H2.out⟩
set_option maxHeartbeats 4000000 in
theorem bad_any (R:RdV) (g:Nat) (w:World) (h:RdAt w g R) :
  Calls Tryz.prog 152 #[.pointer (some ⟨g,0,none⟩)] w fun e w'=>e=.returned (.tuple #[])∧RdAt w' g (R.fail 4)∧Only g w w':=by
 have Hfl:=Lib.hid (fail_form R g w h);clear h
 go_enter Tryz.func152,Tryz.ntmps152
 go_wp2_with ((with_reducible refine Hfl.out.mono ?_);rintro e w2 ⟨rfl,h2⟩;have H2:=Lib.hid h2;clear h2);refine bodyPost_end (results_none rfl _ _ _) rfl ?_;exact ⟨rfl,H2.out⟩
set_option maxHeartbeats 4000000 in
theorem err_any (R:RdV) (g:Nat) (w:World) (h:RdAt w g R) :
  Calls Tryz.prog 89 #[.pointer (some ⟨g,0,none⟩)] w fun e w'=>e=.returned (.int .i64 (R.e:Int))∧w=w':=by
 obtain ⟨f0,f1⟩:=h.cells;clear h;go_enter Tryz.func89,Tryz.ntmps89
 go_wp2_with fail;go_ret;exact ⟨rfl,rfl⟩
def RdV.end_ (R:RdV):RdV:=if R.s=[] then R else R.fail 4
set_option maxHeartbeats 4000000 in
theorem end_any (R:RdV) (g:Nat) (w:World) (h:RdAt w g R) :
  Calls Tryz.prog 102 #[.pointer (some ⟨g,0,none⟩)] w fun e w'=>e=.returned (.int .i64 (R.end_.e:Int))∧RdAt w' g R.end_∧Only g w w':=by
 have hsz:=bs_size R.s;unfold RdV.end_;by_cases hs:R.s=[]
 ·
  rw [if_pos hs];have hl:R.s.length=0:=by rw [hs];rfl
  obtain ⟨f0,f1⟩:=h.cells;have H:=Lib.hid h;clear h
  rw [hl] at hsz;have hlt : ¬ (0:Int)<0:=by omega
  have Hs:=Lib.hid hs;clear hs hl
  go_enter Tryz.func102,Tryz.ntmps102
  go_wp2_with fail;go_ret;exact ⟨rfl,H.out,Only.refl _ _⟩
 ·
  rw [if_neg hs];have hl:0<R.s.length:=List.length_pos_iff.2 hs;have hl':(0:Int)<(R.s.length:Int):=by omega
  obtain ⟨f0,f1⟩:=h.cells;have Hfl:=Lib.hid (fail_form R g w h);clear h hs hl;go_enter Tryz.func102,Tryz.ntmps102
  go_wp2_with ((with_reducible refine Hfl.out.mono ?_);rintro e w2 ⟨rfl,h2⟩;have H2:=Lib.hid h2;obtain ⟨k0,k1⟩:=h2.1.cells;clear h2 f0 f1);go_ret;exact ⟨rfl,H2.out⟩
theorem bigN_take {l:List UInt8} {i:Nat} (hi:i<l.length):bigN (l.take (i+1))=bigN (l.take i)*256+(l.getD i 0).toNat:=by
 rw [List.take_succ_eq_append_getElem hi,bigN_snoc];simp [List.getD,List.getElem?_eq_getElem hi]
theorem bigN_small {l:List UInt8} {i:Nat} (hl:l.length≤8) (hi:i<l.length):bigN (l.take i)<72057594037927936:=by
 have h:=bigN_lt (l.take i);rw [List.length_take] at h;have h2:(256:Nat) ^ min i l.length≤256 ^ 7:=Nat.pow_le_pow_right (by omega) (by omega);have h3:(256:Nat) ^ 7=72057594037927936:=by decide
 omega
theorem bigN_most {l:List UInt8} (hl:l.length≤8):bigN l<18446744073709551616:=by
 have h:=bigN_lt l;have h2:(256:Nat) ^ l.length≤256 ^ 8:=Nat.pow_le_pow_right (by omega) (by omega);have h3:(256:Nat) ^ 8=18446744073709551616:=by decide
 omega
theorem take_cases (R:RdV) (n:Nat):((R.take n).2.1=true∧(R.take n).1.length=n)∨((R.take n).2.1=false∧(R.take n).1=[]):=by
 unfold RdV.take;split
 ·
  split
  ·
   exact .inl ⟨rfl,by simp;omega⟩
  ·
   exact .inr ⟨rfl,rfl⟩
 ·
  exact .inr ⟨rfl,rfl⟩
theorem or_bv (x y:BitVec 64):bits .or .u64 (x.toNat:Int) (y.toNat:Int)=((x ||| y).toNat:Int):=by
 have h:∀ z:BitVec 64,BitVec.ofInt 64 (z.toNat:Int)=z:=fun z=>by rw [BitVec.ofInt_natCast];simp
 show IntKind.u64.wrap ((BitVec.ofInt 64 (x.toNat:Int) ||| BitVec.ofInt 64 (y.toNat:Int)).toNat:Int)=_;rw [h,h,IntKind.wrap_u64];have:=(x ||| y).isLt;omega
theorem or_add (n b:Nat) (hn:n<72057594037927936) (hb:b<256):bits BinOp.or IntKind.u64 ((n:Int)*256) (IntKind.u64.wrap (b:Int))=((n*256+b:Nat):Int):=by
 have h:=or_bv (BitVec.ofNat 64 (n*256)) (BitVec.ofNat 64 b);have e1:(BitVec.ofNat 64 (n*256)).toNat=n*256:=by simp;omega
 have e2:(BitVec.ofNat 64 b).toNat=b:=by simp;omega
 rw [BitVec.toNat_or,e1,e2] at h;rw [IntKind.wrap_u64,show ((n:Int)*256)=((n*256:Nat):Int) by omega,show (b:Int) % 18446744073709551616=(b:Int) by omega,h];congr 1
 rw [show n*256=2 ^ 8*n by omega];exact (Nat.two_pow_add_eq_or_of_lt hb n).symm
theorem rnumber_any (R:RdV) (g:Nat) (w:World) (h:RdAt w g R) :
  Calls Tryz.prog 173 #[.pointer (some ⟨g,0,none⟩)] w fun e w'=>e=.returned (.int .u64 (R.num.1:Int))∧RdAt w' g R.num.2∧Only g w w':=by
 have hb:=byte_any R g w h;unfold RdV.num;clear h;obtain ⟨⟨b,R1⟩,hB⟩:∃ x,R.byte=x:=⟨_,rfl⟩;rw [hB] at hb ⊢;simp only at hb ⊢;clear hB;have hb8:=b.toNat_lt;obtain ⟨n,hn⟩:∃ n,b.toNat=n:=⟨_,rfl⟩;rw [hn] at hb hb8 ⊢;clear hn;have Hb:=Lib.hid hb;clear hb
 by_cases h248:n<248
 ·
  rw [if_pos h248];have hlt':(n:Int)<248:=by omega
  have hwrap:IntKind.u64.wrap (n:Int)=(n:Int):=by rw [IntKind.wrap_u64];omega
  clear hb8 h248;go_enter Tryz.func173,Tryz.ntmps173
  go_wp2_with ((with_reducible refine Hb.out.mono ?_);rintro e w2 ⟨rfl,h2⟩;have H2:=Lib.hid h2;clear h2);go_ret;exact ⟨rfl,H2.out⟩
 ·
  rw [if_neg h248];have hlt' : ¬ (n:Int)<248:=by omega
  obtain ⟨k,hk⟩:∃ k,n=k+247:=⟨n - 247,by omega⟩;subst hk;rw [show k+247 - 247=k by omega];have hk8:k≤8:=by omega
  have hsub:IntKind.i64.wrap (((k+247:Nat):Int) - 247)=(k:Int):=by rw [IntKind.wrap_i64];omega
  have hwr1:IntKind.i64.wrap ((k+247:Nat):Int)=((k+247:Nat):Int):=by rw [IntKind.wrap_i64];omega
  have hwr2:IntKind.u64.wrap (k:Int)=(k:Int):=by rw [IntKind.wrap_u64];omega
  have Ht:=Lib.hid (fun (y:World) (hy:RdAt y g R1)=>take_any R1 k (by omega) g y hy);unfold RdV.wide;have hcase:=take_cases R1 k;generalize R1.take k=X at *;obtain ⟨t,ok,R2⟩:=X;simp only at Ht hcase ⊢;clear hb8 h248;obtain ⟨m,hm⟩:∃ m:Int,((k+247:Nat):Int)=m:=⟨_,rfl⟩;rw [hm] at Hb hlt' hsub hwr1;clear hm;rcases hcase with ⟨rfl,hl⟩ | ⟨rfl,rfl⟩
  ·
   simp only [if_true];obtain ⟨⟨rn,RR⟩,hres⟩:∃ x,(if bigN t<248∨wid (bigN t)≠k then (0,R2.fail 4) else (bigN t,R2))=x:=⟨_,rfl⟩;rw [hres];have Hres:=Lib.hid hres;clear hres
   have hk1:(k:Int)≤8:=by omega
   go_enter Tryz.func173,Tryz.ntmps173
   go_upto_region 9 with (first
    | ((with_reducible refine Hb.out.mono ?_);rintro e w2 ⟨rfl,h2⟩;have H2:=Lib.hid h2;clear h2 Hb)
    | ((with_reducible refine (Ht.out _ H2.out.1).mono ?_);rintro e w3 ⟨rfl,h3⟩;have H3:=Lib.hid (And.intro h3.1 (H2.out.2.trans h3.2));clear h3 H2 Ht))
   go_wp2_with fail;go_loopw [7,28] (fun s7 s28 wr=>∃ i:Nat,i≤k∧s28=.int .i64 (i:Int)∧s7=.int .u64 (bigN (t.take i):Int)∧w3=wr) (fun _ s28 _=>k - (intOf s28).toNat)
   case atStart=>exact ⟨0,by omega,rfl,rfl,rfl⟩
   case round =>
    obtain ⟨i,hi,rfl,rfl,rfl⟩:=hrel;by_cases hlt:i<k
    ·
     have hlt2:(i:Int)<(k:Int):=by omega
     have hsucc:=tsucc (n:=i) (by omega);have hst:=bigN_take (l:=t) (i:=i) (by omega);have hsm:=bigN_small (l:=t) (i:=i) (by omega) (by omega);have hch:(⟨t.toArray⟩:ByteArray).size=k:=by rw [bs_size];exact hl
     have hor:=or_add (bigN (t.take i)) (t.getD i 0).toNat hsm (t.getD i 0).toNat_lt;have hix:(⟨t.toArray⟩:ByteArray)[i]'(by rw [hch];exact hlt)=t.getD i 0:=by
      show t.toArray[i]'(by simp;omega)=_;simp [List.getD,List.getElem?_eq_getElem (show i<t.length by omega)]
     rw [← hst] at hor;rw [← hix] at hor;clear hst hix;go_wp2_with fail;refine ⟨⟨i+1,hlt,by simp,?_,trivial⟩,by simp [intOf];omega⟩;rw [← hor]
    ·
     have hlt2 : ¬ (i:Int)<(k:Int):=by omega
     have hall:t.take i=t:=List.take_of_length_le (by omega);rw [hall];have hb64:=bigN_most (l:=t) (by omega);obtain ⟨N,hN⟩:∃ N,bigN t=N:=⟨_,rfl⟩;have hq:=Hres.out;rw [hN] at hb64 hq;have Hwd:=Lib.hid (fun y:World=>width_any N (by omega) y);have Hfl:=Lib.hid (fun (y:World) (hy:RdAt y g R2)=>fail_form R2 g y hy);obtain ⟨v,hv⟩:∃ v,wid N=v:=⟨_,rfl⟩;rw [hv] at Hwd hq;clear hb64 hall hv;have HN:=Lib.hid hN;clear hN
     by_cases c1:N<248
     ·
      have c1':(N:Int)<248:=by omega
      rw [if_pos (.inl c1)] at hq;cases hq
      rw [HN.out];clear c1;go_wp2_with (first
       | ((with_reducible refine (Hwd.out _).mono ?_);rintro e w' ⟨rfl,rfl⟩)
       | ((with_reducible refine (Hfl.out _ H3.out.1).mono ?_);rintro e w4 ⟨rfl,h4⟩;have H4:=Lib.hid (And.intro h4.1 (H3.out.2.trans h4.2));clear h4))
      go_ret;exact ⟨rfl,H4.out⟩
     ·
      have c1' : ¬ (N:Int)<248:=by omega
      by_cases c2:v=k
      ·
       subst c2;rw [if_neg (by omega)] at hq;cases hq
       rw [HN.out];clear c1;go_wp2_with ((with_reducible refine (Hwd.out _).mono ?_);rintro e w' ⟨rfl,rfl⟩);go_ret;exact ⟨rfl,H3.out⟩
      ·
       have c2':((v:Int) != (k:Int))=true:=by rw [bne_iff_ne];omega
       rw [if_pos (.inr c2)] at hq;cases hq
       rw [HN.out];have C2:=Lib.hid c2;clear c1 c2
       go_wp2_with (first
        | ((with_reducible refine (Hwd.out _).mono ?_);rintro e w' ⟨rfl,rfl⟩)
        | ((with_reducible refine (Hfl.out _ H3.out.1).mono ?_);rintro e w4 ⟨rfl,h4⟩;have H4:=Lib.hid (And.intro h4.1 (H3.out.2.trans h4.2));clear h4))
       go_ret;exact ⟨rfl,H4.out⟩
  ·
   simp only [Bool.false_eq_true,if_false];go_enter Tryz.func173,Tryz.ntmps173
   go_wp2_with (first
    | ((with_reducible refine Hb.out.mono ?_);rintro e w2 ⟨rfl,h2⟩;have H2:=Lib.hid h2;clear h2 Hb)
    | ((with_reducible refine (Ht.out _ H2.out.1).mono ?_);rintro e w3 ⟨rfl,h3⟩;have H3:=Lib.hid (And.intro h3.1 (H2.out.2.trans h3.2));clear h3 H2 Ht))
   go_ret;exact ⟨rfl,H3.out⟩
theorem rnum_lt (R:RdV):R.num.1<18446744073709551616:=by
 unfold RdV.num;have hb:=R.byte.1.toNat_lt;split
 ·
  show R.byte.1.toNat<_;omega
 ·
  unfold RdV.wide;rcases take_cases R.byte.2 (R.byte.1.toNat - 247) with ⟨h1,h2⟩ | ⟨h1,h2⟩
  ·
   rw [if_pos h1];split
   ·
    show 0<_;omega
   ·
    exact bigN_most (by omega)
  ·
   rw [h1];simp
theorem below_lt (R:RdV) (n:Nat) (hn:0<n):(R.below n).1<n:=by
 unfold RdV.below;split
 ·
  split
  ·
   assumption
  ·
   exact hn
 ·
  exact hn
set_option maxHeartbeats 8000000 in
theorem below_any (R:RdV) (n g:Nat) (w:World) (h:RdAt w g R) :
  Calls Tryz.prog 149 #[.pointer (some ⟨g,0,none⟩),.int .u64 (n:Int)] w fun e w'=>e=.returned (.int .u64 ((R.below n).1:Int))∧RdAt w' g (R.below n).2∧Only g w w':=by
 have hb:=rnumber_any R g w h;have hlt:=rnum_lt R;unfold RdV.below;clear h;generalize R.num=X at *;obtain ⟨v,R1⟩:=X;simp only at hb hlt ⊢;have hwrap:IntKind.u64.wrap (v:Int)=(v:Int):=by rw [IntKind.wrap_u64];omega
 clear hlt;have Hb:=Lib.hid hb;clear hb
 obtain ⟨b,hbe⟩:∃ b,decide (R1.e≠0)=b:=⟨_,rfl⟩;have Hfd:=Lib.hid (fun (y:World) (hy:RdAt y g R1)=>(show Calls Tryz.prog 151 #[.pointer (some ⟨g,0,none⟩)] y fun e w'=>e=.returned (.bool b)∧y=w' by rw [← hbe];exact failed_any R1 g y hy));have Hfl:=Lib.hid (fun (y:World) (hy:RdAt y g R1)=>fail_form R1 g y hy);by_cases he:R1.e=0
 ·
  rw [if_pos he];have hb0:b=false:=by rw [← hbe];simp [he]
  subst hb0;clear hbe he;by_cases hv:v<n
  ·
   have hv' : ¬ (n:Int)≤(v:Int):=by omega
   rw [if_pos hv];go_enter Tryz.func149,Tryz.ntmps149
   go_wp2_with (first
    | ((with_reducible refine Hb.out.mono ?_);rintro e w2 ⟨rfl,h2⟩;have H2:=Lib.hid h2;clear h2 Hb)
    | ((with_reducible refine (Hfd.out _ H2.out.1).mono ?_);rintro e w' ⟨rfl,rfl⟩))
   go_ret;exact ⟨rfl,H2.out⟩
  ·
   have hv':(n:Int)≤(v:Int):=by omega
   rw [if_neg hv];go_enter Tryz.func149,Tryz.ntmps149
   go_wp2_with (first
    | ((with_reducible refine Hb.out.mono ?_);rintro e w2 ⟨rfl,h2⟩;have H2:=Lib.hid h2;clear h2 Hb)
    | ((with_reducible refine (Hfd.out _ H2.out.1).mono ?_);rintro e w' ⟨rfl,rfl⟩)
    | ((with_reducible refine (Hfl.out _ H2.out.1).mono ?_);rintro e w4 ⟨rfl,h4⟩;have H4:=Lib.hid (And.intro h4.1 (H2.out.2.trans h4.2));clear h4))
   go_ret;exact ⟨rfl,H4.out⟩
 ·
  rw [if_neg he];have hb0:b=true:=by rw [← hbe];simp [he]
  subst hb0;clear hbe he;go_enter Tryz.func149,Tryz.ntmps149
  go_wp2_with (first
   | ((with_reducible refine Hb.out.mono ?_);rintro e w2 ⟨rfl,h2⟩;have H2:=Lib.hid h2;clear h2 Hb)
   | ((with_reducible refine (Hfd.out _ H2.out.1).mono ?_);rintro e w' ⟨rfl,rfl⟩))
  go_ret;exact ⟨rfl,H2.out⟩
set_option maxHeartbeats 4000000 in
theorem rbelow_any (R:RdV) (n g:Nat) (w:World) (h:RdAt w g R) :
  Calls Tryz.prog 153 #[.pointer (some ⟨g,0,none⟩),.int .u64 (n:Int)] w fun e w'=>e=.returned (.int .u64 ((R.below n).1:Int))∧RdAt w' g (R.below n).2∧Only g w w':=by
 have Hb:=Lib.hid (below_any R n g w h);clear h
 go_enter Tryz.func153,Tryz.ntmps153
 go_wp2_with ((with_reducible refine Hb.out.mono ?_);rintro e w2 ⟨rfl,h2⟩;have H2:=Lib.hid h2;clear h2 Hb);go_ret;exact ⟨rfl,H2.out⟩
set_option maxHeartbeats 4000000 in
theorem rstr2_any (R:RdV) (m g:Nat) (hm:m<1000000) (w:World) (h:RdAt w g R) :
  Calls Tryz.prog 88 #[.pointer (some ⟨g,0,none⟩),.int .i64 (m:Int)] w fun e w'=>e=.returned (.string ⟨(R.str m).1.toArray⟩)∧RdAt w' g (R.str m).2∧Only g w w':=by
 have hb:Calls Tryz.prog 149 #[.pointer (some ⟨g,0,none⟩),.int .u64 ((m:Int)+1)] w fun e w'=>e=.returned (.int .u64 ((R.below (m+1)).1:Int))∧RdAt w' g (R.below (m+1)).2∧Only g w w':=below_any R (m+1) g w h
 have hlt:=below_lt R (m+1) (by omega);clear h;unfold RdV.str;generalize R.below (m+1)=X at *;obtain ⟨n,R1⟩:=X;simp only at hb hlt ⊢;have Ht:=Lib.hid (fun (y:World) (hy:RdAt y g R1)=>take_any R1 n (by omega) g y hy);generalize R1.take n=Y at *;obtain ⟨t,ok,R2⟩:=Y;simp only at Ht ⊢;have hw1:IntKind.u64.wrap (m:Int)=(m:Int):=by rw [IntKind.wrap_u64];omega
 have hw2:IntKind.u64.wrap ((m:Int)+1)=((m+1:Nat):Int):=by rw [IntKind.wrap_u64];omega
 have hmx:max (m:Int) 0=(m:Int):=by omega
 have Hb:=Lib.hid hb;clear hb hlt
 go_enter Tryz.func88,Tryz.ntmps88
 go_wp2_with (first
  | ((with_reducible refine Hb.out.mono ?_);rintro e w2 ⟨rfl,h2⟩;have H2:=Lib.hid h2;clear h2 Hb)
  | ((with_reducible refine (Ht.out _ H2.out.1).mono ?_);rintro e w3 ⟨rfl,h3⟩;have H3:=Lib.hid (And.intro h3.1 (H2.out.2.trans h3.2));clear h3 H2 Ht))
 go_ret;exact ⟨rfl,H3.out⟩
theorem tab_cell {w:World} {g:Nat} {t:TabV} (h:TabAt w g t) {i:Nat} (hi:i<4):w.cell? ⟨g,i*3,none⟩=some (.int .u32 ((t.at_ i).seq.toNat:Int))∧w.cell? ⟨g,i*3+1,none⟩=some (.int .u8 ((t.at_ i).code:Int))∧w.cell? ⟨g,i*3+2,none⟩=some (.string (t.at_ i).text):=by
 obtain ⟨⟨a0,a1,a2⟩,⟨b0,b1,b2⟩,⟨c0,c1,c2⟩,⟨d0,d1,d2⟩⟩:=h.cells;have h1:i=0∨i=1∨i=2∨i=3:=by omega
 rcases h1 with rfl | rfl | rfl | rfl
 ·
  exact ⟨a0,a1,a2⟩
 ·
  exact ⟨b0,b1,b2⟩
 ·
  exact ⟨c0,c1,c2⟩
 ·
  exact ⟨d0,d1,d2⟩
theorem TabAt.below' {w w':World} {g:Nat} {t:TabV} (h:TabAt w g t) (hb:Below w.heap.size w w'):TabAt w' g t:=(hb.block g (Array.getElem?_eq_some_iff.1 h).1).trans h
def RdV.lastP (R:RdV):LastV × RdV :=
 if (R.below 4294967296).1=0 then (lastNone,(R.below 4294967296).2)
 else (⟨BitVec.ofNat 32 (R.below 4294967296).1,(R.below 4294967296).2.byte.1.toNat,⟨((R.below 4294967296).2.byte.2.str 64).1.toArray⟩⟩,((R.below 4294967296).2.byte.2.str 64).2)
def RdV.last (R:RdV):LastV × RdV:=(R.lastP.1,if 3<R.lastP.1.code then R.lastP.2.fail 4 else R.lastP.2)
def RdV.tabP (R:RdV):Nat→TabV × RdV
 | 0=>(tabNone,R)
 | i+1=>((R.tabP i).1.put i (R.tabP i).2.last.1,(R.tabP i).2.last.2)
def RdV.tab (R:RdV):TabV × RdV:=(if (R.tabP 4).2.e=0 then (R.tabP 4).1 else tabNone,(R.tabP 4).2)
structure But (g n:Nat) (w w':World):Prop where
 os:w'.os=w.os
 tape:w'.tape=w.tape
 output:w'.output=w.output
 size:w.heap.size≤w'.heap.size
 block:∀ k,k<n→k≠g→w'.heap[k]?=w.heap[k]?
theorem But.refl (g n:Nat) (w:World):But g n w w:=⟨rfl,rfl,rfl,Nat.le_refl _,fun _ _ _=>rfl⟩
theorem But.trans {g n:Nat} {a b c:World} (h:But g n a b) (k:But g n b c):But g n a c :=
 ⟨k.os.trans h.os,k.tape.trans h.tape,k.output.trans h.output,Nat.le_trans h.size k.size,fun i hi hg=>(k.block i hi hg).trans (h.block i hi hg)⟩
theorem But.mono {g n m:Nat} {a b:World} (h:But g n a b) (hm:m≤n):But g m a b:=⟨h.os,h.tape,h.output,h.size,fun k hk hg=>h.block k (by omega) hg⟩
theorem Only.but {g:Nat} {a b:World} (h:Only g a b) (n:Nat):But g n a b:=⟨h.os,h.tape,h.output,by rw [h.size];exact Nat.le_refl _,fun k _ hg=>h.block k hg⟩
theorem but_of {n:Nat} {a b:World} (h:Below n a b) (g:Nat):But g n a b:=⟨h.os,h.tape,h.output,h.size,fun k hk _=>h.block k hk⟩
theorem But.below {g n:Nat} {a b:World} (h:But g n a b) (hg:n≤g):Below n a b:=⟨h.os,h.tape,h.output,h.size,fun k hk=>h.block k hk (by omega)⟩
def LastRow (w:World) (g:Nat) (x:LastV):Prop:=w.heap[g]?=some (.cells (lastCells x).toArray 29 (0,0))
theorem LastRow.cells {w:World} {g:Nat} {x:LastV} (h:LastRow w g x):w.cell? ⟨g,0,none⟩=some (.int .u32 (x.seq.toNat:Int))∧w.cell? ⟨g,1,none⟩=some (.int .u8 (x.code:Int))∧w.cell? ⟨g,2,none⟩=some (.string x.text) :=
 ⟨cell_of_row _ _ _ _ _ _ h,cell_of_row _ _ _ _ _ _ h,cell_of_row _ _ _ _ _ _ h⟩
theorem LastRow.lt {w:World} {g:Nat} {x:LastV} (h:LastRow w g x):g<w.heap.size:=(Array.getElem?_eq_some_iff.1 h).1
theorem LastRow.thawed {w:World} {g:Nat} {x:LastV} (h:LastRow w g x) (j:Nat):w.frozen? ⟨g,j,none⟩=false:=by
 unfold LastRow at h;simp [World.frozen?,h]
theorem LastRow.only {w w':World} {g q:Nat} {x:LastV} (h:LastRow w g x) (hq:g≠q) (ho:Only q w w'):LastRow w' g x:=(ho.block g hq).trans h
theorem LastRow.code {w:World} {g:Nat} {x:LastV} (h:LastRow w g x) (c:Nat):LastRow (w.setCell ⟨g,1,none⟩ (.int .u8 (c:Int))) g ⟨x.seq,c,x.text⟩:=by
 unfold LastRow at *
 rw [heap_setCell_same _ _ _ _ _ _ h];rfl
theorem LastRow.text {w:World} {g:Nat} {x:LastV} (h:LastRow w g x) (t:ByteArray):LastRow (w.setCell ⟨g,2,none⟩ (.string t)) g ⟨x.seq,x.code,t⟩:=by
 unfold LastRow at *
 rw [heap_setCell_same _ _ _ _ _ _ h];rfl
theorem RdAt.set {w:World} {g q i:Nat} {R:RdV} {v:Value} (h:RdAt w g R) (hq:g≠q):RdAt (w.setCell ⟨q,i,none⟩ v) g R:=h.other hq (Only.set q i w v)
structure TkI (w0:World) (g:Nat) (R:RdV) (t:TabV) (w:World):Prop where
 r:RdAt w g R
 z:TabAt w w0.heap.size tabNone
 t:TabAt w (w0.heap.size+1) t
 but:But g w0.heap.size w0 w
 lt:g<w0.heap.size
theorem TkI.only {w0 w w':World} {g:Nat} {R R':RdV} {t:TabV} (h:TkI w0 g R t w) (hr:RdAt w' g R') (ho:Only g w w'):TkI w0 g R' t w' :=
 ⟨hr,(ho.block _ (by have:=h.lt;omega)).trans h.z,(ho.block _ (by have:=h.lt;omega)).trans h.t,h.but.trans (ho.but _),h.lt⟩
theorem TkI.below {w0 w w':World} {g:Nat} {R:RdV} {t:TabV} (h:TkI w0 g R t w) (hb:Below w.heap.size w w'):TkI w0 g R t w' :=
 ⟨h.r.below hb,(hb.block _ (Array.getElem?_eq_some_iff.1 h.z).1).trans h.z,(hb.block _ (Array.getElem?_eq_some_iff.1 h.t).1).trans h.t,h.but.trans (but_of (hb.mono h.but.size) g),h.lt⟩
theorem TkI.set {w0 w:World} {g q i:Nat} {R:RdV} {t:TabV} {v:Value} (h:TkI w0 g R t w) (hq:w0.heap.size+1<q):TkI w0 g R t (w.setCell ⟨q,i,none⟩ v) :=
 ⟨h.r.set (by have:=h.lt;omega),h.z.other (by omega),h.t.other (by omega),h.but.trans (but_of (below_setV (b:=q) (Below.refl w0.heap.size w) (by omega)) g),h.lt⟩
theorem TkI.put {w0 w:World} {g i:Nat} {R:RdV} {t:TabV} (h:TkI w0 g R t w) (hi:i<4) (x:LastV):TkI w0 g R (t.put i x) (lastSt w (w0.heap.size+1) i x) :=
 ⟨((h.r.set (by have:=h.lt;omega)).set (by have:=h.lt;omega)).set (by have:=h.lt;omega),((h.z.other (by omega)).other (by omega)).other (by omega),lastSt_at h.t hi x,
  h.but.trans (but_of (below_setV (b:=w0.heap.size+1) (below_setV (b:=w0.heap.size+1) (below_setV (b:=w0.heap.size+1) (Below.refl w0.heap.size w) (by omega)) (by omega)) (by omega)) g),h.lt⟩
theorem take12_any (R:RdV) (g:Nat) (w:World) (h:RdAt w g R) :
  Calls Tryz.prog 114 #[.pointer (some ⟨g,0,none⟩)] w fun e w'=>e=.returned (.agg (tabCells R.tab.1).toArray)∧RdAt w' g R.tab.2∧But g w.heap.size w w':=by
 have hI:TkI w g R tabNone ((w.alloc (.cells (tabCells tabNone).toArray 31)).alloc (.cells (tabCells tabNone).toArray 31)):=by
  have s0:(w.alloc (.cells (tabCells tabNone).toArray 31)).heap.size=w.heap.size+1:=by simp
  have b1:=(Below.refl w.heap.size w).alloc (Nat.le_refl _) (.cells (tabCells tabNone).toArray 31);have t0:TabAt (w.alloc (.cells (tabCells tabNone).toArray 31)) w.heap.size tabNone:=heap_alloc_new _ _;have b2:=(Below.refl _ (w.alloc (.cells (tabCells tabNone).toArray 31))).alloc (Nat.le_refl _) (.cells (tabCells tabNone).toArray 31);exact ⟨(h.below b1).below b2,(b2.block _ (Array.getElem?_eq_some_iff.1 t0).1).trans t0,by rw [← s0];exact heap_alloc_new _ _,but_of (b1.trans (b2.mono b1.size)) g,h.lt⟩
 obtain ⟨tE,hE⟩:∃ t,R.tab=t:=⟨_,rfl⟩;rw [hE];have HE:=Lib.hid hE;clear hE h
 have HI:=Lib.hid hI;clear hI
 go_enter Tryz.func114,Tryz.ntmps114
 go_upto_region 2 with fail;change Code.wp _ _ _ _ ((w.alloc (.cells (tabCells tabNone).toArray 31)).alloc (.cells (tabCells tabNone).toArray 31));generalize (w.alloc (.cells (tabCells tabNone).toArray 31)).alloc (.cells (tabCells tabNone).toArray 31)=w1 at *;go_wp2_with fail;go_loopw [6] (fun s6 wr=>∃ i:Nat,i≤4∧s6=.int .i64 (i:Int)∧TkI w g (R.tabP i).2 (R.tabP i).1 wr) (fun s6 _=>4 - (intOf s6).toNat)
 case atStart=>exact ⟨0,by omega,rfl,HI.out⟩
 case round =>
  clear HI;obtain ⟨i,hi,rfl,hI⟩:=hrel;by_cases hlt:i<4
  ·
   have hlt':(i:Int)<4:=by omega
   have hsucc:=tsucc (n:=i) (by omega);obtain ⟨t,ht⟩:∃ t,(R.tabP i).1=t:=⟨_,rfl⟩;obtain ⟨S,hS⟩:∃ S,(R.tabP i).2=S:=⟨_,rfl⟩;have hnext:R.tabP (i+1)=(t.put i S.last.1,S.last.2):=by rw [← ht, ← hS];rfl
   rw [ht,hS] at hI;have Hnext:=Lib.hid hnext;clear hnext ht hS
   have HI:=Lib.hid hI;clear hI
   have hbl:Calls Tryz.prog 153 #[.pointer (some ⟨g,0,none⟩),.int .u64 4294967296] wr fun e w'=>e=.returned (.int .u64 ((S.below 4294967296).1:Int))∧RdAt w' g (S.below 4294967296).2∧Only g wr w':=rbelow_any S 4294967296 g wr HI.out.r
   have hbl2:=below_lt S 4294967296 (by omega);obtain ⟨XP,hXP⟩:∃ x,S.lastP=x:=⟨_,rfl⟩;have hXP0:=hXP;unfold RdV.lastP at hXP;generalize S.below 4294967296=X at *;obtain ⟨n,R1⟩:=X;simp only at hbl hbl2 hXP;have hw32:IntKind.u32.wrap (n:Int)=(n:Int):=by rw [IntKind.wrap_u32];omega
   have h32:(BitVec.ofNat 32 n).toNat=n:=by simp;omega
   have Hbl:=Lib.hid hbl;clear hbl hbl2
   have HXP:=Lib.hid hXP;clear hXP
   have HXP0:=Lib.hid hXP0;clear hXP0
   go_upto_region 6 with ((with_reducible refine Hbl.out.mono ?_);rintro e w2 ⟨rfl,h2⟩;have H2:=Lib.hid (HI.out.only h2.1 h2.2);clear h2 HI)
   have hrow:LastRow (w2.alloc (.cells (lastCells ⟨BitVec.ofNat 32 n,0,ByteArray.empty⟩).toArray 29)) w2.heap.size ⟨BitVec.ofNat 32 n,0,ByteArray.empty⟩:=heap_alloc_new _ _;have HJ:=Lib.hid (H2.out.below ((Below.refl _ _).alloc (Nat.le_refl _) (.cells (lastCells ⟨BitVec.ofNat 32 n,0,ByteArray.empty⟩).toArray 29)));have hgl:w.heap.size+1<w2.heap.size:=(Array.getElem?_eq_some_iff.1 H2.out.t).1;have eta:(lastCells ⟨BitVec.ofNat 32 n,0,ByteArray.empty⟩).toArray=#[.int .u32 (n:Int),.int .u8 0,.string ByteArray.empty]:=by show #[Value.int .u32 ((BitVec.ofNat 32 n).toNat:Int),.int .u8 0,.string ByteArray.empty]=_;rw [h32]
   rw [eta] at hrow HJ;change Code.wp _ _ _ _ (w2.alloc (.cells #[.int .u32 (n:Int),.int .u8 0,.string ByteArray.empty] 29));clear H2 eta;generalize w2.alloc (.cells #[.int .u32 (n:Int),.int .u8 0,.string ByteArray.empty] 29)=w3 at *
   generalize w2.heap.size=gl at *;have Hgl:=Lib.hid hgl;clear hgl
   have Hrow:=Lib.hid hrow;clear hrow
   obtain ⟨f0,f1,f2⟩:=Hrow.out.cells;simp only at f0 f1 f2;rw [h32] at f0;go_upto_if 15 with fail
   go_cut [15] (fun _ wx=>LastRow wx gl XP.1∧TkI w g XP.2 t wx)
   case first =>
    by_cases hn:n=0
    ·
     have hn':((n:Int) != 0)=false:=by simp [hn]
     have hq:=HXP.out;rw [if_pos hn] at hq;have Hn:=Lib.hid hn;clear hn
     go_wp2_with fail;go_meet
     rw [← hq];refine ⟨?_,HJ.out⟩;have h:=Hrow.out;rw [Hn.out] at h;exact h
    ·
     have hn':((n:Int) != 0)=true:=by rw [bne_iff_ne];omega
     have hq:=HXP.out;rw [if_neg hn] at hq;clear hn;have Hby:=Lib.hid (byte_any R1 g w3 HJ.out.r);generalize R1.byte=X at *;obtain ⟨b,R2⟩:=X;simp only at Hby hq;have Hst:=Lib.hid (fun (y:World) (hy:RdAt y g R2)=>(show Calls Tryz.prog 88 #[.pointer (some ⟨g,0,none⟩),.int .i64 64] y fun e w'=>e=.returned (.string ⟨(R2.str 64).1.toArray⟩)∧RdAt w' g (R2.str 64).2∧Only g y w' from rstr2_any R2 64 g (by omega) y hy));generalize R2.str 64=X at *;obtain ⟨tx,R3⟩:=X;simp only at Hst hq;have Hq:=Lib.hid hq;clear hq
     have hne:gl≠g:=by have:=Hgl.out;have:=HJ.out.lt;omega
     go_upto_region 8 with ((with_reducible refine Hby.out.mono ?_);rintro e w4 ⟨rfl,h4⟩;have H4:=Lib.hid (And.intro (HJ.out.only h4.1 h4.2) (Hrow.out.only hne h4.2));clear h4 f0 f1 f2;obtain ⟨f0,f1,f2⟩:=H4.out.2.cells;have e1:=H4.out.2.thawed 1)
     change Code.wp _ _ _ _ (w4.setCell ⟨gl,1,none⟩ (.int .u8 (b.toNat:Int)));have HJ5:=Lib.hid (H4.out.1.set (i:=1) (v:=.int .u8 (b.toNat:Int)) Hgl.out);have Hr5:=Lib.hid (H4.out.2.code b.toNat);clear H4 Hrow HJ Hby f0 f1 f2 e1;generalize w4.setCell ⟨gl,1,none⟩ (.int .u8 (b.toNat:Int))=w5 at *
     obtain ⟨f0,f1,f2⟩:=Hr5.out.cells;go_wp2_with ((with_reducible refine (Hst.out _ HJ5.out.r).mono ?_);rintro e w6 ⟨rfl,h6⟩;have H6:=Lib.hid (And.intro (HJ5.out.only h6.1 h6.2) (Hr5.out.only hne h6.2));clear h6 f0 f1 f2;obtain ⟨f0,f1,f2⟩:=H6.out.2.cells;have e2:=H6.out.2.thawed 2);go_meet
     rw [← Hq.out];exact ⟨H6.out.2.text _,H6.out.1.set Hgl.out⟩
   case rest =>
   obtain ⟨hcr,hct⟩:=hcut;generalize wc=w4 at *;clear f0 f1 f2 HJ Hrow HXP;have Hcr:=Lib.hid hcr;clear hcr
   have Hct:=Lib.hid hct;clear hct
   have hlast:S.last=(XP.1,if 3<XP.1.code then XP.2.fail 4 else XP.2):=by unfold RdV.last;rw [HXP0.out]
   rw [hlast] at Hnext;clear hlast HXP0;obtain ⟨x,R2⟩:=XP;simp only at Hnext Hcr Hct;obtain ⟨q,hq⟩:∃ q,(if 3<x.code then R2.fail 4 else R2)=q:=⟨_,rfl⟩;rw [hq] at Hnext;have Hq:=Lib.hid hq;clear hq
   obtain ⟨f0,f1,f2⟩:=Hcr.out.cells;have hne:gl≠g:=by have:=Hgl.out;have:=Hct.out.lt;omega
   have Hbad:=Lib.hid (bad_any R2 g w4 Hct.out.r);go_upto_if 27 with fail
   go_cut [27] (fun _ wx=>LastRow wx gl x∧TkI w g q t wx)
   case first =>
    by_cases h3:3<x.code
    ·
     have h3':(3:Int)<(x.code:Int):=by omega
     have hqq:=Hq.out;rw [if_pos h3] at hqq;clear h3;go_wp2_with ((with_reducible refine Hbad.out.mono ?_);rintro e w5 ⟨rfl,h5⟩;have H5:=Lib.hid (And.intro (Hct.out.only h5.1 h5.2) (Hcr.out.only hne h5.2));clear h5);go_meet
     rw [← hqq];exact ⟨H5.out.2,H5.out.1⟩
    ·
     have h3' : ¬ (3:Int)<(x.code:Int):=by omega
     have hqq:=Hq.out;rw [if_neg h3] at hqq;clear h3;go_wp2_with fail;go_meet
     rw [← hqq];exact ⟨Hcr.out,Hct.out⟩
   case rest =>
   obtain ⟨hcr,hct⟩:=hcut;generalize wc=w5 at *;clear f0 f1 f2 Hcr Hct Hbad Hq;have Hcr:=Lib.hid hcr;clear hcr
   have Hct:=Lib.hid hct;clear hct
   obtain ⟨f0,f1,f2⟩:=Hcr.out.cells;obtain ⟨t0,t1,t2⟩:=tab_cell Hct.out.t hlt;have y0:=Hct.out.t.thawed (i*3);have y1:=Hct.out.t.thawed (i*3+1);have y2:=Hct.out.t.thawed (i*3+2);have HL:=Lib.hid (Hct.out.put hlt x);have hgi:w.heap.size+1≠gl:=by have:=Hgl.out;omega
   go_wp2_with fail;refine ⟨⟨i+1,hlt,by simp,by rw [Hnext.out];exact HL.out⟩,by simp [intOf];omega⟩
  ·
   have hlt' : ¬ (i:Int)<4:=by omega
   have hi4:i=4:=by omega
   subst hi4;have hq:=HE.out;unfold RdV.tab at hq;obtain ⟨S,hS⟩:∃ S,(R.tabP 4).2=S:=⟨_,rfl⟩;obtain ⟨t,ht⟩:∃ S,(R.tabP 4).1=S:=⟨_,rfl⟩;rw [hS,ht] at hq hI;clear hS ht;have HI:=Lib.hid hI;clear hI
   have Herr:=Lib.hid (err_any S g wr HI.out.r);obtain ⟨⟨z0,z1,z2⟩,⟨z3,z4,z5⟩,⟨z6,z7,z8⟩,⟨z9,z10,z11⟩⟩:=HI.out.z.cells;have y0:=HI.out.z.thawed 0;have y1:=HI.out.z.thawed 1;have y2:=HI.out.z.thawed 2;have y3:=HI.out.z.thawed 3;have y4:=HI.out.z.thawed 4;have y5:=HI.out.z.thawed 5;have y6:=HI.out.z.thawed 6;have y7:=HI.out.z.thawed 7;have y8:=HI.out.z.thawed 8;have y9:=HI.out.z.thawed 9;have y10:=HI.out.z.thawed 10;have y11:=HI.out.z.thawed 11;have hzr:w.heap.size≠g:=by have:=HI.out.lt;omega
   have hst:∀ t2:TabV,TabAt (rowSt wr w.heap.size 0 (tabCells t2)) w.heap.size t2∧RdAt (rowSt wr w.heap.size 0 (tabCells t2)) g S∧But g w.heap.size w (rowSt wr w.heap.size 0 (tabCells t2)):=fun t2 =>
    ⟨tabSt_at HI.out.z t2,⟨(rowSt_other (Ne.symm hzr) _ _ _).trans HI.out.r.row,HI.out.r.len⟩,HI.out.but.trans (but_of (rowSt_below (Nat.le_refl _) (tabCells t2) 0 _ (Below.refl _ _)) g)⟩
   by_cases he:S.e=0
   ·
    have he':((S.e:Int) != 0)=false:=by simp [he]
    rw [if_pos he] at hq;subst hq;have HT5:=Lib.hid (hst t);clear hst he
    obtain ⟨⟨k0,k1,k2⟩,⟨k3,k4,k5⟩,⟨k6,k7,k8⟩,⟨k9,k10,k11⟩⟩:=HI.out.t.cells;go_wp2_with ((with_reducible refine Herr.out.mono ?_);rintro e w2 ⟨rfl,rfl⟩);change bodyPost _ _ _ _ _ (rowSt wr w.heap.size 0 (tabCells t));clear z0 y0 k0 z1 y1 k1 z2 y2 k2 z3 y3 k3 z4 y4 k4 z5 y5 k5 z6 y6 k6 z7 y7 k7 z8 y8 k8 z9 y9 k9 z10 y10 k10 z11 y11 k11 HI Herr;generalize rowSt wr w.heap.size 0 (tabCells t)=w5 at *;obtain ⟨⟨a0,a1,a2⟩,⟨b0,b1,b2⟩,⟨c0,c1,c2⟩,⟨d0,d1,d2⟩⟩:=HT5.out.1.cells;refine bodyPost_ret (v:=.agg (tabCells t).toArray) (by rw [tab_eta];simp [results,Tryz.results114,go_sem,a0,a1,a2,b0,b1,b2,c0,c1,c2,d0,d1,d2] <;> rfl) rfl ?_;exact ⟨rfl,HT5.out.2⟩
   ·
    have he':((S.e:Int) != 0)=true:=by rw [bne_iff_ne];omega
    rw [if_neg he] at hq;subst hq;have HT5:=Lib.hid (hst tabNone);clear hst he
    go_wp2_with ((with_reducible refine Herr.out.mono ?_);rintro e w2 ⟨rfl,rfl⟩);change bodyPost _ _ _ _ _ (rowSt wr w.heap.size 0 (tabCells tabNone));clear z0 y0 z1 y1 z2 y2 z3 y3 z4 y4 z5 y5 z6 y6 z7 y7 z8 y8 z9 y9 z10 y10 z11 y11 HI Herr;generalize rowSt wr w.heap.size 0 (tabCells tabNone)=w5 at *;obtain ⟨⟨a0,a1,a2⟩,⟨b0,b1,b2⟩,⟨c0,c1,c2⟩,⟨d0,d1,d2⟩⟩:=HT5.out.1.cells;refine bodyPost_ret (v:=.agg (tabCells tabNone).toArray) (by rw [tab_eta];simp [results,Tryz.results114,go_sem,a0,a1,a2,b0,b1,b2,c0,c1,c2,d0,d1,d2] <;> rfl) rfl ?_;exact ⟨rfl,HT5.out.2⟩
theorem bl_cases:∀ (a b:List UInt8),(Op.bytesLess a b || a == b) = !Op.bytesLess b a
 | [],[]=>rfl
 | [],b::m=>by simp [Op.bytesLess]
 | a::l,[]=>by simp [Op.bytesLess]
 | a::l,b::m=>by
  have h:=bl_cases l m;unfold Op.bytesLess;by_cases h1:a<b
  ·
   have h2 : ¬ b<a:=by rw [UInt8.lt_iff_toNat_lt] at *; omega
   have h3:a≠b:=by rintro rfl;exact h2 h1
   simp [h1,h2,Ne.symm h3]
  ·
   by_cases h2:b<a
   ·
    have h3:a≠b:=by rintro rfl;exact h1 h2
    simp [h1,h2,h3]
   ·
    have h3:a=b:=by rw [UInt8.lt_iff_toNat_lt] at *; exact UInt8.toNat_inj.1 (by omega)
    subst h3;simpa [h1] using h
theorem sle_not (k last:ByteArray):(Op.bytesLess k.toList last.toList || k.toList == last.toList) = !slt last k:=bl_cases _ _
def RdV.pair (R:RdV) (last:ByteArray):(ByteArray × ByteArray) × RdV :=
 ((⟨(R.str 16).1.toArray⟩,⟨((R.str 16).2.str 64).1.toArray⟩),if slt last ⟨(R.str 16).1.toArray⟩=true then ((R.str 16).2.str 64).2 else ((R.str 16).2.str 64).2.fail 4)
def RdV.keysP:Nat→Sh→ByteArray→RdV→Sh × RdV
 | 0,S,_,R=>(S,R)
 | n+1,S,last,R=>if (R.pair last).2.e=0 then RdV.keysP n (putSh (R.pair last).1.1 (R.pair last).1.2 S (S.look (R.pair last).1.1)) (R.pair last).1.1 (R.pair last).2 else (.nil,(R.pair last).2)
def RdV.keys (R:RdV):Sh × RdV:=RdV.keysP (R.below 257).1 .nil ByteArray.empty (R.below 257).2
theorem tsucc_u {n:Nat} (h:n<1000000):IntKind.u64.wrap ((n:Int)+1)=((n+1:Nat):Int):=by rw [IntKind.wrap_u64];omega
theorem TreeAt.only {w w':World} {g:Nat} {R R':RdV} (hr:RdAt w g R) (hr':RdAt w' g R') (ho:Only g w w'):∀ {T:Tr},TreeAt w T→TreeAt w' T
 | .nil,_=>trivial
 | .node b _ _ _ _ _,⟨h1,h2,h3⟩=>⟨(ho.block b (by
   rintro rfl;unfold NodeAt at h1;have:=hr.row;rw [h1] at this;simp at this)).trans h1,TreeAt.only hr hr' ho h2,TreeAt.only hr hr' ho h3⟩
theorem takeKeys_any (R:RdV) (g:Nat) (w:World) (h:RdAt w g R) :
  Calls Tryz.prog 117 #[.pointer (some ⟨g,0,none⟩)] w fun e w'=>∃ X,e=.returned (.pointer X.ptr)∧TreeAt w' X∧X.sh=R.keys.1∧RdAt w' g R.keys.2∧But g w.heap.size w w':=by
 have hbl:Calls Tryz.prog 153 #[.pointer (some ⟨g,0,none⟩),.int .u64 257] w fun e w'=>e=.returned (.int .u64 ((R.below 257).1:Int))∧RdAt w' g (R.below 257).2∧Only g w w':=rbelow_any R 257 g w h
 have hlt:=below_lt R 257 (by omega);have hg:=h.lt;unfold RdV.keys;clear h;generalize R.below 257=X at *;obtain ⟨n,R1⟩:=X;simp only at hbl hlt ⊢;obtain ⟨F,hF⟩:∃ F,RdV.keysP n .nil ByteArray.empty R1=F:=⟨_,rfl⟩;rw [hF];have HF:=Lib.hid hF;clear hF
 have Hg:=Lib.hid hg;clear hg
 have Hbl:=Lib.hid hbl;clear hbl
 go_enter Tryz.func117,Tryz.ntmps117
 go_wp2_with ((with_reducible refine Hbl.out.mono ?_);rintro e w2 ⟨rfl,h2⟩;have H2:=Lib.hid h2;clear h2 Hbl);go_loopw [3,4,9] (fun s3 s4 s9 wr=>∃ (i:Nat) (T:Tr) (last:ByteArray) (S:RdV),i≤n∧s9=.int .u64 (i:Int)∧s3=.pointer T.ptr∧s4=.string last∧TreeAt wr T∧T.cnt≤i∧RdAt wr g S∧But g w.heap.size w wr∧RdV.keysP (n - i) T.sh last S=F) (fun _ _ s9 _=>n - (intOf s9).toNat)
 case atStart=>exact ⟨0,.nil,ByteArray.empty,R1,by omega,rfl,rfl,rfl,trivial,Nat.le_refl _,H2.out.1,H2.out.2.but _,HF.out⟩
 case round =>
  obtain ⟨i,T,last,S,hi,rfl,rfl,rfl,hat,hcnt,hr,hbut,hfin⟩:=hrel;clear H2 HF;have Hat:=Lib.hid hat;clear hat
  have Hr:=Lib.hid hr;clear hr
  have Hbut:=Lib.hid (And.intro hbut hcnt);clear hbut hcnt
  by_cases hlt2:i<n
  ·
   have hlt':(i:Int)<(n:Int):=by omega
   have hsucc:=tsucc_u (n:=i) (by omega);rw [show n - i=(n - (i+1))+1 by omega] at hfin;unfold RdV.keysP at hfin;obtain ⟨XP,hXP⟩:∃ x,S.pair last=x:=⟨_,rfl⟩;rw [hXP] at hfin;have Hfin:=Lib.hid hfin;clear hfin
   unfold RdV.pair at hXP;have h16:Calls Tryz.prog 88 #[.pointer (some ⟨g,0,none⟩),.int .i64 16] wr fun e w'=>e=.returned (.string ⟨(S.str 16).1.toArray⟩)∧RdAt w' g (S.str 16).2∧Only g wr w':=rstr2_any S 16 g (by omega) wr Hr.out
   have hk16:(S.str 16).1.length≤16:=str_most S 16;generalize S.str 16=X at *;obtain ⟨kl,S1⟩:=X;simp only at h16 hXP hk16;have H64:=Lib.hid (fun (y:World) (hy:RdAt y g S1)=>(show Calls Tryz.prog 88 #[.pointer (some ⟨g,0,none⟩),.int .i64 64] y fun e w'=>e=.returned (.string ⟨(S1.str 64).1.toArray⟩)∧RdAt w' g (S1.str 64).2∧Only g y w' from rstr2_any S1 64 g (by omega) y hy));generalize S1.str 64=X at *;obtain ⟨vl,S2⟩:=X;simp only at H64 hXP;have H16:=Lib.hid h16;clear h16
   have hks:(⟨kl.toArray⟩:ByteArray).size≤maxLen:=by rw [bs_size];unfold maxLen;omega
   obtain ⟨k,hk⟩:∃ k:ByteArray,⟨kl.toArray⟩=k:=⟨_,rfl⟩;obtain ⟨v,hv⟩:∃ k:ByteArray,⟨vl.toArray⟩=k:=⟨_,rfl⟩;rw [hk] at H16 hXP hks;rw [hv] at H64 hXP;clear hk hv hk16;have HXP:=Lib.hid hXP;clear hXP
   have Hks:=Lib.hid hks;clear hks
   have Hbad:=Lib.hid (fun (y:World) (hy:RdAt y g S2)=>bad_any S2 g y hy);go_upto_region 7 with (first
    | ((with_reducible refine H16.out.mono ?_);rintro e w3 ⟨rfl,h3⟩;have H3:=Lib.hid h3;clear h3 H16)
    | ((with_reducible refine (H64.out _ H3.out.1).mono ?_);rintro e w4 ⟨rfl,h4⟩;have H4:=Lib.hid (And.intro h4.1 (H3.out.2.trans h4.2));clear h4 H64))
   clear H3;obtain ⟨sb,hsb⟩:∃ b,slt last k=b:=⟨_,rfl⟩;have hle:(Op.bytesLess k.toList last.toList || k.toList == last.toList) = !sb:=by
    rw [← hsb];exact sle_not k last
   have hqx:=HXP.out;rw [hsb] at hqx;clear hsb;go_upto_if 17 with fail
   go_cut [17] (fun _ wx=>RdAt wx g XP.2∧Only g wr wx)
   case first =>
    cases sb with
    | true =>
     simp only [Bool.not_true] at hle;simp only [if_true] at hqx;go_wp2_with fail;go_meet
     rw [← hqx];exact H4.out
    | false =>
     simp only [Bool.not_false] at hle;simp only [Bool.false_eq_true,if_false] at hqx;go_wp2_with ((with_reducible refine (Hbad.out _ H4.out.1).mono ?_);rintro e w5 ⟨rfl,h5⟩;have H5:=Lib.hid (And.intro h5.1 (H4.out.2.trans h5.2));clear h5);go_meet
     rw [← hqx];exact H5.out
   case rest =>
   obtain ⟨hc1,hc2⟩:=hcut;generalize wc=w5 at *;have hx1:XP.1=(k,v):=by rw [← HXP.out]
   have hfin:=Hfin.out;rw [hx1] at hfin;simp only at hfin;obtain ⟨XK,RX⟩:=XP;simp only at hfin hc1;have Hat5:=Lib.hid (TreeAt.only Hr.out hc1 hc2 Hat.out);have Hc1:=Lib.hid hc1;have Hbut5:=Lib.hid (Hbut.out.1.trans (hc2.but _));have Herr:=Lib.hid (err_any RX g w5 hc1);clear hc1 hc2 hx1 H4 Hbad hqx hle Hfin Hat;by_cases he:RX.e=0
   ·
    have he':((RX.e:Int) != 0)=false:=by simp [he]
    rw [if_pos he] at hfin;have Hfin:=Lib.hid hfin;clear hfin he
    have Hput:=Lib.hid (putT_any k v Hks.out T w5.heap.size w5 (Nat.le_refl _) Hat5.out.lo Hat5.out (by have:=Hbut.out.2;omega));go_wp2_with (first
     | ((with_reducible refine Herr.out.mono ?_);rintro e w' ⟨rfl,rfl⟩)
     | ((with_reducible refine Hput.out.mono ?_);rintro e w6 ⟨X,rfl,hX⟩;have HX:=Lib.hid hX;clear hX))
    go_roundw
    case rel=>exact ⟨i+1,X,k,RX,hlt2,rfl,rfl,rfl,HX.out.at_,by have:=HX.out.num;have:=Hbut.out.2;omega,Hc1.out.below HX.out.bel,Hbut5.out.trans (but_of (HX.out.bel.mono Hbut5.out.size) g),by rw [HX.out.shp,sh_look];exact Hfin.out⟩
    case measure=>simp [intOf];omega
   ·
    have he':((RX.e:Int) != 0)=true:=by rw [bne_iff_ne];omega
    rw [if_neg he] at hfin;have Hfin:=Lib.hid hfin;clear hfin he
    go_wp2_with ((with_reducible refine Herr.out.mono ?_);rintro e w' ⟨rfl,rfl⟩);go_ret;exact ⟨.nil,rfl,trivial,by rw [← Hfin.out];rfl,by rw [← Hfin.out];exact Hc1.out,Hbut5.out⟩
  ·
   have hlt' : ¬ (i:Int)<(n:Int):=by omega
   rw [show n - i=0 by omega] at hfin;have Hfin:=Lib.hid hfin;clear hfin
   go_wp2_with fail;go_ret;exact ⟨T,rfl,Hat.out,by rw [← Hfin.out];rfl,by rw [← Hfin.out];exact Hr.out,Hbut.out.1⟩
end Go.Proofs.YtbckjgageofldaaGreat
