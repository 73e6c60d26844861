/- Readers, plain: what reading takes of bytes, and its laws: what was told as a number or a text is read back, and what is read was told. No condition. -/
import Derived.Test.YtbckjgageofldaaGreatZLearnPlays11
import Derived.Test.YtbckjgageofldaaGreatZLearnPlays7
import Derived.Deep.DeepCutAuto
import Derived.Test.YtbckjgageofldaaGreatZLearnPlays8
import Derived.Test.YtbckjgageofldaaGreatZLearnPlays5
import Derived.Laws.EntriesVeiled
import Derived.Test.YtbckjgageofldaaGreatZLearnPlays2
set_option maxRecDepth 100000
namespace Go.Proofs.YtbckjgageofldaaGreat
open Go.RowKit
structure RdV where
 e:Nat
 s:List UInt8
def RdV.fail (R:RdV) (c:Nat):RdV:=if R.e=0 then ⟨c,R.s⟩ else R
def RdV.take (R:RdV) (n:Nat):List UInt8 × Bool × RdV:=if R.e=0 then (if n≤R.s.length then (R.s.take n,true,⟨0,R.s.drop n⟩) else ([],false,⟨3,R.s⟩)) else ([],false,R)
def RdV.byte (R:RdV):UInt8 × RdV:=((R.take 1).1.headD 0,(R.take 1).2.2)
def bigN (l:List UInt8):Nat:=l.foldl (fun n b=>n*256+b.toNat) 0
def RdV.wide (R:RdV) (k:Nat):Nat × RdV :=
 if (R.take k).2.1=true then (if bigN (R.take k).1<248∨wid (bigN (R.take k).1)≠k then (0,(R.take k).2.2.fail 4) else (bigN (R.take k).1,(R.take k).2.2)) else (0,(R.take k).2.2)
def RdV.num (R:RdV):Nat × RdV:=if R.byte.1.toNat<248 then (R.byte.1.toNat,R.byte.2) else R.byte.2.wide (R.byte.1.toNat - 247)
def RdV.below (R:RdV) (n:Nat):Nat × RdV:=if R.num.2.e=0 then (if R.num.1<n then R.num else (0,R.num.2.fail 4)) else (0,R.num.2)
def RdV.str (R:RdV) (most:Nat):List UInt8 × RdV:=(((R.below (most+1)).2.take (R.below (most+1)).1).1,((R.below (most+1)).2.take (R.below (most+1)).1).2.2)
theorem bigN_snoc (l:List UInt8) (b:UInt8):bigN (l++[b])=bigN l*256+b.toNat:=by
 unfold bigN;rw [List.foldl_append];rfl
theorem bigN_from:∀ (l:List UInt8) (n:Nat),l.foldl (fun n b=>n*256+b.toNat) n=n*256 ^ l.length+bigN l
 | [],n=>by simp [bigN]
 | b::r,n=>by
  have h1:=bigN_from r (n*256+b.toNat);have h2:=bigN_from r (0*256+b.toNat);unfold bigN at h1 h2 ⊢;simp only [List.foldl_cons,List.length_cons] at h1 h2 ⊢;rw [h1,h2,Nat.pow_succ];simp only [Nat.add_mul,Nat.zero_mul,Nat.zero_add];have:n*256*256 ^ r.length=n*(256 ^ r.length*256):=by rw [Nat.mul_assoc,Nat.mul_comm 256]
  omega
theorem bigN_cons (b:UInt8) (r:List UInt8):bigN (b::r)=b.toNat*256 ^ r.length+bigN r:=by
 have h:=bigN_from r (0*256+b.toNat);show r.foldl (fun n b=>n*256+b.toNat) (0*256+b.toNat)=_;rw [h];simp
theorem bigN_lt:∀ (l:List UInt8),bigN l<256 ^ l.length
 | []=>by simp [bigN]
 | b::r=>by
  have h:=bigN_lt r;have hb:=b.toNat_lt;rw [bigN_cons,List.length_cons,Nat.pow_succ];have:b.toNat*256 ^ r.length+256 ^ r.length≤256*256 ^ r.length:=by
   have:=Nat.mul_le_mul_right (256 ^ r.length) (show b.toNat+1≤256 by omega);rw [Nat.add_mul,Nat.one_mul] at this;exact this
  rw [Nat.mul_comm 256] at this;omega
theorem bigB_mod:∀ (k n m:Nat),bigB k (n+m*256 ^ k)=bigB k n
 | 0,_,_=>rfl
 | k+1,n,m=>by
  have h1:(n+m*256 ^ (k+1)) / 256 ^ k=n / 256 ^ k+m*256:=by
   rw [Nat.pow_succ, ← Nat.mul_assoc,Nat.mul_right_comm,Nat.add_mul_div_right _ _ (Nat.pow_pos (by omega))]
  have h2:=bigB_mod k n (m*256);have e:m*256*256 ^ k=m*256 ^ (k+1):=by rw [Nat.pow_succ,Nat.mul_assoc,Nat.mul_comm 256]
  rw [e] at h2;show UInt8.ofNat ((n+m*256 ^ (k+1)) / 256 ^ k)::bigB k (n+m*256 ^ (k+1))=UInt8.ofNat (n / 256 ^ k)::bigB k n;rw [h1,h2];congr 1
  apply UInt8.toNat_inj.1
  simp
theorem bigN_big:∀ (k n:Nat),n<256 ^ k→bigN (bigB k n)=n
 | 0,n,h=>by
  have:n=0:=by simpa using h
  rw [this];rfl
 | k+1,n,h=>by
  have hp:0<256 ^ k:=Nat.pow_pos (by omega);have hd:n / 256 ^ k<256:=by
   rw [Nat.div_lt_iff_lt_mul hp];rw [Nat.pow_succ] at h;omega
  show bigN (UInt8.ofNat (n / 256 ^ k)::bigB k n)=n;rw [bigN_cons,bigB_len];have h1:bigB k n=bigB k (n % 256 ^ k):=by
   have:=bigB_mod k (n % 256 ^ k) (n / 256 ^ k);rw [Nat.mul_comm,Nat.mod_add_div] at this;exact this
  rw [h1,bigN_big k _ (Nat.mod_lt _ hp)];have h2:(UInt8.ofNat (n / 256 ^ k)).toNat=n / 256 ^ k:=by simp;omega
  rw [h2,Nat.mul_comm];exact Nat.div_add_mod n (256 ^ k)
theorem wid_lt {n:Nat} (h:n<18446744073709551616):n<256 ^ wid n:=by
 unfold wid;repeat' split
 all_goals first | omega | (simp;omega)
theorem take_app (t r:List UInt8):(RdV.mk 0 (t++r)).take t.length=(t,true,⟨0,r⟩):=by
 unfold RdV.take;rw [if_pos rfl,if_pos (by simp)];simp
theorem byte_app (b:UInt8) (r:List UInt8):(RdV.mk 0 (b::r)).byte=(b,⟨0,r⟩):=by
 have h:(RdV.mk 0 (b::r)).take 1=([b],true,⟨0,r⟩):=take_app [b] r;unfold RdV.byte;rw [h];rfl
theorem num_app {n:Nat} (hn:n<18446744073709551616) (r:List UInt8):(RdV.mk 0 (numL n++r)).num=(n,⟨0,r⟩):=by
 unfold numL;by_cases h:n<248
 ·
  rw [if_pos h];unfold RdV.num;rw [List.singleton_append,byte_app];have e:(UInt8.ofNat n).toNat=n:=by simp;omega
  rw [if_pos (by rw [e];exact h)];simp only [e]
 ·
  rw [if_neg h];have hw:=wid_le n;have hp:=wid_pos (n:=n) (by omega);have e:(UInt8.ofNat (247+wid n)).toNat=247+wid n:=by simp;omega
  have ht:=take_app (bigB (wid n) n) r;rw [bigB_len] at ht;unfold RdV.num;rw [List.cons_append,byte_app];simp only [e];rw [if_neg (by omega),show 247+wid n - 247=wid n by omega];unfold RdV.wide;rw [ht];simp only [if_true];rw [bigN_big _ _ (wid_lt hn),if_neg (by omega)]
theorem below_app {n m:Nat} (hn:n<18446744073709551616) (hm:n<m) (r:List UInt8):(RdV.mk 0 (numL n++r)).below m=(n,⟨0,r⟩):=by
 unfold RdV.below;rw [num_app hn];simp only [if_true];rw [if_pos hm]
theorem str_app' {t:List UInt8} {most:Nat} (ht:t.length≤most) (hm:most<1000000) (r:List UInt8):(RdV.mk 0 (numL t.length++t++r)).str most=(t,⟨0,r⟩):=by
 unfold RdV.str;rw [List.append_assoc,below_app (by omega) (by omega)];simp only [take_app]
theorem str_most (R:RdV) (n:Nat):(R.str n).1.length≤n:=by
 obtain ⟨⟨m,R1⟩,hm⟩:∃ x,R.below (n+1)=x:=⟨_,rfl⟩;have h:m<n+1:=by
  have h1:(R.below (n+1)).1<n+1:=by
   unfold RdV.below;split
   ·
    split
    ·
     assumption
    ·
     exact Nat.succ_pos n
   ·
    exact Nat.succ_pos n
  rw [hm] at h1;exact h1
 unfold RdV.str;rw [hm];show ((R1.take m).1).length≤n;unfold RdV.take;split
 ·
  split
  ·
   simp;omega
  ·
   simp
 ·
  simp
theorem bs_size (l:List UInt8):(⟨l.toArray⟩:ByteArray).size=l.length:=by
 show l.toArray.size=l.length;rw [List.size_toArray]
structure Only (g:Nat) (w w':World):Prop where
 os:w'.os=w.os
 tape:w'.tape=w.tape
 output:w'.output=w.output
 size:w'.heap.size=w.heap.size
 block:∀ k,k≠g→w'.heap[k]?=w.heap[k]?
theorem Only.refl (g:Nat) (w:World):Only g w w:=⟨rfl,rfl,rfl,rfl,fun _ _=>rfl⟩
theorem Only.trans {g:Nat} {a b c:World} (h:Only g a b) (k:Only g b c):Only g a c :=
 ⟨k.os.trans h.os,k.tape.trans h.tape,k.output.trans h.output,k.size.trans h.size,fun i hi=>(k.block i hi).trans (h.block i hi)⟩
theorem Only.below {g n:Nat} {w0 a b:World} (h:Below n w0 a) (k:Only g a b) (hg:n≤g):Below n w0 b :=
 ⟨k.os.trans h.os,k.tape.trans h.tape,k.output.trans h.output,by rw [k.size];exact h.size,fun i hi=>(k.block i (by omega)).trans (h.block i hi)⟩
theorem Only.set (g i:Nat) (w:World) (v:Value):Only g w (w.setCell ⟨g,i,none⟩ v):=by
 have h:=below_setV (x:=v) (i:=i) (b:=g) (Below.refl 0 w) (Nat.zero_le _);refine ⟨h.os,h.tape,h.output,?_,fun k hk=>Below.heap_setCell _ _ _ _ (by exact hk)⟩;unfold World.setCell;split <;> simp
def rdCells (R:RdV):List Value:=[.int .i64 (R.e:Int),.string ⟨R.s.toArray⟩]
structure RdAt (w:World) (g:Nat) (R:RdV):Prop where
 row:w.heap[g]?=some (.cells (rdCells R).toArray 246 (0,0))
 len:R.s.length≤maxLen
theorem RdAt.cells {w:World} {g:Nat} {R:RdV} (h:RdAt w g R):w.cell? ⟨g,0,none⟩=some (.int .i64 (R.e:Int))∧w.cell? ⟨g,1,none⟩=some (.string ⟨R.s.toArray⟩) :=
 ⟨cell_of_row _ _ _ _ _ _ h.row,cell_of_row _ _ _ _ _ _ h.row⟩
theorem RdAt.thawed {w:World} {g:Nat} {R:RdV} (h:RdAt w g R) (j:Nat):w.frozen? ⟨g,j,none⟩=false:=by
 have h:=h.row;simp [World.frozen?,h]
theorem RdAt.lt {w:World} {g:Nat} {R:RdV} (h:RdAt w g R):g<w.heap.size:=(Array.getElem?_eq_some_iff.1 h.row).1
theorem RdAt.below {w w':World} {g:Nat} {R:RdV} (h:RdAt w g R) (hb:Below w.heap.size w w'):RdAt w' g R:=⟨(hb.block g h.lt).trans h.row,h.len⟩
theorem RdAt.other {w w':World} {g q:Nat} {R:RdV} (h:RdAt w g R) (hq:g≠q) (ho:Only q w w'):RdAt w' g R:=⟨(ho.block g hq).trans h.row,h.len⟩
theorem RdAt.err {w:World} {g e:Nat} {s:List UInt8} (h:RdAt w g ⟨e,s⟩) (c:Nat):RdAt (w.setCell ⟨g,0,none⟩ (.int .i64 (c:Int))) g ⟨c,s⟩:=by
 refine ⟨?_,h.len⟩;rw [heap_setCell_same _ _ _ _ _ _ h.row];rfl
theorem RdAt.rest {w:World} {g e:Nat} {s:List UInt8} (h:RdAt w g ⟨e,s⟩) (t:List UInt8) (ht:t.length≤s.length):RdAt (w.setCell ⟨g,1,none⟩ (.string ⟨t.toArray⟩)) g ⟨e,t⟩:=by
 refine ⟨?_,Nat.le_trans ht h.len⟩;rw [heap_setCell_same _ _ _ _ _ _ h.row];rfl
theorem bs_extract (l:List UInt8) (a b:Nat):(⟨l.toArray⟩:ByteArray).extract a b=⟨((l.take b).drop a).toArray⟩:=by
 apply ByteArray.ext
 rw [ByteArray.data_extract];simp [List.drop_take]
set_option maxHeartbeats 4000000 in
theorem fail_any (R:RdV) (c g:Nat) (w:World) (h:RdAt w g R) :
  Calls Tryz.prog 156 #[.pointer (some ⟨g,0,none⟩),.int .i64 (c:Int)] w fun e w'=>e=.returned (.tuple #[])∧RdAt w' g (R.fail c)∧Only g w w':=by
 obtain ⟨e,s⟩:=R;obtain ⟨f0,f1⟩:=h.cells;have f2:=h.thawed 0;unfold RdV.fail;by_cases he:e=0
 ·
  subst he;rw [if_pos rfl];have hh:=h.err c;have H:=Lib.hid h;clear h
  have HH:=Lib.hid (And.intro hh (Only.set g 0 w (.int .i64 (c:Int))));clear hh
  go_enter Tryz.func156,Tryz.ntmps156
  go_wp2_with fail;refine bodyPost_end (results_none rfl _ _ _) rfl ?_;exact ⟨rfl,HH.out.1,HH.out.2⟩
 ·
  rw [if_neg he];have he':((e:Int) == 0)=false:=by rw [beq_eq_false_iff_ne];omega
  have H:=Lib.hid h;clear h
  have HE:=Lib.hid he;clear he
  go_enter Tryz.func156,Tryz.ntmps156
  go_wp2_with fail;refine bodyPost_end (results_none rfl _ _ _) rfl ?_;exact ⟨rfl,H.out,Only.refl _ _⟩
theorem fail_short (R:RdV) (g:Nat) (w:World) (h:RdAt w g R) :
  Calls Tryz.prog 156 #[.pointer (some ⟨g,0,none⟩),.int .i64 3] w fun e w'=>e=.returned (.tuple #[])∧RdAt w' g (R.fail 3)∧Only g w w':=fail_any R 3 g w h
theorem fail_form (R:RdV) (g:Nat) (w:World) (h:RdAt w g R) :
  Calls Tryz.prog 156 #[.pointer (some ⟨g,0,none⟩),.int .i64 4] w fun e w'=>e=.returned (.tuple #[])∧RdAt w' g (R.fail 4)∧Only g w w':=fail_any R 4 g w h
set_option maxHeartbeats 4000000 in
theorem failed_any (R:RdV) (g:Nat) (w:World) (h:RdAt w g R) :
  Calls Tryz.prog 151 #[.pointer (some ⟨g,0,none⟩)] w fun e w'=>e=.returned (.bool (decide (R.e≠0)))∧w=w':=by
 obtain ⟨f0,f1⟩:=h.cells;obtain ⟨b,hb⟩:∃ b,decide (R.e≠0)=b:=⟨_,rfl⟩;have hb':((R.e:Int) != 0)=b:=by
  rw [← hb];by_cases h0:R.e=0
  ·
   simp [h0]
  ·
   have:(R.e:Int)≠0:=by omega
   simp [h0]
 rw [hb];clear h hb;go_enter Tryz.func151,Tryz.ntmps151
 go_wp2_with fail;go_ret;exact ⟨rfl,rfl⟩
theorem take_str (l:List UInt8) (n:Nat):(⟨l.toArray⟩:ByteArray).extract 0 n=⟨(l.take n).toArray⟩∧(⟨l.toArray⟩:ByteArray).extract n l.length=⟨(l.drop n).toArray⟩:=by
 refine ⟨by rw [bs_extract];simp,by rw [bs_extract];simp⟩
set_option maxHeartbeats 8000000 in
theorem take_any (R:RdV) (n:Nat) (_:n<18446744073709551616) (g:Nat) (w:World) (h:RdAt w g R) :
  Calls Tryz.prog 150 #[.pointer (some ⟨g,0,none⟩),.int .u64 (n:Int)] w fun e w'=>e=.returned (.tuple #[.string ⟨(R.take n).1.toArray⟩,.bool (R.take n).2.1])∧RdAt w' g (R.take n).2.2∧Only g w w':=by
 have hfd:=failed_any R g w h;obtain ⟨e,s⟩:=R;have hlen:=h.len;unfold maxLen at hlen;simp only at hlen hfd;obtain ⟨f0,f1⟩:=h.cells;simp only at f0 f1;have f3:=h.thawed 1;unfold RdV.take;by_cases he:e=0
 ·
  subst he;have hfd:Calls Tryz.prog 151 #[.pointer (some ⟨g,0,none⟩)] w fun e w'=>e=.returned (.bool false)∧w=w':=hfd
  simp only [if_true];have Hfd:=Lib.hid hfd;clear hfd
  have hsz:=bs_size s;have hwrap:IntKind.u64.wrap (s.length:Int)=(s.length:Int):=by rw [IntKind.wrap_u64];omega
  by_cases hs:n≤s.length
  ·
   rw [if_pos hs];obtain ⟨t1,t2⟩:=take_str s n;have hs' : ¬ (s.length:Int)<(n:Int):=by omega
   have HH:=Lib.hid (And.intro (h.rest (s.drop n) (by simp)) (Only.set g 1 w (.string ⟨(s.drop n).toArray⟩)));have H:=Lib.hid h;clear h
   go_enter Tryz.func150,Tryz.ntmps150
   go_wp2_with ((with_reducible refine Hfd.out.mono ?_);rintro e w' ⟨rfl,rfl⟩);refine bodyPost_ret (v:=.tuple #[.string ⟨(s.take n).toArray⟩,.bool true]) (by simp [results,Tryz.results150,go_sem]) rfl ?_;exact ⟨rfl,HH.out.1,HH.out.2⟩
  ·
   rw [if_neg hs];have hs':(s.length:Int)<(n:Int):=by omega
   have hfl:=fail_short ⟨0,s⟩ g w h;have Hfl:=Lib.hid hfl;clear hfl
   have H:=Lib.hid h;clear h
   go_enter Tryz.func150,Tryz.ntmps150
   go_wp2_with (first
    | ((with_reducible refine Hfd.out.mono ?_);rintro e w' ⟨rfl,rfl⟩)
    | ((with_reducible refine Hfl.out.mono ?_);rintro e w2 ⟨rfl,h2⟩;have H2:=Lib.hid h2;clear h2))
   refine bodyPost_ret (v:=.tuple #[Value.string ⟨#[]⟩,.bool false]) (by simp [results,Tryz.results150,go_sem]) rfl ?_;exact ⟨rfl,H2.out⟩
 ·
  have hfd:Calls Tryz.prog 151 #[.pointer (some ⟨g,0,none⟩)] w fun e w'=>e=.returned (.bool true)∧w=w':=by simpa [he] using hfd
  rw [if_neg he];have Hfd:=Lib.hid hfd;clear hfd
  have H:=Lib.hid h;clear h
  go_enter Tryz.func150,Tryz.ntmps150
  go_wp2_with ((with_reducible refine Hfd.out.mono ?_);rintro e w' ⟨rfl,rfl⟩);refine bodyPost_ret (v:=.tuple #[Value.string ⟨#[]⟩,.bool false]) (by simp [results,Tryz.results150,go_sem]) rfl ?_;exact ⟨rfl,H.out,Only.refl _ _⟩
set_option maxHeartbeats 8000000 in
theorem byte_any (R:RdV) (g:Nat) (w:World) (h:RdAt w g R) :
  Calls Tryz.prog 97 #[.pointer (some ⟨g,0,none⟩)] w fun e w'=>e=.returned (.int .u8 (R.byte.1.toNat:Int))∧RdAt w' g R.byte.2∧Only g w w':=by
 have ht:Calls Tryz.prog 150 #[.pointer (some ⟨g,0,none⟩),.int .u64 1] w fun e w'=>e=.returned (.tuple #[.string ⟨(R.take 1).1.toArray⟩,.bool (R.take 1).2.1])∧RdAt w' g (R.take 1).2.2∧Only g w w':=take_any R 1 (by omega) g w h
 clear h;unfold RdV.byte;have hcase:((R.take 1).2.1=true∧(R.take 1).1.length=1)∨((R.take 1).2.1=false∧(R.take 1).1=[]):=by
  unfold RdV.take;split
  ·
   split
   ·
    exact .inl ⟨rfl,by simp;omega⟩
   ·
    exact .inr ⟨rfl,rfl⟩
  ·
   exact .inr ⟨rfl,rfl⟩
 generalize R.take 1=X at *;obtain ⟨t,b,R2⟩:=X;simp only at ht hcase ⊢;rcases hcase with ⟨rfl,hl⟩ | ⟨rfl,rfl⟩
 ·
  match t,hl with
  | [x],_ =>
   have Ht:=Lib.hid ht;clear ht
   go_enter Tryz.func97,Tryz.ntmps97
   go_wp2_with ((with_reducible refine Ht.out.mono ?_);rintro e w2 ⟨rfl,h2⟩;have H2:=Lib.hid h2;clear h2);go_ret;exact ⟨rfl,H2.out⟩
 ·
  have Ht:=Lib.hid ht;clear ht
  go_enter Tryz.func97,Tryz.ntmps97
  go_wp2_with ((with_reducible refine Ht.out.mono ?_);rintro e w2 ⟨rfl,h2⟩;have H2:=Lib.hid h2;clear h2);go_ret;exact ⟨rfl,H2.out⟩
set_option maxHeartbeats 4000000 in
theorem bad_any (R:RdV) (g:Nat) (w:World) (h:RdAt w g R) :
  Calls Tryz.prog 152 #[.pointer (some ⟨g,0,none⟩)] w fun e w'=>e=.returned (.tuple #[])∧RdAt w' g (R.fail 4)∧Only g w w':=by
 have Hfl:=Lib.hid (fail_form R g w h);clear h
 go_enter Tryz.func152,Tryz.ntmps152
 go_wp2_with ((with_reducible refine Hfl.out.mono ?_);rintro e w2 ⟨rfl,h2⟩;have H2:=Lib.hid h2;clear h2);refine bodyPost_end (results_none rfl _ _ _) rfl ?_;exact ⟨rfl,H2.out⟩
set_option maxHeartbeats 4000000 in
theorem err_any (R:RdV) (g:Nat) (w:World) (h:RdAt w g R) :
  Calls Tryz.prog 89 #[.pointer (some ⟨g,0,none⟩)] w fun e w'=>e=.returned (.int .i64 (R.e:Int))∧w=w':=by
 obtain ⟨f0,f1⟩:=h.cells;clear h;go_enter Tryz.func89,Tryz.ntmps89
 go_wp2_with fail;go_ret;exact ⟨rfl,rfl⟩
def RdV.end_ (R:RdV):RdV:=if R.s=[] then R else R.fail 4
set_option maxHeartbeats 4000000 in
theorem end_any (R:RdV) (g:Nat) (w:World) (h:RdAt w g R) :
  Calls Tryz.prog 102 #[.pointer (some ⟨g,0,none⟩)] w fun e w'=>e=.returned (.int .i64 (R.end_.e:Int))∧RdAt w' g R.end_∧Only g w w':=by
 have hsz:=bs_size R.s;unfold RdV.end_;by_cases hs:R.s=[]
 ·
  rw [if_pos hs];have hl:R.s.length=0:=by rw [hs];rfl
  obtain ⟨f0,f1⟩:=h.cells;have H:=Lib.hid h;clear h
  rw [hl] at hsz;have hlt : ¬ (0:Int)<0:=by omega
  have Hs:=Lib.hid hs;clear hs hl
  go_enter Tryz.func102,Tryz.ntmps102
  go_wp2_with fail;go_ret;exact ⟨rfl,H.out,Only.refl _ _⟩
 ·
  rw [if_neg hs];have hl:0<R.s.length:=List.length_pos_iff.2 hs;have hl':(0:Int)<(R.s.length:Int):=by omega
  obtain ⟨f0,f1⟩:=h.cells;have Hfl:=Lib.hid (fail_form R g w h);clear h hs hl;go_enter Tryz.func102,Tryz.ntmps102
  go_wp2_with ((with_reducible refine Hfl.out.mono ?_);rintro e w2 ⟨rfl,h2⟩;have H2:=Lib.hid h2;obtain ⟨k0,k1⟩:=h2.1.cells;clear h2 f0 f1);go_ret;exact ⟨rfl,H2.out⟩
theorem bigN_take {l:List UInt8} {i:Nat} (hi:i<l.length):bigN (l.take (i+1))=bigN (l.take i)*256+(l.getD i 0).toNat:=by
 rw [List.take_succ_eq_append_getElem hi,bigN_snoc];simp [List.getD,List.getElem?_eq_getElem hi]
theorem bigN_small {l:List UInt8} {i:Nat} (hl:l.length≤8) (hi:i<l.length):bigN (l.take i)<72057594037927936:=by
 have h:=bigN_lt (l.take i);rw [List.length_take] at h;have h2:(256:Nat) ^ min i l.length≤256 ^ 7:=Nat.pow_le_pow_right (by omega) (by omega);have h3:(256:Nat) ^ 7=72057594037927936:=by decide
 omega
theorem bigN_most {l:List UInt8} (hl:l.length≤8):bigN l<18446744073709551616:=by
 have h:=bigN_lt l;have h2:(256:Nat) ^ l.length≤256 ^ 8:=Nat.pow_le_pow_right (by omega) (by omega);have h3:(256:Nat) ^ 8=18446744073709551616:=by decide
 omega
theorem take_cases (R:RdV) (n:Nat):((R.take n).2.1=true∧(R.take n).1.length=n)∨((R.take n).2.1=false∧(R.take n).1=[]):=by
 unfold RdV.take;split
 ·
  split
  ·
   exact .inl ⟨rfl,by simp;omega⟩
  ·
   exact .inr ⟨rfl,rfl⟩
 ·
  exact .inr ⟨rfl,rfl⟩
theorem or_bv (x y:BitVec 64):bits .or .u64 (x.toNat:Int) (y.toNat:Int)=((x ||| y).toNat:Int):=by
 have h:∀ z:BitVec 64,BitVec.ofInt 64 (z.toNat:Int)=z:=fun z=>by rw [BitVec.ofInt_natCast];simp
 show IntKind.u64.wrap ((BitVec.ofInt 64 (x.toNat:Int) ||| BitVec.ofInt 64 (y.toNat:Int)).toNat:Int)=_;rw [h,h,IntKind.wrap_u64];have:=(x ||| y).isLt;omega
theorem or_add (n b:Nat) (hn:n<72057594037927936) (hb:b<256):bits BinOp.or IntKind.u64 ((n:Int)*256) (IntKind.u64.wrap (b:Int))=((n*256+b:Nat):Int):=by
 have h:=or_bv (BitVec.ofNat 64 (n*256)) (BitVec.ofNat 64 b);have e1:(BitVec.ofNat 64 (n*256)).toNat=n*256:=by simp;omega
 have e2:(BitVec.ofNat 64 b).toNat=b:=by simp;omega
 rw [BitVec.toNat_or,e1,e2] at h;rw [IntKind.wrap_u64,show ((n:Int)*256)=((n*256:Nat):Int) by omega,show (b:Int) % 18446744073709551616=(b:Int) by omega,h];congr 1
 rw [show n*256=2 ^ 8*n by omega];exact (Nat.two_pow_add_eq_or_of_lt hb n).symm
set_option maxHeartbeats 16000000 in
theorem rnumber_any (R:RdV) (g:Nat) (w:World) (h:RdAt w g R) :
  Calls Tryz.prog 173 #[.pointer (some ⟨g,0,none⟩)] w fun e w'=>e=.returned (.int .u64 (R.num.1:Int))∧RdAt w' g R.num.2∧Only g w w':=by
 have hb:=byte_any R g w h;unfold RdV.num;clear h;obtain ⟨⟨b,R1⟩,hB⟩:∃ x,R.byte=x:=⟨_,rfl⟩;rw [hB] at hb ⊢;simp only at hb ⊢;clear hB;have hb8:=b.toNat_lt;obtain ⟨n,hn⟩:∃ n,b.toNat=n:=⟨_,rfl⟩;rw [hn] at hb hb8 ⊢;clear hn;have Hb:=Lib.hid hb;clear hb
 by_cases h248:n<248
 ·
  rw [if_pos h248];have hlt':(n:Int)<248:=by omega
  have hwrap:IntKind.u64.wrap (n:Int)=(n:Int):=by rw [IntKind.wrap_u64];omega
  clear hb8 h248;go_enter Tryz.func173,Tryz.ntmps173
  go_wp2_with ((with_reducible refine Hb.out.mono ?_);rintro e w2 ⟨rfl,h2⟩;have H2:=Lib.hid h2;clear h2);go_ret;exact ⟨rfl,H2.out⟩
 ·
  rw [if_neg h248];have hlt' : ¬ (n:Int)<248:=by omega
  obtain ⟨k,hk⟩:∃ k,n=k+247:=⟨n - 247,by omega⟩;subst hk;rw [show k+247 - 247=k by omega];have hk8:k≤8:=by omega
  have hsub:IntKind.i64.wrap (((k+247:Nat):Int) - 247)=(k:Int):=by rw [IntKind.wrap_i64];omega
  have hwr1:IntKind.i64.wrap ((k+247:Nat):Int)=((k+247:Nat):Int):=by rw [IntKind.wrap_i64];omega
  have hwr2:IntKind.u64.wrap (k:Int)=(k:Int):=by rw [IntKind.wrap_u64];omega
  have Ht:=Lib.hid (fun (y:World) (hy:RdAt y g R1)=>take_any R1 k (by omega) g y hy);unfold RdV.wide;have hcase:=take_cases R1 k;generalize R1.take k=X at *;obtain ⟨t,ok,R2⟩:=X;simp only at Ht hcase ⊢;clear hb8 h248;obtain ⟨m,hm⟩:∃ m:Int,((k+247:Nat):Int)=m:=⟨_,rfl⟩;rw [hm] at Hb hlt' hsub hwr1;clear hm;rcases hcase with ⟨rfl,hl⟩ | ⟨rfl,rfl⟩
  ·
   simp only [if_true];obtain ⟨⟨rn,RR⟩,hres⟩:∃ x,(if bigN t<248∨wid (bigN t)≠k then (0,R2.fail 4) else (bigN t,R2))=x:=⟨_,rfl⟩;rw [hres];have Hres:=Lib.hid hres;clear hres
   have hk1:(k:Int)≤8:=by omega
   go_enter Tryz.func173,Tryz.ntmps173
   go_upto_region 9 with (first
    | ((with_reducible refine Hb.out.mono ?_);rintro e w2 ⟨rfl,h2⟩;have H2:=Lib.hid h2;clear h2 Hb)
    | ((with_reducible refine (Ht.out _ H2.out.1).mono ?_);rintro e w3 ⟨rfl,h3⟩;have H3:=Lib.hid (And.intro h3.1 (H2.out.2.trans h3.2));clear h3 H2 Ht))
   go_wp2_with fail;go_loopw [7,28] (fun s7 s28 wr=>∃ i:Nat,i≤k∧s28=.int .i64 (i:Int)∧s7=.int .u64 (bigN (t.take i):Int)∧w3=wr) (fun _ s28 _=>k - (intOf s28).toNat)
   case atStart=>exact ⟨0,by omega,rfl,rfl,rfl⟩
   case round =>
    obtain ⟨i,hi,rfl,rfl,rfl⟩:=hrel;by_cases hlt:i<k
    ·
     have hlt2:(i:Int)<(k:Int):=by omega
     have hsucc:=tsucc (n:=i) (by omega);have hst:=bigN_take (l:=t) (i:=i) (by omega);have hsm:=bigN_small (l:=t) (i:=i) (by omega) (by omega);have hch:(⟨t.toArray⟩:ByteArray).size=k:=by rw [bs_size];exact hl
     have hor:=or_add (bigN (t.take i)) (t.getD i 0).toNat hsm (t.getD i 0).toNat_lt;have hix:(⟨t.toArray⟩:ByteArray)[i]'(by rw [hch];exact hlt)=t.getD i 0:=by
      show t.toArray[i]'(by simp;omega)=_;simp [List.getD,List.getElem?_eq_getElem (show i<t.length by omega)]
     rw [← hst] at hor;rw [← hix] at hor;clear hst hix;go_wp2_with fail;refine ⟨⟨i+1,hlt,by simp,?_,trivial⟩,by simp [intOf];omega⟩;rw [← hor]
    ·
     have hlt2 : ¬ (i:Int)<(k:Int):=by omega
     have hall:t.take i=t:=List.take_of_length_le (by omega);rw [hall];have hb64:=bigN_most (l:=t) (by omega);obtain ⟨N,hN⟩:∃ N,bigN t=N:=⟨_,rfl⟩;have hq:=Hres.out;rw [hN] at hb64 hq;have Hwd:=Lib.hid (fun y:World=>width_any N (by omega) y);have Hfl:=Lib.hid (fun (y:World) (hy:RdAt y g R2)=>fail_form R2 g y hy);obtain ⟨v,hv⟩:∃ v,wid N=v:=⟨_,rfl⟩;rw [hv] at Hwd hq;clear hb64 hall hv;have HN:=Lib.hid hN;clear hN
     by_cases c1:N<248
     ·
      have c1':(N:Int)<248:=by omega
      rw [if_pos (.inl c1)] at hq;cases hq
      rw [HN.out];clear c1;go_wp2_with (first
       | ((with_reducible refine (Hwd.out _).mono ?_);rintro e w' ⟨rfl,rfl⟩)
       | ((with_reducible refine (Hfl.out _ H3.out.1).mono ?_);rintro e w4 ⟨rfl,h4⟩;have H4:=Lib.hid (And.intro h4.1 (H3.out.2.trans h4.2));clear h4))
      go_ret;exact ⟨rfl,H4.out⟩
     ·
      have c1' : ¬ (N:Int)<248:=by omega
      by_cases c2:v=k
      ·
       subst c2;rw [if_neg (by omega)] at hq;cases hq
       rw [HN.out];clear c1;go_wp2_with ((with_reducible refine (Hwd.out _).mono ?_);rintro e w' ⟨rfl,rfl⟩);go_ret;exact ⟨rfl,H3.out⟩
      ·
       have c2':((v:Int) != (k:Int))=true:=by rw [bne_iff_ne];omega
       rw [if_pos (.inr c2)] at hq;cases hq
       rw [HN.out];have C2:=Lib.hid c2;clear c1 c2
       go_wp2_with (first
        | ((with_reducible refine (Hwd.out _).mono ?_);rintro e w' ⟨rfl,rfl⟩)
        | ((with_reducible refine (Hfl.out _ H3.out.1).mono ?_);rintro e w4 ⟨rfl,h4⟩;have H4:=Lib.hid (And.intro h4.1 (H3.out.2.trans h4.2));clear h4))
       go_ret;exact ⟨rfl,H4.out⟩
  ·
   simp only [Bool.false_eq_true,if_false];go_enter Tryz.func173,Tryz.ntmps173
   go_wp2_with (first
    | ((with_reducible refine Hb.out.mono ?_);rintro e w2 ⟨rfl,h2⟩;have H2:=Lib.hid h2;clear h2 Hb)
    | ((with_reducible refine (Ht.out _ H2.out.1).mono ?_);rintro e w3 ⟨rfl,h3⟩;have H3:=Lib.hid (And.intro h3.1 (H2.out.2.trans h3.2));clear h3 H2 Ht))
   go_ret;exact ⟨rfl,H3.out⟩
theorem rnum_lt (R:RdV):R.num.1<18446744073709551616:=by
 unfold RdV.num;have hb:=R.byte.1.toNat_lt;split
 ·
  show R.byte.1.toNat<_;omega
 ·
  unfold RdV.wide;rcases take_cases R.byte.2 (R.byte.1.toNat - 247) with ⟨h1,h2⟩ | ⟨h1,h2⟩
  ·
   rw [if_pos h1];split
   ·
    show 0<_;omega
   ·
    exact bigN_most (by omega)
  ·
   rw [h1];simp
theorem below_lt (R:RdV) (n:Nat) (hn:0<n):(R.below n).1<n:=by
 unfold RdV.below;split
 ·
  split
  ·
   assumption
  ·
   exact hn
 ·
  exact hn
set_option maxHeartbeats 8000000 in
theorem below_any (R:RdV) (n g:Nat) (w:World) (h:RdAt w g R) :
  Calls Tryz.prog 149 #[.pointer (some ⟨g,0,none⟩),.int .u64 (n:Int)] w fun e w'=>e=.returned (.int .u64 ((R.below n).1:Int))∧RdAt w' g (R.below n).2∧Only g w w':=by
 have hb:=rnumber_any R g w h;have hlt:=rnum_lt R;unfold RdV.below;clear h;generalize R.num=X at *;obtain ⟨v,R1⟩:=X;simp only at hb hlt ⊢;have hwrap:IntKind.u64.wrap (v:Int)=(v:Int):=by rw [IntKind.wrap_u64];omega
 clear hlt;have Hb:=Lib.hid hb;clear hb
 obtain ⟨b,hbe⟩:∃ b,decide (R1.e≠0)=b:=⟨_,rfl⟩;have Hfd:=Lib.hid (fun (y:World) (hy:RdAt y g R1)=>(show Calls Tryz.prog 151 #[.pointer (some ⟨g,0,none⟩)] y fun e w'=>e=.returned (.bool b)∧y=w' by rw [← hbe];exact failed_any R1 g y hy));have Hfl:=Lib.hid (fun (y:World) (hy:RdAt y g R1)=>fail_form R1 g y hy);by_cases he:R1.e=0
 ·
  rw [if_pos he];have hb0:b=false:=by rw [← hbe];simp [he]
  subst hb0;clear hbe he;by_cases hv:v<n
  ·
   have hv' : ¬ (n:Int)≤(v:Int):=by omega
   rw [if_pos hv];go_enter Tryz.func149,Tryz.ntmps149
   go_wp2_with (first
    | ((with_reducible refine Hb.out.mono ?_);rintro e w2 ⟨rfl,h2⟩;have H2:=Lib.hid h2;clear h2 Hb)
    | ((with_reducible refine (Hfd.out _ H2.out.1).mono ?_);rintro e w' ⟨rfl,rfl⟩))
   go_ret;exact ⟨rfl,H2.out⟩
  ·
   have hv':(n:Int)≤(v:Int):=by omega
   rw [if_neg hv];go_enter Tryz.func149,Tryz.ntmps149
   go_wp2_with (first
    | ((with_reducible refine Hb.out.mono ?_);rintro e w2 ⟨rfl,h2⟩;have H2:=Lib.hid h2;clear h2 Hb)
    | ((with_reducible refine (Hfd.out _ H2.out.1).mono ?_);rintro e w' ⟨rfl,rfl⟩)
    | ((with_reducible refine (Hfl.out _ H2.out.1).mono ?_);rintro e w4 ⟨rfl,h4⟩;have H4:=Lib.hid (And.intro h4.1 (H2.out.2.trans h4.2));clear h4))
   go_ret;exact ⟨rfl,H4.out⟩
 ·
  rw [if_neg he];have hb0:b=true:=by rw [← hbe];simp [he]
  subst hb0;clear hbe he;go_enter Tryz.func149,Tryz.ntmps149
  go_wp2_with (first
   | ((with_reducible refine Hb.out.mono ?_);rintro e w2 ⟨rfl,h2⟩;have H2:=Lib.hid h2;clear h2 Hb)
   | ((with_reducible refine (Hfd.out _ H2.out.1).mono ?_);rintro e w' ⟨rfl,rfl⟩))
  go_ret;exact ⟨rfl,H2.out⟩
set_option maxHeartbeats 4000000 in
theorem rbelow_any (R:RdV) (n g:Nat) (w:World) (h:RdAt w g R) :
  Calls Tryz.prog 153 #[.pointer (some ⟨g,0,none⟩),.int .u64 (n:Int)] w fun e w'=>e=.returned (.int .u64 ((R.below n).1:Int))∧RdAt w' g (R.below n).2∧Only g w w':=by
 have Hb:=Lib.hid (below_any R n g w h);clear h
 go_enter Tryz.func153,Tryz.ntmps153
 go_wp2_with ((with_reducible refine Hb.out.mono ?_);rintro e w2 ⟨rfl,h2⟩;have H2:=Lib.hid h2;clear h2 Hb);go_ret;exact ⟨rfl,H2.out⟩
set_option maxHeartbeats 4000000 in
theorem rstr2_any (R:RdV) (m g:Nat) (hm:m<1000000) (w:World) (h:RdAt w g R) :
  Calls Tryz.prog 88 #[.pointer (some ⟨g,0,none⟩),.int .i64 (m:Int)] w fun e w'=>e=.returned (.string ⟨(R.str m).1.toArray⟩)∧RdAt w' g (R.str m).2∧Only g w w':=by
 have hb:Calls Tryz.prog 149 #[.pointer (some ⟨g,0,none⟩),.int .u64 ((m:Int)+1)] w fun e w'=>e=.returned (.int .u64 ((R.below (m+1)).1:Int))∧RdAt w' g (R.below (m+1)).2∧Only g w w':=below_any R (m+1) g w h
 have hlt:=below_lt R (m+1) (by omega);clear h;unfold RdV.str;generalize R.below (m+1)=X at *;obtain ⟨n,R1⟩:=X;simp only at hb hlt ⊢;have Ht:=Lib.hid (fun (y:World) (hy:RdAt y g R1)=>take_any R1 n (by omega) g y hy);generalize R1.take n=Y at *;obtain ⟨t,ok,R2⟩:=Y;simp only at Ht ⊢;have hw1:IntKind.u64.wrap (m:Int)=(m:Int):=by rw [IntKind.wrap_u64];omega
 have hw2:IntKind.u64.wrap ((m:Int)+1)=((m+1:Nat):Int):=by rw [IntKind.wrap_u64];omega
 have hmx:max (m:Int) 0=(m:Int):=by omega
 have Hb:=Lib.hid hb;clear hb hlt
 go_enter Tryz.func88,Tryz.ntmps88
 go_wp2_with (first
  | ((with_reducible refine Hb.out.mono ?_);rintro e w2 ⟨rfl,h2⟩;have H2:=Lib.hid h2;clear h2 Hb)
  | ((with_reducible refine (Ht.out _ H2.out.1).mono ?_);rintro e w3 ⟨rfl,h3⟩;have H3:=Lib.hid (And.intro h3.1 (H2.out.2.trans h3.2));clear h3 H2 Ht))
 go_ret;exact ⟨rfl,H3.out⟩
theorem tab_cell {w:World} {g:Nat} {t:TabV} (h:TabAt w g t) {i:Nat} (hi:i<4):w.cell? ⟨g,i*3,none⟩=some (.int .u32 ((t.at_ i).seq.toNat:Int))∧w.cell? ⟨g,i*3+1,none⟩=some (.int .u8 ((t.at_ i).code:Int))∧w.cell? ⟨g,i*3+2,none⟩=some (.string (t.at_ i).text):=by
 obtain ⟨⟨a0,a1,a2⟩,⟨b0,b1,b2⟩,⟨c0,c1,c2⟩,⟨d0,d1,d2⟩⟩:=h.cells;have h1:i=0∨i=1∨i=2∨i=3:=by omega
 rcases h1 with rfl | rfl | rfl | rfl
 ·
  exact ⟨a0,a1,a2⟩
 ·
  exact ⟨b0,b1,b2⟩
 ·
  exact ⟨c0,c1,c2⟩
 ·
  exact ⟨d0,d1,d2⟩
theorem TabAt.below' {w w':World} {g:Nat} {t:TabV} (h:TabAt w g t) (hb:Below w.heap.size w w'):TabAt w' g t:=(hb.block g (Array.getElem?_eq_some_iff.1 h).1).trans h
def RdV.lastP (R:RdV):LastV × RdV :=
 if (R.below 4294967296).1=0 then (lastNone,(R.below 4294967296).2)
 else (⟨BitVec.ofNat 32 (R.below 4294967296).1,(R.below 4294967296).2.byte.1.toNat,⟨((R.below 4294967296).2.byte.2.str 64).1.toArray⟩⟩,((R.below 4294967296).2.byte.2.str 64).2)
def RdV.last (R:RdV):LastV × RdV:=(R.lastP.1,if 3<R.lastP.1.code then R.lastP.2.fail 4 else R.lastP.2)
def RdV.tabP (R:RdV):Nat→TabV × RdV
 | 0=>(tabNone,R)
 | i+1=>((R.tabP i).1.put i (R.tabP i).2.last.1,(R.tabP i).2.last.2)
def RdV.tab (R:RdV):TabV × RdV:=(if (R.tabP 4).2.e=0 then (R.tabP 4).1 else tabNone,(R.tabP 4).2)
structure But (g n:Nat) (w w':World):Prop where
 os:w'.os=w.os
 tape:w'.tape=w.tape
 output:w'.output=w.output
 size:w.heap.size≤w'.heap.size
 block:∀ k,k<n→k≠g→w'.heap[k]?=w.heap[k]?
theorem But.refl (g n:Nat) (w:World):But g n w w:=⟨rfl,rfl,rfl,Nat.le_refl _,fun _ _ _=>rfl⟩
theorem But.trans {g n:Nat} {a b c:World} (h:But g n a b) (k:But g n b c):But g n a c :=
 ⟨k.os.trans h.os,k.tape.trans h.tape,k.output.trans h.output,Nat.le_trans h.size k.size,fun i hi hg=>(k.block i hi hg).trans (h.block i hi hg)⟩
theorem But.mono {g n m:Nat} {a b:World} (h:But g n a b) (hm:m≤n):But g m a b:=⟨h.os,h.tape,h.output,h.size,fun k hk hg=>h.block k (by omega) hg⟩
theorem Only.but {g:Nat} {a b:World} (h:Only g a b) (n:Nat):But g n a b:=⟨h.os,h.tape,h.output,by rw [h.size];exact Nat.le_refl _,fun k _ hg=>h.block k hg⟩
theorem but_of {n:Nat} {a b:World} (h:Below n a b) (g:Nat):But g n a b:=⟨h.os,h.tape,h.output,h.size,fun k hk _=>h.block k hk⟩
theorem But.below {g n:Nat} {a b:World} (h:But g n a b) (hg:n≤g):Below n a b:=⟨h.os,h.tape,h.output,h.size,fun k hk=>h.block k hk (by omega)⟩
def LastRow (w:World) (g:Nat) (x:LastV):Prop:=w.heap[g]?=some (.cells (lastCells x).toArray 29 (0,0))
theorem LastRow.cells {w:World} {g:Nat} {x:LastV} (h:LastRow w g x):w.cell? ⟨g,0,none⟩=some (.int .u32 (x.seq.toNat:Int))∧w.cell? ⟨g,1,none⟩=some (.int .u8 (x.code:Int))∧w.cell? ⟨g,2,none⟩=some (.string x.text) :=
 ⟨cell_of_row _ _ _ _ _ _ h,cell_of_row _ _ _ _ _ _ h,cell_of_row _ _ _ _ _ _ h⟩
theorem LastRow.lt {w:World} {g:Nat} {x:LastV} (h:LastRow w g x):g<w.heap.size:=(Array.getElem?_eq_some_iff.1 h).1
theorem LastRow.thawed {w:World} {g:Nat} {x:LastV} (h:LastRow w g x) (j:Nat):w.frozen? ⟨g,j,none⟩=false:=by
 unfold LastRow at h;simp [World.frozen?,h]
theorem LastRow.only {w w':World} {g q:Nat} {x:LastV} (h:LastRow w g x) (hq:g≠q) (ho:Only q w w'):LastRow w' g x:=(ho.block g hq).trans h
theorem LastRow.code {w:World} {g:Nat} {x:LastV} (h:LastRow w g x) (c:Nat):LastRow (w.setCell ⟨g,1,none⟩ (.int .u8 (c:Int))) g ⟨x.seq,c,x.text⟩:=by
 unfold LastRow at *
 rw [heap_setCell_same _ _ _ _ _ _ h];rfl
theorem LastRow.text {w:World} {g:Nat} {x:LastV} (h:LastRow w g x) (t:ByteArray):LastRow (w.setCell ⟨g,2,none⟩ (.string t)) g ⟨x.seq,x.code,t⟩:=by
 unfold LastRow at *
 rw [heap_setCell_same _ _ _ _ _ _ h];rfl
theorem RdAt.set {w:World} {g q i:Nat} {R:RdV} {v:Value} (h:RdAt w g R) (hq:g≠q):RdAt (w.setCell ⟨q,i,none⟩ v) g R:=h.other hq (Only.set q i w v)
theorem bl_cases:∀ (a b:List UInt8),(Op.bytesLess a b || a == b) = !Op.bytesLess b a
 | [],[]=>rfl
 | [],b::m=>by simp [Op.bytesLess]
 | a::l,[]=>by simp [Op.bytesLess]
 | a::l,b::m=>by
  have h:=bl_cases l m;unfold Op.bytesLess;by_cases h1:a<b
  ·
   have h2 : ¬ b<a:=by rw [UInt8.lt_iff_toNat_lt] at *; omega
   have h3:a≠b:=by rintro rfl;exact h2 h1
   simp [h1,h2,Ne.symm h3]
  ·
   by_cases h2:b<a
   ·
    have h3:a≠b:=by rintro rfl;exact h1 h2
    simp [h1,h2,h3]
   ·
    have h3:a=b:=by rw [UInt8.lt_iff_toNat_lt] at *; exact UInt8.toNat_inj.1 (by omega)
    subst h3;simpa [h1] using h
theorem sle_not (k last:ByteArray):(Op.bytesLess k.toList last.toList || k.toList == last.toList) = !slt last k:=bl_cases _ _
def RdV.pair (R:RdV) (last:ByteArray):(ByteArray × ByteArray) × RdV :=
 ((⟨(R.str 16).1.toArray⟩,⟨((R.str 16).2.str 64).1.toArray⟩),if slt last ⟨(R.str 16).1.toArray⟩=true then ((R.str 16).2.str 64).2 else ((R.str 16).2.str 64).2.fail 4)
def RdV.keysP:Nat→Sh→ByteArray→RdV→Sh × RdV
 | 0,S,_,R=>(S,R)
 | n+1,S,last,R=>if (R.pair last).2.e=0 then RdV.keysP n (putSh (R.pair last).1.1 (R.pair last).1.2 S (S.look (R.pair last).1.1)) (R.pair last).1.1 (R.pair last).2 else (.nil,(R.pair last).2)
def RdV.keys (R:RdV):Sh × RdV:=RdV.keysP (R.below 257).1 .nil ByteArray.empty (R.below 257).2
theorem tsucc_u {n:Nat} (h:n<1000000):IntKind.u64.wrap ((n:Int)+1)=((n+1:Nat):Int):=by rw [IntKind.wrap_u64];omega
theorem TreeAt.only {w w':World} {g:Nat} {R R':RdV} (hr:RdAt w g R) (hr':RdAt w' g R') (ho:Only g w w'):∀ {T:Tr},TreeAt w T→TreeAt w' T
 | .nil,_=>trivial
 | .node b _ _ _ _ _,⟨h1,h2,h3⟩=>⟨(ho.block b (by
   rintro rfl;unfold NodeAt at h1;have:=hr.row;rw [h1] at this;simp at this)).trans h1,TreeAt.only hr hr' ho h2,TreeAt.only hr hr' ho h3⟩
theorem of_any1 (s:List UInt8) (_:s.length≤maxLen) (w:World) :
  Calls Tryz.prog 87 #[.string ⟨s.toArray⟩] w fun e w'=>e=.returned (.pointer (some ⟨w.heap.size,0,none⟩))∧w'=w.alloc (.cells (rdCells ⟨0,s⟩).toArray 246):=by
 go_enter Tryz.func87,Tryz.ntmps87
 go_wp2_with fail;go_ret;exact ⟨rfl,rfl⟩
structure Off (L:List Nat) (n:Nat) (w w':World):Prop where
 os:w'.os=w.os
 tape:w'.tape=w.tape
 output:w'.output=w.output
 size:w.heap.size≤w'.heap.size
 block:∀ k,k<n→k ∉ L→w'.heap[k]?=w.heap[k]?
theorem Off.refl (L:List Nat) (n:Nat) (w:World):Off L n w w:=⟨rfl,rfl,rfl,Nat.le_refl _,fun _ _ _=>rfl⟩
theorem Off.trans {L:List Nat} {n:Nat} {a b c:World} (h:Off L n a b) (k:Off L n b c):Off L n a c :=
 ⟨k.os.trans h.os,k.tape.trans h.tape,k.output.trans h.output,Nat.le_trans h.size k.size,fun i hi hg=>(k.block i hi hg).trans (h.block i hi hg)⟩
theorem Off.mono {L:List Nat} {n m:Nat} {a b:World} (h:Off L n a b) (hm:m≤n):Off L m a b:=⟨h.os,h.tape,h.output,h.size,fun k hk hg=>h.block k (by omega) hg⟩
theorem But.off {g n:Nat} {a b:World} (h:But g n a b) {L:List Nat} (hg:g ∈ L):Off L n a b:=⟨h.os,h.tape,h.output,h.size,fun k hk hl=>h.block k hk (fun e=>hl (e ▸ hg))⟩
theorem Only.off {g:Nat} {a b:World} (h:Only g a b) (n:Nat) {L:List Nat} (hg:g ∈ L):Off L n a b:=(h.but n).off hg
theorem Off.below {L:List Nat} {n:Nat} {a b:World} (h:Off L n a b) (hg:∀ g ∈ L,n≤g):Below n a b:=⟨h.os,h.tape,h.output,h.size,fun k hk=>h.block k hk (fun hl=>by have:=hg k hl;omega)⟩
def PartAt (w:World) (g:Nat) (M:MacV) (P:Option Addr):Prop:=w.heap[g]?=some (.cells (macCells M P).toArray 36 (0,0))
theorem treeAt_but {w w':World} {g:Nat} {R:RdV} (hr:RdAt w g R) (ho:But g w.heap.size w w'):∀ {T:Tr},TreeAt w T→TreeAt w' T
 | .nil,_=>trivial
 | .node b _ _ _ _ _,⟨h1,h2,h3⟩=>⟨(ho.block b (Array.getElem?_eq_some_iff.1 h1).1 (by
   rintro rfl;unfold NodeAt at h1;have:=hr.row;rw [h1] at this;simp at this)).trans h1,treeAt_but hr ho h2,treeAt_but hr ho h3⟩
theorem PartAt.cells {w:World} {g:Nat} {M:MacV} {P:Option Addr} (h:PartAt w g M P):w.cell? ⟨g,0,none⟩=some (.int .u8 (M.all:Int))∧w.cell? ⟨g,1,none⟩=some (.int .u8 (M.mem:Int))∧w.cell? ⟨g,14,none⟩=some (.pointer P) :=
 ⟨cell_of_row _ _ _ _ _ _ h,cell_of_row _ _ _ _ _ _ h,cell_of_row _ _ _ _ _ _ h⟩
theorem PartAt.thawed {w:World} {g:Nat} {M:MacV} {P:Option Addr} (h:PartAt w g M P) (j:Nat):w.frozen? ⟨g,j,none⟩=false:=by
 unfold PartAt at h;simp [World.frozen?,h]
theorem PartAt.tabs {w:World} {g:Nat} {M:MacV} {P:Option Addr} (h:PartAt w g M P):w.cell? ⟨g,2,none⟩=some (.int .u32 (M.tab.a.seq.toNat:Int))∧w.cell? ⟨g,3,none⟩=some (.int .u8 (M.tab.a.code:Int))∧w.cell? ⟨g,4,none⟩=some (.string M.tab.a.text)∧w.cell? ⟨g,5,none⟩=some (.int .u32 (M.tab.b.seq.toNat:Int))∧w.cell? ⟨g,6,none⟩=some (.int .u8 (M.tab.b.code:Int))∧w.cell? ⟨g,7,none⟩=some (.string M.tab.b.text)∧w.cell? ⟨g,8,none⟩=some (.int .u32 (M.tab.c.seq.toNat:Int))∧w.cell? ⟨g,9,none⟩=some (.int .u8 (M.tab.c.code:Int))∧w.cell? ⟨g,10,none⟩=some (.string M.tab.c.text)∧w.cell? ⟨g,11,none⟩=some (.int .u32 (M.tab.d.seq.toNat:Int))∧w.cell? ⟨g,12,none⟩=some (.int .u8 (M.tab.d.code:Int))∧w.cell? ⟨g,13,none⟩=some (.string M.tab.d.text) :=
 ⟨cell_of_row _ _ _ _ _ _ h,cell_of_row _ _ _ _ _ _ h,cell_of_row _ _ _ _ _ _ h,cell_of_row _ _ _ _ _ _ h,cell_of_row _ _ _ _ _ _ h,cell_of_row _ _ _ _ _ _ h,cell_of_row _ _ _ _ _ _ h,cell_of_row _ _ _ _ _ _ h,cell_of_row _ _ _ _ _ _ h,cell_of_row _ _ _ _ _ _ h,cell_of_row _ _ _ _ _ _ h,cell_of_row _ _ _ _ _ _ h⟩
set_option maxHeartbeats 4000000 in
theorem kvof_any (P:Option Addr) (w:World):Calls Tryz.prog 116 #[.pointer P] w fun e w'=>e=.returned (.agg #[.pointer P])∧Below w.heap.size w w':=by
 have hb:=(Below.refl w.heap.size w).alloc (Nat.le_refl _) (.cells #[.pointer P] 34);have h0:=heap_alloc_new w (.cells #[.pointer P] 34);go_enter Tryz.func116,Tryz.ntmps116
 go_wp2_with fail;generalize w.alloc (.cells #[.pointer P] 34)=w1 at *;have c0:w1.cell? ⟨w.heap.size,0,none⟩=some (.pointer P):=cell_of_row _ _ _ _ _ _ h0;refine bodyPost_ret (v:=.agg #[.pointer P]) (by simp [results,Tryz.results116,go_sem,c0] <;> rfl) rfl ?_;exact ⟨rfl,hb⟩
end Go.Proofs.YtbckjgageofldaaGreat
namespace Go.Proofs.YtbckjgageofldaaGreat.RegJ
open Go RegK
inductive Plan where
 | nil:Plan
 | step (k e:Nat) (r:Plan):Plan
 | fork (k:Nat) (r:Plan) (j:Nat) (s:Plan):Plan
inductive PlanO where
 | nil:PlanO
 | bad:PlanO
 | step (o:Oper) (e:Nat) (r:PlanO):PlanO
 | fork (o:Oper) (r:PlanO) (u:Oper) (s:PlanO):PlanO
def Plan.len:Plan→Nat
 | .nil=>0
 | .step _ _ r=>r.len+1
 | .fork _ r _ _=>r.len+1
def pickJ (l:List Oper):Plan→PlanO
 | .nil=>.nil
 | .step k e r=>match l[k]? with | some o=>.step o e (pickJ l r) | none=>.bad
 | .fork k r j s=>match l[k]?,l[j]? with | some o,some u=>.fork o (pickJ l r) u (pickJ l s) | _,_=>.bad
section
variable {F : Fence} {n : Nat} {P : Program} {ops : Array Oper} {Q : Exit → Act → World → Prop} {md : Region.Mode}
def canJ (F:Fence) (n:Nat) (P:Program) (ops:Array Oper) (Q:Exit→Act→World→Prop):PlanO→(World→Prop)→Act→World→Prop
 | .nil,_,a,w=>Q .normal a w
 | .bad,_,_,_=>False
 | .step o 0 r,R,a,w =>
  if Region.wanted o (yielded ops a.tmps) then ∃ v,(∀ x,R x→(execOp a.eval o).run P x=.ok (.value v) x)∧canJ F n P ops Q r R (a.put o.dst v) w
  else canJ F n P ops Q r R (a.put o.dst undef) w
 | .step o (_+1) r,R,a,w =>
  if Region.wanted o (yielded ops a.tmps) then o.wpIn F n P a w (fun a' w'=>∃ R':World→Prop,(∀ x,R' x→R x)∧R' w'∧canJ F n P ops Q r R' a' w') Q
  else (∀ f,o.about P w a.eval=some f→F.fn f)∧canJ F n P ops Q r R (a.put o.dst undef) w
 | .fork o r u s,R,a,w =>
  (if Region.wanted o (yielded ops a.tmps) then o.wpIn F n P a w (fun a' w'=>∃ R':World→Prop,(∀ x,R' x→R x)∧R' w'∧canJ F n P ops Q r R' a' w') Q
   else (∀ f,o.about P w a.eval=some f→F.fn f)∧canJ F n P ops Q r R (a.put o.dst undef) w) ∧
  (if Region.wanted u (yielded ops a.tmps) then u.wpIn F n P a w (fun a' w'=>∃ R':World→Prop,(∀ x,R' x→R x)∧R' w'∧canJ F n P ops Q s R' a' w') Q
   else (∀ f,u.about P w a.eval=some f→F.fn f)∧canJ F n P ops Q s R (a.put u.dst undef) w)
def canJB (md:Region.Mode) (ops:Array Oper):Plan→Array Bool→Bool
 | .nil,listed=>(Region.ready md ops listed).isEmpty
 | .step k 0 r,listed=>decide (k<ops.size) && (Region.ready md ops listed).contains k && Region.free md ops listed k && (match ops[k]? with | some o=>noCall o | none=>false) && canJB md ops r (listed.setIfInBounds k true)
 | .step k (_+1) r,listed=>decide (k<ops.size) && Region.ready md ops listed == [k] && canJB md ops r (listed.setIfInBounds k true)
 | .fork k r j s,listed=>decide (k<ops.size) && decide (j<ops.size) && Region.ready md ops listed == [k,j] && r.len == s.len && canJB md ops r (listed.setIfInBounds k true) && canJB md ops s (listed.setIfInBounds j true)
theorem any_canJ (hro:∀ o ∈ ops,noDefer o=true) (hs:Region.noSelect ops=true) (hQ:∀ c a d v w,Q (.panic c) (Act.put a d v) w→Q (.panic c) a w):∀ (r:Plan) (listed:Array Bool) (R:World→Prop) (a:Act) (w:World),
  listed.size=ops.size→Closed md ops listed→canJB md ops r listed=true→R w→canJ F n P ops Q (pickJ ops.toList r) R a w→anyR (fun _=>false) F n P md ops Q r.len listed R a w
 | .nil,_,_,_,_,_,_,hB,_,h=>⟨by simpa [canJB] using hB,h⟩
 | .step k 0 r,listed,R,a,w,hsz,hcl,hB,hR,h=>by
  simp only [canJB,Bool.and_eq_true,decide_eq_true_eq] at hB;obtain ⟨⟨⟨⟨hk,hr⟩,hf⟩,hc⟩,hB'⟩:=hB;have h0:ops[k]?=some ops[k]:=Array.getElem?_eq_getElem hk;have h0':ops.toList[k]?=some ops[k]:=by simp [hk]
  simp only [h0] at hc;have hsz':(listed.setIfInBounds k true).size=ops.size:=by simpa using hsz
  have hcl':=hcl.set (i:=k) (by simpa using hr);simp only [pickJ,h0',canJ] at h;have hbs:∀ j,listed.getD j true=false→j≠k→(fun _=>false) j=true→k ∈ back md ops ops.size (onsOf md ops j):=fun j _ _ h3=>by cases h3
  by_cases hw:Region.wanted ops[k] (yielded ops a.tmps)=true
  ·
   simp only [hw,if_true] at h;obtain ⟨v,hv,hK⟩:=h;exact first hro h0 hc (Region.noSelect_spec hs) (fun c a w=>hQ c a _ _ w) r.len listed R a w (Region.free_spec h0 hf) hbs hcl (by simpa using hr) hR (.inl ⟨hw,hv⟩) (any_canJ hro hs hQ r _ R _ w hsz' hcl' hB' hR hK)
  ·
   simp only [hw] at h;exact first hro h0 hc (Region.noSelect_spec hs) (fun c a w=>hQ c a _ _ w) r.len listed R a w (Region.free_spec h0 hf) hbs hcl (by simpa using hr) hR (.inr ⟨by simpa using hw,rfl⟩) (any_canJ hro hs hQ r _ R _ w hsz' hcl' hB' hR h)
 | .step k (m+1) r,listed,R,a,w,hsz,hcl,hB,hR,h=>by
  simp only [canJB,Bool.and_eq_true,beq_iff_eq,decide_eq_true_eq] at hB;obtain ⟨⟨hk,hr⟩,hB'⟩:=hB;have h0:ops[k]?=some ops[k]:=Array.getElem?_eq_getElem hk;have h0':ops.toList[k]?=some ops[k]:=by simp [hk]
  have hsz':(listed.setIfInBounds k true).size=ops.size:=by simpa using hsz
  have hcl':=hcl.set (i:=k) (by rw [hr];simp);simp only [pickJ,h0',canJ] at h;refine ⟨fun h=>(by rw [hr] at h;cases h),fun j hj=>?_⟩;rw [hr] at hj;obtain rfl:j=k:=by simpa using hj
  unfold wpOpIn;simp only [h0];by_cases hw:Region.wanted ops[j] (yielded ops a.tmps)=true
  ·
   simp only [hw,if_true] at h ⊢;exact Oper.wpIn_mono (fun a' w' ⟨R',g0,g1,g2⟩=>⟨R',g1,.inr g0,any_canJ hro hs hQ r _ R' a' w' hsz' hcl' hB' g1 g2⟩) h
  ·
   simp only [hw] at h ⊢;exact ⟨h.1,R,hR,.inr fun _ h=>h,any_canJ hro hs hQ r _ R _ w hsz' hcl' hB' hR h.2⟩
 | .fork k r j s,listed,R,a,w,hsz,hcl,hB,hR,h=>by
  simp only [canJB,Bool.and_eq_true,beq_iff_eq,decide_eq_true_eq] at hB;obtain ⟨⟨⟨⟨⟨hk,hj⟩,hr⟩,hlen⟩,hB1⟩,hB2⟩:=hB;have h0:ops[k]?=some ops[k]:=Array.getElem?_eq_getElem hk;have h0':ops.toList[k]?=some ops[k]:=by simp [hk]
  have g0:ops[j]?=some ops[j]:=Array.getElem?_eq_getElem hj;have g0':ops.toList[j]?=some ops[j]:=by simp [hj]
  have hcl1:=hcl.set (i:=k) (by rw [hr];simp);have hcl2:=hcl.set (i:=j) (by rw [hr];simp);simp only [pickJ,h0',g0',canJ] at h;obtain ⟨h1,h2⟩:=h;refine ⟨fun h=>(by rw [hr] at h;cases h),fun i hi=>?_⟩;rw [hr] at hi;have hi':i=k∨i=j:=by simpa using hi
  rcases hi' with rfl | rfl
  ·
   unfold wpOpIn;simp only [h0];by_cases hw:Region.wanted ops[i] (yielded ops a.tmps)=true
   ·
    simp only [hw,if_true] at h1 ⊢;exact Oper.wpIn_mono (fun a' w' ⟨R',g0,g1,g2⟩=>⟨R',g1,.inr g0,any_canJ hro hs hQ r _ R' a' w' (by simpa using hsz) hcl1 hB1 g1 g2⟩) h1
   ·
    simp only [hw] at h1 ⊢;exact ⟨h1.1,R,hR,.inr fun _ h=>h,any_canJ hro hs hQ r _ R _ w (by simpa using hsz) hcl1 hB1 hR h1.2⟩
  ·
   unfold wpOpIn;simp only [g0];by_cases hw:Region.wanted ops[i] (yielded ops a.tmps)=true
   ·
    simp only [hw,if_true] at h2 ⊢;exact Oper.wpIn_mono (fun a' w' ⟨R',g0,g1,g2⟩=>⟨R',g1,.inr g0,by
     have:=any_canJ hro hs hQ s _ R' a' w' (by simpa using hsz) hcl2 hB2 g1 g2;show anyR (fun _=>false) F n P md ops Q r.len _ _ _ _;rw [hlen];exact this⟩) h2
   ·
    simp only [hw] at h2 ⊢;exact ⟨h2.1,R,hR,.inr fun _ h=>h,by
     have:=any_canJ hro hs hQ s _ R _ w (by simpa using hsz) hcl2 hB2 hR h2.2;show anyR (fun _=>false) F n P md ops Q r.len _ _ _ _;rw [hlen];exact this⟩
structure Can (F:Fence) (n:Nat) (P:Program) (ops:Array Oper) (Q:Exit→Act→World→Prop) (l:PlanO) (R:World→Prop) (a:Act) (w:World):Prop where
 out:canJ F n P ops Q l R a w
theorem wpIn_region_plan (R:World→Prop) (π:Plan) {id:Nat} {a:Act} {w:World} {l:List Oper} (hro:l.all noDefer=true) (hm:P.follows .mixedOrders=true)
  (hB:(Region.noSelect l.toArray && canJB .any l.toArray π (Array.replicate l.length false) && (π.len == l.length))=true)
  (hQ:∀ c a d v w,Q (.panic c) (Act.put a d v) w→Q (.panic c) a w) (hR:R { w with drawn:=w.drawn+1 })
  (h:Can F n P l.toArray Q (pickJ l π) R a { w with drawn:=w.drawn+1 }):(Code.region id l.toArray true).wpIn F n P Q a w:=by
 simp only [Bool.and_eq_true,beq_iff_eq] at hB;obtain ⟨⟨h1,h2⟩,h4⟩:=hB;refine wpIn_region_any hm (any_of (bar:=fun _=>false) _ _ R _ _ ?_);have:=any_canJ (F:=F) (n:=n) (P:=P) (ops:=l.toArray) (md:=.any) (Q:=Q) (fun o ho=>List.all_eq_true.1 hro o (by simpa using ho)) h1 hQ π (Array.replicate l.length false) R a _ (by simp) (Closed.none _) h2 hR (by simpa using h.out);simpa [h4] using this
theorem reads {R:World→Prop} {a:Act} {w:World} {o:Oper} {r:PlanO}
  (h:∀ K:Act→Prop,(∀ a,Can F n P ops Q r R a w→K a)→if Region.wanted o (yielded ops a.tmps) then ∃ v,(∀ x,R x→(execOp a.eval o).run P x=.ok (.value v) x)∧K (a.put o.dst v) else K (a.put o.dst undef)) :
  Can F n P ops Q (.step o 0 r) R a w:=⟨h _ (fun _ h=>h.out)⟩
theorem turns (hfn:∀ f,F.fn f) {R:World→Prop} {a:Act} {w:World} {o:Oper} {r:PlanO}
  (h:∀ (K:Act→World→Prop) (K0:Act→Prop),(∀ (R':World→Prop) a w,(∀ x,R' x→R x)→R' w→Can F n P ops Q r R' a w→K a w)→(∀ a,Can F n P ops Q r R a w→K0 a) →
   if Region.wanted o (yielded ops a.tmps) then o.wpIn F n P a w K Q else K0 (a.put o.dst undef)) :
  Can F n P ops Q (.step o 1 r) R a w:=by
 have h':=h (fun a' w'=>∃ R':World→Prop,(∀ x,R' x→R x)∧R' w'∧canJ F n P ops Q r R' a' w') (fun a=>canJ F n P ops Q r R a w) (fun R' _ _ h0 h1 h2=>⟨R',h0,h1,h2.out⟩) (fun _ h=>h.out);refine ⟨?_⟩;simp only [canJ];split
 ·
  rename_i hw;rw [if_pos hw] at h';exact h'
 ·
  rename_i hw;rw [if_neg hw] at h';exact ⟨fun f _=>hfn f,h'⟩
theorem forks {R:World→Prop} {a:Act} {w:World} {o u:Oper} {r s:PlanO} (h1:Can F n P ops Q (.step o 1 r) R a w) (h2:Can F n P ops Q (.step u 1 s) R a w):Can F n P ops Q (.fork o r u s) R a w:=⟨⟨h1.out,h2.out⟩⟩
theorem nil {R:World→Prop} {a:Act} {w:World} (h:Q .normal a w):Can F n P ops Q .nil R a w:=⟨h⟩
end
end Go.Proofs.YtbckjgageofldaaGreat.RegJ
