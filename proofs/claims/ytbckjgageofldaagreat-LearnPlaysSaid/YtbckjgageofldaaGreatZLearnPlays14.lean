/- Machines, plain: what stays true of a machine's parts behind commands: a machine whose bytes can be told. No condition. -/
import Derived.Test.YtbckjgageofldaaGreatZLearnPlays8
import Derived.Test.YtbckjgageofldaaGreatZLearnPlays13
import Derived.Test.YtbckjgageofldaaGreatZLearnPlays11
import Derived.Deep.DeepCutAuto
import Derived.Test.YtbckjgageofldaaGreatZLearnPlays2
import Derived.Test.YtbckjgageofldaaGreatZLearnPlays10
import Derived.Test.YtbckjgageofldaaGreatZLearnPlays9
import Derived.Test.YtbckjgageofldaaGreatZLearnPlays1
import Derived.Test.YtbckjgageofldaaGreatZLearnPlays3
import Derived.Test.YtbckjgageofldaaGreatZLearnPlays12
set_option maxRecDepth 100000
namespace Go.Proofs.YtbckjgageofldaaGreat
open Go.RowKit
structure LastFit (x:LastV):Prop where
 code:x.code≤3
 text:x.text.size≤64
 zero:x.seq.toNat=0→x=lastNone
structure MacFit (M:MacV):Prop where
 all:M.all<128
 mem:M.mem<128
 tab:∀ n,LastFit (M.tab.at_ n)
 kv:KvInv M.sh
 key:∀ p ∈ M.sh.kv,1≤p.1.size∧p.1.size≤16
theorem lastFit_none:LastFit lastNone:=⟨by decide,by decide,fun _=>rfl⟩
theorem at_none (n:Nat):tabNone.at_ n=lastNone:=by
 unfold TabV.at_ tabNone;split
 ·
  rfl
 ·
  split
  ·
   rfl
  ·
   split <;> rfl
theorem both_small (x y:Nat):bothS x y<128:=by
 have:bothS x y≤127:=Nat.and_le_right;omega
theorem macFit_none:MacFit macNone:=⟨by decide,by decide,fun n=>by show LastFit (tabNone.at_ n);rw [at_none];exact lastFit_none,KvInv.nil,fun p hp=>by simp [macNone,Sh.kv] at hp⟩
theorem macFit_new (al fi:Nat):MacFit (newM al fi):=by
 unfold newM;split
 ·
  exact ⟨both_small _ _,both_small _ _,fun n=>by show LastFit (tabNone.at_ n);rw [at_none];exact lastFit_none,KvInv.nil,fun p hp=>by simp [Sh.kv] at hp⟩
 ·
  exact macFit_none
theorem may_key1 {c:CmdV} (h:mayC c=true) (hk:c.kind=2∨c.kind=4):1≤c.key.size:=by
 unfold mayC at h;simp only [Bool.and_eq_true,decide_eq_true_eq] at h;have h1:=h.1.1.1.1.2;rcases hk with e | e <;> (rw [e] at h1;simpa [hasOf,mostOf] using h1)
theorem put_mem {S:Sh} (h:Asc S.kv) {k v:ByteArray} {p:ByteArray × ByteArray} (hp:p ∈ (putSh k v S (S.look k)).kv):p=(k,v)∨p ∈ S.kv:=by
 rw [put_kv' h] at hp;exact ins_mem hp
theorem del_mem {S:Sh} (h:Asc S.kv) {k:ByteArray} {p:ByteArray × ByteArray} (hp:p ∈ (delSh k S (S.look k)).kv):p ∈ S.kv:=by
 rw [del_kv' h] at hp;exact (rm_mem hp).1
theorem kvDo_mem {S:Sh} (h:Asc S.kv) (c:CmdV) {p:ByteArray × ByteArray} (hp:p ∈ (kvDo S c).sh.kv):p ∈ S.kv∨(p=(c.key,c.fresh)∧1≤c.key.size∧c.key.size≤16):=by
 unfold kvDo at hp;by_cases hm:mayC c=true
 ·
  rw [if_pos hm] at hp;have hk16:=may_key hm;by_cases h1:c.kind=1
  ·
   rw [if_pos h1] at hp;unfold kvGet at hp;cases hl:S.look c.key with
   | none=>rw [hl] at hp;exact .inl hp
   | some v=>rw [hl] at hp;exact .inl hp
  rw [if_neg h1] at hp;by_cases h2:c.kind=2
  ·
   rw [if_pos h2] at hp;have hk1:=may_key1 hm (.inl h2);unfold kvPut at hp;have hq:=@put_mem S h c.key c.fresh p;cases hl:S.look c.key with
   | none =>
    rw [hl] at hp hq;simp only at hp;split at hp
    ·
     exact .inl hp
    ·
     exact (hq hp).elim (fun e=>.inr ⟨e,hk1,hk16⟩) .inl
   | some v =>
    rw [hl] at hp hq;exact (hq hp).elim (fun e=>.inr ⟨e,hk1,hk16⟩) .inl
  rw [if_neg h2] at hp;by_cases h3:c.kind=3
  ·
   rw [if_pos h3] at hp;unfold kvDel at hp;have hq:=@del_mem S h c.key p;cases hl:S.look c.key with
   | none=>rw [hl] at hp;exact .inl hp
   | some v=>rw [hl] at hp hq;exact .inl (hq hp)
  rw [if_neg h3] at hp;by_cases h4:c.kind=4
  ·
   rw [if_pos h4] at hp;have hk1:=may_key1 hm (.inr h4);unfold kvCas at hp;have hq:=@put_mem S h c.key c.fresh p;cases hl:S.look c.key with
   | none=>rw [hl] at hp;exact .inl hp
   | some v =>
    rw [hl] at hp hq;simp only at hp;split at hp
    ·
     exact (hq hp).elim (fun e=>.inr ⟨e,hk1,hk16⟩) .inl
    ·
     exact .inl hp
  rw [if_neg h4] at hp;exact .inl hp
 ·
  rw [if_neg hm] at hp;exact .inl hp
theorem kvDo_says {S:Sh} (h:KvInv S) (c:CmdV):(kvDo S c).code≤2∧(kvDo S c).text.size≤64:=by
 have hs:=(kv_says h c).2;have he:ByteArray.empty.size≤64:=by decide
 cases hs with
 | miss _ _ h1 h2=>rw [h1,h2];exact ⟨by decide,he⟩
 | no _ h1 h2=>rw [h1];exact ⟨by decide,h2⟩
 | got _ h1 h2 h3=>rw [h2];exact ⟨by decide,h.look h3⟩
 | put _ h1 h2 h3=>rw [h1,h2];exact ⟨by decide,he⟩
 | del _ h1 h2 h3=>rw [h1];exact ⟨by decide,h.look h2⟩
 | cas _ h1 h2 h3 h4=>rw [h1,h2];exact ⟨by decide,he⟩
theorem macFresh_fit {M:MacV} (h:MacFit M) (c:CmdV):MacFit (macFresh M c).1∧(macFresh M c).2.1≤3∧(macFresh M c).2.2.size≤64:=by
 have he:ByteArray.empty.size≤64:=by decide
 unfold macFresh;split
 ·
  split
  ·
   exact ⟨⟨h.all,both_small _ _,h.tab,h.kv,h.key⟩,Nat.zero_le _,he⟩
  ·
   exact ⟨h,(show 2≤3 by omega),he⟩
 ·
  obtain ⟨h1,h2⟩:=kvDo_says h.kv c;exact ⟨⟨h.all,h.mem,h.tab,(kv_says h.kv c).1,fun p hp=>(kvDo_mem h.kv.asc c hp).elim (h.key p) (fun e=>by rw [e.1];exact e.2)⟩,Nat.le_succ_of_le h1,h2⟩
theorem TabV.put_any {t:TabV} {n:Nat} (x:LastV) (m:Nat):(t.put n x).at_ m=x∨(t.put n x).at_ m=t.at_ m:=by
 unfold TabV.put TabV.at_;by_cases h0:n=0 <;> by_cases h1:n=1 <;> by_cases h2:n=2 <;> by_cases g0:m=0 <;> by_cases g1:m=1 <;> by_cases g2:m=2 <;> simp [h0,h1,h2,g0,g1,g2] <;> omega
theorem macDo_fit {M:MacV} (h:MacFit M) (c:CmdV):MacFit (macDo M c).m:=by
 unfold macDo;by_cases hm:mayC c=true
 ·
  rw [if_pos hm];split
  ·
   obtain ⟨h1,h2,h3⟩:=macFresh_fit h c;have hsq:c.seq.toNat≠0:=by
    unfold mayC at hm;simp only [Bool.and_eq_true,decide_eq_true_eq] at hm;exact hm.1.1.1.1.1.2
   refine ⟨h1.all,h1.mem,fun n=>?_,h1.kv,h1.key⟩;show LastFit ((M.tab.put c.client.toNat ⟨c.seq,(macFresh M c).2.1,(macFresh M c).2.2⟩).at_ n);rcases TabV.put_any (t:=M.tab) (n:=c.client.toNat) ⟨c.seq,(macFresh M c).2.1,(macFresh M c).2.2⟩ n with e | e
   ·
    rw [e];exact ⟨h2,h3,fun e0=>absurd e0 hsq⟩
   ·
    rw [e];exact h.tab n
  ·
   exact h
 ·
  rw [if_neg hm];exact h
theorem MacFit.ok {M:MacV} (h:MacFit M):MacOk M:=⟨by have:=h.all;omega,h.kv⟩
theorem bigB_over (n:Nat):∀ k,n / 256 ^ k=0→∀ j,1≤j→n / 256 ^ (j - 1)≠0→j≤k:=by
 intro k hk j hj hn;by_cases h:j≤k
 ·
  exact h
 ·
  exfalso;apply hn
  have h1:256 ^ k≤256 ^ (j - 1):=Nat.pow_le_pow_right (by omega) (by omega);have h2:n<256 ^ k:=by
   have:=(Nat.div_eq_zero_iff.1 hk);rcases this with h3 | h3
   ·
    have:=Nat.pow_pos (n:=k) (show 0<256 by omega);omega
   ·
    exact h3
  exact Nat.div_eq_of_lt (by omega)
theorem wid_low {n:Nat} (hn:n≠0) (h64:n<18446744073709551616):n / 256 ^ (wid n)=0∧n / 256 ^ (wid n - 1)≠0:=by
 unfold wid;rw [if_neg hn];repeat' split
 all_goals (simp only [Nat.reducePow,Nat.reduceSub];omega)
set_option maxHeartbeats 4000000 in
theorem rnum_any (n:Nat) (hn:n<18446744073709551616) (w:World) :
  Calls Tryz.prog 119 #[.int .u64 (n:Int)] w fun e w'=>e=.returned (.string ⟨(numL n).toArray⟩)∧Below w.heap.size w w':=by
 obtain ⟨i0,hi0,hz0,hs0,hb0⟩:=info_parts info8;by_cases h248:n<248
 ·
  have h248':(n:Int)<248:=by omega
  have hmod:(n:Int) % 256=(n:Int):=by omega
  have hnum:numL n=[UInt8.ofNat n]:=by unfold numL;rw [if_pos h248]
  have hc:=(ReadB.one w (UInt8.ofNat n) 5).conv Tryz.underlying44 Tryz.underlying5 Tryz.underlying9;rw [show ((UInt8.ofNat n).toNat:Int)=(n:Int) by simp;omega] at hc;rw [hnum];have Hb:=Lib.hid ((Below.refl w.heap.size w).alloc (Nat.le_refl _) (.cells #[.int .u8 (n:Int)] 5));go_enter Tryz.func119,Tryz.ntmps119
  go_wp2_with fail;go_ret;exact ⟨rfl,Hb.out⟩
 ·
  have h248' : ¬ (n:Int)<248:=by omega
  go_enter Tryz.func119,Tryz.ntmps119
  go_wp2_with fail;go_loopw [0,3] (fun s0 s3 wr=>∃ j:Nat,j≤wid n∧s0=.int .u64 ((n / 256 ^ j:Nat):Int)∧OwnB wr w.heap.size 5 s3 (bigB j n)∧Below w.heap.size w wr) (fun s0 _ _=>(intOf s0).toNat)
  case atStart=>exact ⟨0,by omega,by simp,⟨rfl,.inl ⟨rfl,rfl⟩⟩,Below.refl _ _⟩
  case round =>
   obtain ⟨j,hj,rfl,ho,hb⟩:=hrel;have Ho:=Lib.hid ho;clear ho
   have Hb:=Lib.hid hb;clear hb
   have Hn1:=Lib.hid (show bigB (j+1) n=[UInt8.ofNat (n / 256 ^ j)]++bigB j n from rfl);have hdiv:n / 256 ^ (j+1)=n / 256 ^ j / 256:=by rw [Nat.pow_succ,Nat.div_div_eq_div_mul]
   have Hdiv:=Lib.hid hdiv;clear hdiv
   have Hw:=Lib.hid (wid_low (n:=n) (by omega) hn);have hw8:=wid_le n;have hlen:=bigB_len j n;by_cases hz:n / 256 ^ j=0
   ·
    have hjw:j=wid n:=by
     rcases Nat.lt_or_ge j (wid n) with h | h
     ·
      exfalso;apply Hw.out.2
      have h1:256 ^ j≤256 ^ (wid n - 1):=Nat.pow_le_pow_right (by omega) (by omega);have h2:n<256 ^ j:=by
       rcases Nat.div_eq_zero_iff.1 hz with h3 | h3
       ·
        have:=Nat.pow_pos (n:=j) (show 0<256 by omega);omega
       ·
        exact h3
      exact Nat.div_eq_of_lt (by omega)
     ·
      omega
    have hnum:numL n=[UInt8.ofNat (247+j)]++bigB j n:=by unfold numL;rw [if_neg h248, ← hjw];rfl
    have Hnum:=Lib.hid hnum;clear hnum
    rw [hz];have hmod:(247+(j:Int)) % 256=247+(j:Int):=by omega
    have hob:=OwnB.one wr (UInt8.ofNat (247+j)) 5;have hb8:((UInt8.ofNat (247+j)).toNat:Int)=247+(j:Int):=by simp;omega
    rw [hb8] at hob;have Hob:=Lib.hid hob;clear hob
    obtain ⟨a,cap,rfl,_,_⟩:=Ho.out.read.out;rw [hlen];have Hrd:=Lib.hid (show ReadB (wr.alloc (.cells #[.int .u8 (247+(j:Int))] 5)) (.slice a j cap) (bigB j n) by have h:=Ho.out.read.below ((Below.refl wr.heap.size wr).alloc (Nat.le_refl _) (.cells #[.int .u8 (247+(j:Int))] 5));rwa [hlen] at h);have Hlt:=Lib.hid (show w.heap.size≤wr.heap.size from Hb.out.size);clear hjw hw8;go_wp2_with (at_builtin;refine wpList_append_read rfl _ _ 44 rfl wr.heap.size 5 i0 (.int .u8 0) Tryz.underlying44 hi0 hz0 hs0 hb0 rfl _ _ _ rfl Hob.out _ _ rfl Hrd.out (by rw [hlen];simp;omega) (by simp) ?_;intro v4 w4 ho4 hg4;have Hg4:=Lib.hid hg4;clear hg4;have ho5:=OwnB.of ho4 rfl rfl;rw [← Hnum.out] at ho5;have hcv:=ho5.read.conv Tryz.underlying44 Tryz.underlying5 Tryz.underlying9;clear ho4 ho5);go_ret;exact ⟨rfl,below_grown Hg4.out (Hb.out.alloc Hlt.out _) (by simp;have:=Hlt.out;omega) (fun k hk=>by cases hk;exact Hlt.out)⟩
   ·
    have hj1:j+1≤wid n:=bigB_over n (wid n) Hw.out.1 (j+1) (by omega) (by simpa using hz);obtain ⟨m,hm⟩:∃ m,n / 256 ^ j=m:=⟨_,rfl⟩;rw [hm] at hz Hdiv Hn1 ⊢;have hm64:m<18446744073709551616:=by rw [← hm];exact Nat.lt_of_le_of_lt (Nat.div_le_self _ _) hn
    have Hm:=Lib.hid hm;clear hm
    have hz':(0:Int)<(m:Int):=by omega
    have hob:=OwnB.one wr (UInt8.ofNat m) 5;have hb8:((UInt8.ofNat m).toNat:Int)=(m:Int) % 256:=by simp
    rw [hb8] at hob;have Hob:=Lib.hid hob;clear hob hb8
    have Hrd:=Lib.hid (Ho.out.read.below ((Below.refl wr.heap.size wr).alloc (Nat.le_refl _) (.cells #[.int .u8 ((m:Int) % 256)] 5)));have Hlt:=Lib.hid (show w.heap.size≤wr.heap.size from Hb.out.size);go_wp2_with (at_builtin;refine wpList_append_read rfl _ _ 44 rfl wr.heap.size 5 i0 (.int .u8 0) Tryz.underlying44 hi0 hz0 hs0 hb0 rfl _ _ _ rfl Hob.out _ _ rfl Hrd.out (by rw [hlen];simp;omega) (by simp) ?_;intro v4 w4 ho4 hg4;have Hg4:=Lib.hid hg4;clear hg4;have Ho4:=Lib.hid ho4;clear ho4);go_roundw
    case rel =>
     refine ⟨j+1,hj1,by rw [Hdiv.out];rfl,?_,below_grown Hg4.out (Hb.out.alloc Hlt.out _) (by simp;have:=Hlt.out;omega) (fun k hk=>by cases hk;exact Hlt.out)⟩;rw [Hn1.out];exact (OwnB.of Ho4.out rfl rfl).mono Hlt.out
    case measure=>simp [intOf];omega
theorem str_app (l:List UInt8) (s:ByteArray):(⟨l.toArray⟩:ByteArray)++s=⟨(l++s.data.toList).toArray⟩:=by
 apply ByteArray.ext
 rw [ByteArray.data_append];apply Array.ext'
 simp
theorem rstr_any (s:ByteArray) (hs:s.size≤1099511627776) (w:World) :
  Calls Tryz.prog 61 #[.string s] w fun e w'=>e=.returned (.string ⟨(strL s).toArray⟩)∧Below w.heap.size w w':=by
 have hn:=rnum_any s.size (by omega) w;have h9:(⟨(numL s.size).toArray⟩:ByteArray).size≤9:=by
  show (numL s.size).toArray.size≤9;rw [List.size_toArray];exact (numL_len s.size).1
 obtain ⟨X,hX⟩:∃ X:ByteArray,(⟨(numL s.size).toArray⟩:ByteArray)=X:=⟨_,rfl⟩;rw [hX] at hn h9;have HX:=Lib.hid hX;clear hX
 have Hn:=Lib.hid hn;clear hn
 go_enter Tryz.func61,Tryz.ntmps61
 go_wp2_with ((with_reducible refine Hn.out.mono ?_);rintro e w1 ⟨rfl,hb⟩;have Hb:=Lib.hid hb;clear hb);go_ret;refine ⟨?_,Hb.out⟩;rw [← HX.out,str_app];rfl
def lastB (x:LastV):List UInt8:=numL x.seq.toNat++(if x.seq.toNat=0 then [] else UInt8.ofNat x.code::strL x.text)
def tabB (t:TabV):Nat→List UInt8
 | 0=>[]
 | n+1=>tabB t n++lastB (t.at_ n)
structure LastOk (x:LastV):Prop where
 code:x.code<256
 text:x.text.size≤4096
structure TabOk (t:TabV):Prop where
 a:LastOk t.a
 b:LastOk t.b
 c:LastOk t.c
 d:LastOk t.d
theorem TabOk.at_ {t:TabV} (h:TabOk t) (n:Nat):LastOk (t.at_ n):=by
 unfold TabV.at_;repeat' split
 ·
  exact h.a
 ·
  exact h.b
 ·
  exact h.c
 ·
  exact h.d
theorem lastB_len {x:LastV} (h:LastOk x):(lastB x).length≤4200:=by
 have h1:=(numL_len x.seq.toNat).1;have h2:=strL_len x.text;have h3:=h.text;unfold lastB;rw [List.length_append];split
 ·
  simp;omega
 ·
  simp;omega
theorem tabB_len {t:TabV} (h:TabOk t):∀ n,(tabB t n).length≤4200*n
 | 0=>by simp [tabB]
 | n+1=>by
  have:=lastB_len (h.at_ n);have:=tabB_len h n;rw [tabB,List.length_append];omega
theorem tab_index (t:TabV) (i:Nat) (hi:i<4) (w:World):(Instr.index 31 (.agg (tabCells t).toArray) (.int .i64 (i:Int))).run Tryz.prog w=.ok (.agg (lastCells (t.at_ i)).toArray) w:=by
 obtain ⟨i0,h0,hz⟩:∃ i,Tryz.prog.info? 29=some i∧i.size=3:=by
  have h:=infoLast;cases hc:Tryz.prog.info? 29 with
  | none=>rw [hc] at h;cases h
  | some i=>rw [hc] at h;exact ⟨i,rfl,by simpa using h⟩
 have hp:(part 29 (tabCells t).toArray (i*3)).run Tryz.prog w=.ok (.agg (lastCells (t.at_ i)).toArray) w:=by
  have e:List.take 3 (List.drop (i*3) (tabCells t))=lastCells (t.at_ i):=by
   have h:i=0∨i=1∨i=2∨i=3:=by omega
   rcases h with rfl | rfl | rfl | rfl <;> rfl
  simp [part,Sem.run_bind,typeInfo,sizeOf,h0,hz,e]
 have hi':(i:Int)<4:=by omega
 unfold Instr.index;simp [asIntOf,Sem.run_bind,run_underlying Tryz.underlying31,sizeOf,typeInfo,h0,hz,hp];exact fun h=>absurd h (by omega)
def LastCells (g:Nat) (x:LastV) (y:World):Prop :=
 y.cell? ⟨g,0,none⟩=some (.int .u32 (x.seq.toNat:Int))∧y.cell? ⟨g,1,none⟩=some (.int .u8 (x.code:Int))∧y.cell? ⟨g,2,none⟩=some (.string x.text)
theorem LastCells.new (w:World) (x:LastV):LastCells w.heap.size x (w.alloc (.cells (lastCells x).toArray 29)):=by
 have h:=heap_alloc_new w (.cells (lastCells x).toArray 29);exact ⟨cell_of_row _ _ _ _ _ _ h,cell_of_row _ _ _ _ _ _ h,cell_of_row _ _ _ _ _ _ h⟩
theorem LastCells.same {g:Nat} {x:LastV} {y y':World} (h:LastCells g x y) (e:y'.heap[g]?=y.heap[g]?):LastCells g x y':=by
 obtain ⟨h1,h2,h3⟩:=h;exact ⟨(World.cell?_of_block (a:=⟨g,0,none⟩) e).trans h1,(World.cell?_of_block (a:=⟨g,1,none⟩) e).trans h2,(World.cell?_of_block (a:=⟨g,2,none⟩) e).trans h3⟩
set_option maxHeartbeats 8000000 in
theorem tput_any (t:TabV) (ht:TabOk t) (v:Value) (l:List UInt8) (hl:l.length≤1099500000000) (w:World) (h:ReadB w v l) :
  Calls Tryz.prog 51 #[.agg (tabCells t).toArray,v] w fun e w'=>∃ v',e=.returned v'∧OwnB w' w.heap.size 5 v' (l++tabB t 4)∧Below w.heap.size w w':=by
 obtain ⟨i0,hi0,hz0,hs0,hb0⟩:=info_parts info8;have hT0:TabAt (w.alloc (.cells (tabCells t).toArray 31)) w.heap.size t:=heap_alloc_new w _;have hb1:=(Below.refl w.heap.size w).alloc (Nat.le_refl _) (.cells (tabCells t).toArray 31);have hr1:=h.below hb1;have hidx:=fun (i:Nat) (hi:i<4) (y:World)=>tab_index t i hi y
 obtain ⟨V,hV⟩:∃ V:Value,.agg (tabCells t).toArray=V:=⟨_,rfl⟩;rw [hV] at hidx;rw [tab_eta] at hV;have Hidx:=Lib.hid hidx;clear hidx
 go_enter Tryz.func51,Tryz.ntmps51
 go_upto_region 1 with fail;change Code.wp _ _ _ _ (w.alloc (.cells (tabCells t).toArray 31));generalize w.alloc (.cells (tabCells t).toArray 31)=w1 at *;obtain ⟨⟨a0,a1,a2⟩,⟨b0,b1,b2⟩,⟨c0,c1,c2⟩,⟨d0,d1,d2⟩⟩:=hT0.cells;go_wp2_with fail;clear a0 a1 a2 b0 b1 b2 c0 c1 c2 d0 d1 d2 hT0 hV h;have Hb1:=Lib.hid hb1;clear hb1
 have Hr1:=Lib.hid hr1;clear hr1
 go_loopw [1,8] (fun s1 s8 wr=>∃ (i:Nat),i≤4∧s8=.int .i64 (i:Int)∧ReadB wr s1 (l++tabB t i)∧(1≤i→OwnB wr w.heap.size 5 s1 (l++tabB t i))∧Below w.heap.size w wr) (fun _ s8 _=>4 - (intOf s8).toNat)
 case atStart=>exact ⟨0,by omega,rfl,by simpa [tabB] using Hr1.out,fun h=>by omega,Hb1.out⟩
 case round =>
  clear Hr1 Hb1;obtain ⟨i,hi,rfl,hrd,hown,hbel⟩:=hrel;have hlen:=tabB_len ht i;have Hbel:=Lib.hid hbel;clear hbel
  by_cases hi4:i<4
  ·
   have hi4':(i:Int)<4:=by omega
   have hix:=Hidx.out i hi4;have hok:=ht.at_ i;have hsucc:tabB t (i+1)=tabB t i++lastB (t.at_ i):=rfl;have Hsucc:=Lib.hid hsucc;clear hsucc
   obtain ⟨x,hx⟩:∃ x,t.at_ i=x:=⟨_,rfl⟩;rw [hx] at hix hok Hsucc;clear hx hown;have hcode:=hok.code;have htext:=hok.text;have Hok:=Lib.hid hok;clear hok
   have hixA:∀ y,(Instr.index 31 V (.int .i64 (i:Int))).run Tryz.prog y=.ok (.agg #[.int .u32 (x.seq.toNat:Int),.int .u8 (x.code:Int),.string x.text]) y:=hix;clear hix;have Hrd:=Lib.hid hrd;clear hrd
   have hL:=LastCells.new wr x;have hba:=(Below.refl wr.heap.size wr).alloc (Nat.le_refl _) (.cells (lastCells x).toArray 29);have hisu:=tsucc (n:=i) (by omega);go_upto_region 4 with fail;change Code.wp _ _ _ _ (wr.alloc (.cells (lastCells x).toArray 29));have HLt:=Lib.hid (show wr.heap.size<(wr.alloc (.cells (lastCells x).toArray 29)).heap.size by simp);generalize wr.alloc (.cells (lastCells x).toArray 29)=w2 at *;have HL:=Lib.hid hL;obtain ⟨l0,l1,l2⟩:=hL;have Hba:=Lib.hid hba;clear hba
   have hsq:(x.seq.toNat:Int)<4294967296:=by have:=x.seq.isLt;omega
   have hnum:=num_any _ (l++tabB t i) x.seq.toNat (by have:=x.seq.isLt;omega) (by rw [List.length_append];omega) w2 (Hrd.out.below Hba.out);have Hnum:=Lib.hid hnum;clear hnum
   clear hixA;go_upto_region 5 with ((with_reducible refine Hnum.out.mono ?_);rintro e w3 ⟨v3,rfl,ho3,hb3⟩;have Ho3:=Lib.hid ho3;clear ho3;have Hb3:=Lib.hid hb3;clear hb3)
   clear l0 l1 l2;have HL3:=Lib.hid (HL.out.same (Hb3.out.block _ HLt.out));have Hb03:=Lib.hid (Hbel.out.trans ((Hba.out.trans (Hb3.out.mono (Nat.le_of_lt HLt.out))).mono Hbel.out.size));have HLw:=Lib.hid (show w.heap.size≤wr.heap.size from Hbel.out.size);obtain ⟨l0,l1,l2⟩:=HL3.out;generalize hn:x.seq.toNat=n at l0 hsq Ho3 ⊢;have Hn:=Lib.hid hn;clear hn
   by_cases hz:n=0
   ·
    have hz':(n:Int)=0:=by omega
    have hlast:lastB x=numL n:=by unfold lastB;rw [Hn.out,if_pos hz,List.append_nil]
    have Hlast:=Lib.hid hlast;clear hlast
    go_wp2_with fail;go_roundw
    case rel =>
     have hown:OwnB w3 w.heap.size 5 v3 (l++tabB t (i+1)):=by
      rw [Hsucc.out,Hlast.out, ← List.append_assoc];exact Ho3.out.mono (by have:=HLt.out;have:=HLw.out;omega)
     exact ⟨i+1,by omega,rfl,hown.read,fun _=>hown,Hb03.out⟩
    case measure=>simp [intOf];omega
   ·
    have hz':((n:Int) != 0)=true:=by rw [bne_iff_ne];omega
    have hlast:lastB x=numL n++([UInt8.ofNat x.code]++strL x.text):=by unfold lastB;rw [Hn.out,if_neg hz];rfl
    have Hnl:=Lib.hid (numL_len n).1;have hcode8:((UInt8.ofNat x.code).toNat:Int)=(x.code:Int):=by simp;omega
    have Hcode8:=Lib.hid hcode8;clear hcode8
    have Hlast:=Lib.hid hlast;clear hlast
    have Hz:=Lib.hid hz;clear hz
    go_upto_region 6 with fail;clear l0 l1 l2;obtain ⟨q,hq⟩:∃ q,l++tabB t i++numL n=q:=⟨_,rfl⟩;have hql:q.length≤1099510000000:=by have hnl:=Hnl.out;rw [← hq,List.length_append,List.length_append];omega
    rw [hq] at Ho3;have Hq:=Lib.hid hq;clear hq
    have hnew:=LastCells.new w3.drew x;clear hnew;refine (wpIn_wide (n:=1)).1 ?_;refine RegK.wpIn_region_can (F:=Fence.wide) (LastCells wr.heap.size x) [(0,0),(1,0),(2,0),(3,0),(6,0),(7,0),(8,0),(4,1),(5,1),(9,1),(10,0)] (by kernel_rfl) (by kernel_rfl) (by kernel_rfl) (fun _ _ d _ _ h=>by cases d <;> exact h) HL3.out ?_;dsimp only [RegK.pick,List.getElem?_cons_zero,List.getElem?_cons_succ];change RegK.Can _ _ _ _ _ _ _ _ w3.drew;have Hd:=Lib.hid (show LastCells wr.heap.size x w3.drew from HL3.out);have Hod:=Lib.hid (show OwnB w3.drew w2.heap.size 5 v3 q from Ho3.out);have Hbd:=Lib.hid (show Below w.heap.size w w3.drew from ⟨Hb03.out.os,Hb03.out.tape,Hb03.out.output,Hb03.out.size,Hb03.out.block⟩);have Hld:=Lib.hid (show w2.heap.size≤w3.drew.heap.size from Hb3.out.size);generalize w3.drew=w4 at *;clear Ho3 HL3 Hb03 Hb3;iterate 3 (refine RegK.can_reads ?_;intro K hK;go_simp;(first | (refine ⟨_,fun _ _=>rfl,hK _ ?_⟩) | (refine hK _ ?_));clear hK K)
    refine RegK.can_reads ?_;intro K hK;go_simp;refine ⟨.int .u8 (x.code:Int),fun y hy=>?_,hK _ ?_⟩
    ·
     have f0:=hy.2.1;go_simp
    clear hK K;iterate 2 (refine RegK.can_reads ?_;intro K hK;go_simp;(first | (refine ⟨_,fun _ _=>rfl,hK _ ?_⟩) | (refine hK _ ?_));clear hK K)
    refine RegK.can_reads ?_;intro K hK;go_simp;refine ⟨.string x.text,fun y hy=>?_,hK _ ?_⟩
    ·
     have f0:=hy.2.2;go_simp
    clear hK K;-- the slice of one byte
    refine RegK.can_turns (fun _=>trivial) ?_;intro K K0 hK hK0;go_simp;have hb5:=(Below.refl w4.heap.size w4).alloc (Nat.le_refl _) (.cells #[.int .u8 (x.code:Int)] 5);have hne:wr.heap.size<w4.heap.size:=by have:=Hld.out;have:=HLt.out;omega
    have hL5:LastCells wr.heap.size x (w4.alloc (.cells #[.int .u8 (x.code:Int)] 5)):=Hd.out.same (hb5.block _ hne);have hone:ReadB (w4.alloc (.cells #[.int .u8 (x.code:Int)] 5)) (.slice (some ⟨w4.heap.size,0,none⟩) 1 1) [UInt8.ofNat x.code]:=by
     have h:=ReadB.one w4 (UInt8.ofNat x.code) 5;rwa [Hcode8.out] at h
    have ho5:=Hod.out.below hb5;refine hK _ _ hL5 ?_;clear hK K hK0 K0;have Hb5:=Lib.hid (Hbd.out.trans (hb5.mono (by have:=Hld.out;have:=HLt.out;have:=HLw.out;omega)));have Hone:=Lib.hid hone;clear hone
    have Ho5:=Lib.hid ho5;clear ho5
    have HL5:=Lib.hid hL5;clear hL5
    have Hl5:=Lib.hid (show w2.heap.size≤(w4.alloc (.cells #[.int .u8 (x.code:Int)] 5)).heap.size by simp;have:=Hld.out;omega);generalize hw5:w4.alloc (.cells #[.int .u8 (x.code:Int)] 5)=w5 at *
    generalize w4.heap.size = g5 at *;clear hb5 hw5 Hd Hod Hbd Hld hne;-- append
    refine RegK.can_turns (fun _=>trivial) ?_;intro K K0 hK hK0;rw [if_pos (by simp [Region.wanted])];refine RegK.op_wide rfl ?_;refine wp_append_read _ _ 44 rfl w2.heap.size 5 i0 (.int .u8 0) Tryz.underlying44 hi0 hz0 hs0 hb0 rfl _ _ _ rfl Ho5.out _ _ rfl Hone.out (by show q.length+1≤_;omega) Hl5.out ?_;intro v6 w6 ho6 hg6;have hv3:∀ k,v3.ownBlock=some k→w2.heap.size≤k:=fun k hk=>(World.ownsRow.lt Ho5.out k hk).1
    have hL6:LastCells wr.heap.size x w6:=HL5.out.same (hg6.block _ (Nat.lt_of_lt_of_le HLt.out Hl5.out) (fun e=>by have:=hv3 _ e.symm;have:=HLt.out;omega));refine hK _ _ hL6 ?_;clear hK K hK0 K0;have Ho6:=Lib.hid (OwnB.of (l:=q) (k:=[UInt8.ofNat x.code]) ho6 rfl rfl);clear ho6
    have Hb6 := Lib.hid (below_grown hg6 Hb5.out (by have := Hl5.out; have := HLt.out; have := HLw.out; omega) (fun k hk => by have := hv3 k hk; have := HLt.out; have := HLw.out; omega));have Hl6 := Lib.hid (Nat.le_trans Hl5.out hg6.size);have HL6 := Lib.hid hL6;clear hg6 hv3 HL5 Hb5 Ho5 Hone Hl5 hL6;-- the text
    refine RegK.can_turns (fun _=>trivial) ?_;intro K K0 hK hK0;go_simp;refine ⟨trivial,?_⟩;refine (callsIn_wide.2 (str_any v6 _ x.text (by rw [List.length_append];show q.length+1+x.text.size≤_;omega) w6 Ho6.out.read)).mono ?_;rintro e w7 ⟨v7,rfl,ho7,hb7⟩;refine hK _ _ (HL6.out.same (hb7.block _ (Nat.lt_of_lt_of_le HLt.out Hl6.out))) ?_;clear hK K hK0 K0;have Ho7:=Lib.hid ho7;clear ho7
    have Hb7:=Lib.hid (Hb6.out.trans (hb7.mono (by have:=Hl6.out;have:=HLt.out;have:=HLw.out;omega)));refine RegK.can_reads ?_;intro K hK;go_simp;refine ⟨_,fun _ _=>rfl,hK _ ?_⟩;clear hK K;refine RegK.can_nil ?_;go_wp2_with fail;have hown:OwnB w7 w.heap.size 5 v7 (l++tabB t (i+1)):=by
     have e:l++tabB t (i+1)=q++[UInt8.ofNat x.code]++strL x.text:=by
      rw [Hsucc.out,Hlast.out, ← Hq.out];simp [List.append_assoc]
     rw [e];exact Ho7.out.mono (by have:=Hl6.out;have:=HLt.out;have:=HLw.out;omega)
    refine ⟨⟨i+1,by omega,rfl,hown.read,fun _=>hown,Hb7.out⟩,?_⟩;simp [intOf];omega
  ·
   have hi4' : ¬ (i:Int)<4:=by omega
   have hi44:i=4:=by omega
   go_wp2_with fail;go_ret;subst hi44;exact ⟨_,rfl,hown (by omega),Hbel.out⟩
open Go.RowKit Go.Shelf
attribute [local go_sem] Oper.semAt_some
def pairsB:List (ByteArray × ByteArray)→List UInt8
 | []=>[]
 | p::r=>strL p.1++strL p.2++pairsB r
theorem pairsB_app:∀ (l k:List (ByteArray × ByteArray)),pairsB (l++k)=pairsB l++pairsB k
 | [],_=>rfl
 | p::r,k=>by
  show strL p.1++strL p.2++pairsB (r++k)=strL p.1++strL p.2++pairsB r++pairsB k;rw [pairsB_app r k,List.append_assoc,List.append_assoc,List.append_assoc]
def PairOk (p:ByteArray × ByteArray):Prop:=p.1.size≤4096∧p.2.size≤4096
theorem pairsB_len:∀ (l:List (ByteArray × ByteArray)),(∀ p ∈ l,PairOk p)→(pairsB l).length≤8300*l.length
 | [],_=>by simp [pairsB]
 | p::r,h=>by
  have h1:=strL_len p.1;have h2:=strL_len p.2;have h3:=h p (by simp);have h4:=pairsB_len r (fun q hq=>h q (by simp [hq]));unfold PairOk at h3;show (strL p.1++strL p.2++pairsB r).length≤_;rw [List.length_append,List.length_append,List.length_cons];omega
def macHead (M:MacV):List UInt8:=[UInt8.ofNat M.all,UInt8.ofNat M.mem]++tabB M.tab 4++numL M.sh.cnt
def macB (M:MacV):List UInt8:=macHead M++pairsB M.sh.kv
structure MacBy (M:MacV):Prop where
 all:M.all<256
 mem:M.mem<256
 tab:TabOk M.tab
 num:M.sh.cnt≤1000000
 kv:∀ p ∈ M.sh.kv,PairOk p
theorem macHead_len {M:MacV} (h:MacBy M):(macHead M).length≤17000:=by
 have h1:=tabB_len h.tab 4;have h2:=(numL_len M.sh.cnt).1;unfold macHead;rw [List.length_append,List.length_append];simp only [List.length_cons,List.length_nil];omega
structure BytesI (w0:World) (gb:Nat) (l0:List UInt8) (pre:List (ByteArray × ByteArray)) (W:World):Prop where
 b:∃ v,BoxAt W gb v 44∧OwnB W w0.heap.size 5 v (l0++pairsB pre)
 bel:Below w0.heap.size w0 W
theorem OwnB.own {W W':World} {base:Nat} {t:TypeId} {v:Value} {l:List UInt8} {row:Option Nat} (h:OwnB W base t v l) (hg:W.grownBy W' row) (hr:∀ r,row=some r→∃ o:Obj,W.heap[r]?=some o∧o.isCells=false):OwnB W' base t v l:=by
 unfold OwnB at *
 obtain ⟨h1,h2⟩:=h;refine ⟨h1,?_⟩;rcases h2 with h2 | ⟨g,cap,cur,e,h3,hgc,h4⟩
 ·
  exact .inl h2
 ·
  refine .inr ⟨g,cap,cur,e,h3,(hg.block g (Array.getElem?_eq_some_iff.1 hgc).1 (fun e=>?_)).trans hgc,h4⟩;obtain ⟨o,ho,hc⟩:=hr g e.symm;rw [hgc] at ho;cases ho
  cases hc
theorem BytesI.own {w0:World} {gb:Nat} {l0:List UInt8} {B0:Nat} (hB:w0.heap.size≤B0) {α:Type} (f:α→List (ByteArray × ByteArray)):OwnFrom B0 (fun (s:α) W=>BytesI w0 gb l0 (f s) W):=fun s W W' row hs hg hr=>by
 obtain ⟨v,h1,h2⟩:=hs.b;exact ⟨⟨v,BoxAt.own (f:=fun _=>v) s W W' row h1 hg hr,h2.own hg (fun r e=>(hr r e).2)⟩,below_own hB hs.bel hg hr⟩
theorem BytesI.below {w0 W W':World} {gb:Nat} {l0:List UInt8} {pre:List (ByteArray × ByteArray)} (h:BytesI w0 gb l0 pre W) (hb:Below W.heap.size W W'):BytesI w0 gb l0 pre W':=by
 obtain ⟨v,h1,h2⟩:=h.b;exact ⟨⟨v,h1.below hb,h2.below hb⟩,h.bel.trans (hb.mono h.bel.size)⟩
theorem keepsOthers_below {W W':World} (h:Below W.heap.size W W'):KeepsOthers W W':=⟨h.size,fun k _ hk _=>(h.block k (Array.getElem?_eq_some_iff.1 hk).1).trans hk⟩
set_option maxHeartbeats 8000000 in
theorem mbytes_in (M:MacV) (T:Tr) (hM:MacBy M) (w:World) (hat:TreeAt w T) (hsh:T.sh=M.sh) (m:Nat) (hm:3≤m) :
  CallsIn Fence.wide m Tryz.prog 19 #[macV M T.ptr] w fun e w'=>e=.returned (.string ⟨(macB M).toArray⟩)∧Below w.heap.size w w':=by
 have hm0:MacAt (w.alloc (.cells (macCells M T.ptr).toArray 38)) w.heap.size M T.ptr:=heap_alloc_new _ _;have hb1:=(Below.refl w.heap.size w).alloc (Nat.le_refl _) (.cells (macCells M T.ptr).toArray 38);obtain ⟨P,hP⟩:∃ P,T.ptr=P:=⟨_,rfl⟩;rw [hP] at hm0 hb1 ⊢;have HP:=Lib.hid hP;clear hP
 have Hat:=Lib.hid hat;clear hat
 unfold macV;refine callsIn_of_wp_marks Tryz.func19 rfl trivial ?_ rfl;simp only [Tryz.ntmps19,List.size_toArray,List.length_cons,List.length_nil,Nat.reduceAdd,Nat.reduceSub,Array.replicate_succ,Array.replicate_zero,List.push_toArray,List.append_toArray,List.nil_append,List.cons_append];refine wpIn_wide.2 ?_;go_upto_region 1 with fail;change Code.wp _ _ _ _ (w.alloc (.cells (macCells M P).toArray 38));have hl1:(w.alloc (.cells (macCells M P).toArray 38)).heap.size=w.heap.size+1:=by simp
 generalize w.alloc (.cells (macCells M P).toArray 38)=w1 at *;have h8a:((UInt8.ofNat M.all).toNat:Int)=(M.all:Int):=by have:=hM.all;simp;omega
 have h8b:((UInt8.ofNat M.mem).toNat:Int)=(M.mem:Int):=by have:=hM.mem;simp;omega
 have hput:=tput_any M.tab hM.tab (.slice (some ⟨w1.heap.size,0,none⟩) 2 2) [UInt8.ofNat M.all,UInt8.ofNat M.mem] (by simp) (w1.alloc (.cells #[.int .u8 (M.all:Int),.int .u8 (M.mem:Int)] 5)) (ReadB.cells w1 [UInt8.ofNat M.all,UInt8.ofNat M.mem] 5 #[.int .u8 (M.all:Int),.int .u8 (M.mem:Int)] (by rw [← h8a, ← h8b];rfl) 2);rw [tab_eta] at hput;have Hput:=Lib.hid hput;clear hput h8a h8b
 have Hm:=Lib.hid hm0;have Hb1:=Lib.hid hb1;clear hb1
 have Hl1:=Lib.hid hl1;clear hl1
 obtain ⟨⟨m0,m1,m14⟩,⟨m2,m3,m4⟩,⟨m5,m6,m7⟩,⟨m8,m9,m10⟩,⟨m11,m12,m13⟩⟩:=hm0.cells;clear hm0;go_upto_region 2 with ((with_reducible refine Hput.out.mono ?_);rintro e w2 ⟨v2,rfl,ho2,hb2⟩;obtain ⟨a2,n2,c2,rfl⟩:=ho2.read.slice;have Ho2:=Lib.hid ho2;clear ho2;have Hb2:=Lib.hid hb2;clear hb2)
 clear m0 m1 m2 m3 m4 m5 m6 m7 m8 m9 m10 m11 m12 m13 m14 Hput;change Code.wp _ _ _ _ (w2.alloc (.cells #[.slice a2 n2 c2] 44));-- what lies there now
 have hb12:Below w1.heap.size w1 w2:=((Below.refl _ _).alloc (Nat.le_refl _) _).trans (Hb2.out.mono (by simp));have hbox:=BoxAt.new w2 (.slice a2 n2 c2) 44;have hb3:=hb12.alloc hb12.size (.cells #[.slice a2 n2 c2] 44);have hown3:=(Ho2.out.below ((Below.refl w2.heap.size w2).alloc (Nat.le_refl _) (.cells #[.slice a2 n2 c2] 44))).mono (base':=w.heap.size) (by simp;have:=Hl1.out;omega);have hg3:w.heap.size<w2.heap.size:=by have:=hb12.size;have:=Hl1.out;omega
 have hl3:(w2.alloc (.cells #[.slice a2 n2 c2] 44)).heap.size=w2.heap.size+1:=by simp
 have hm3:=Hm.out.below hb3;have hbw3:=Hb1.out.trans (hb3.mono (by have:=Hl1.out;omega));generalize w2.alloc (.cells #[.slice a2 n2 c2] 44)=w3 at *;generalize w2.heap.size=gb at *;clear hb12 hb3 Ho2 Hb2 Hb1 Hm Hl1;have Hbox:=Lib.hid hbox;clear hbox
 have Hown:=Lib.hid hown3;clear hown3
 have Hg:=Lib.hid hg3;clear hg3
 have Hl3:=Lib.hid hl3;clear hl3
 have Hm:=Lib.hid hm3;clear hm3
 have Hb:=Lib.hid hbw3;clear hbw3
 have Hat3 := Lib.hid (Hat.out.below Hb.out);-- region 2
 refine (wpIn_wide (n:=1)).1 ?_;refine RegK.wpIn_region_calm (F:=Fence.wide) (KeptW w3) [(0,0),(1,0),(2,1),(3,1),(4,0),(5,1),(6,3)] (by kernel_rfl) (by kernel_rfl) (by kernel_rfl) ⟨rfl,rfl,rfl,Nat.le_refl _,fun _ _=>rfl⟩ ?_;dsimp only [RegK.pick,List.getElem?_cons_zero,List.getElem?_cons_succ];change RegK.Can _ _ _ _ _ _ _ _ w3.drew;have hkd:KeptW w3 w3.drew:=KeptW.drew w3;generalize w3.drew=w4 at *;refine RegK.can_reads ?_;intro K hK;go_simp;refine ⟨.slice a2 n2 c2,fun y hy=>?_,hK _ ?_⟩
 ·
  have f0:=(Hbox.out.below (KeptW.bel hy)).cell;go_simp
 clear hK K;obtain ⟨S1,hS1⟩:∃ V,macV M P=V:=⟨_,rfl⟩;have HV1:=Lib.hid hS1;clear hS1
 refine RegK.can_reads ?_;intro K hK;go_simp;refine ⟨S1,fun y hy=>?_,hK _ ?_⟩
 ·
  rw [← HV1.out];unfold macV;rw [mac_eta M P];obtain ⟨⟨m0,m1,m14⟩,⟨m2,m3,m4⟩,⟨m5,m6,m7⟩,⟨m8,m9,m10⟩,⟨m11,m12,m13⟩⟩:=(Hm.out.below (KeptW.bel hy)).cells;go_simp
 clear hK K;refine RegK.can_turns (fun _=>trivial) ?_;intro K K0 hK hK0;go_simp;refine ⟨trivial,?_⟩;have ht:=mtree_any M P w4;rw [HV1.out] at ht;refine (callsIn_wide.2 ht).mono ?_;rintro e w5 ⟨rfl,hb5⟩;have hk5:KeptW w3 w5:=KeptW.mono hkd hb5;refine hK _ _ hk5 ?_;clear hK K hK0 K0 ht hkd hb5;refine RegK.can_turns (fun _=>trivial) ?_;intro K K0 hK hK0;go_simp;refine ⟨trivial,?_⟩;have hln:=len_any T w5 (Hat3.out.below (KeptW.bel hk5));rw [HP.out,sh_cnt,hsh] at hln;refine (callsIn_wide.2 hln).mono ?_;rintro e w6 ⟨rfl,rfl⟩;refine hK _ _ hk5 ?_;clear hK K hK0 K0 hln;have hnum64:IntKind.u64.wrap (M.sh.cnt:Int)=(M.sh.cnt:Int):=by have:=hM.num;rw [IntKind.wrap_u64];omega
 refine RegK.can_reads ?_;intro K hK;go_simp;refine ⟨.int .u64 (M.sh.cnt:Int),fun _ _=>?_,hK _ ?_⟩
 ·
  rfl
 clear hK K;clear hnum64;refine RegK.can_turns (fun _=>trivial) ?_;intro K K0 hK hK0;go_simp;refine ⟨trivial,?_⟩;have hnu:=num_any (.slice a2 n2 c2) _ M.sh.cnt (by have:=hM.num;omega) (by rw [List.length_append];have:=tabB_len hM.tab 4;simp only [List.length_cons,List.length_nil];omega) w5 (Hown.out.below (KeptW.bel hk5)).read;refine (callsIn_wide.2 hnu).mono ?_;rintro e w6 ⟨v6,rfl,ho6,hb6⟩;obtain ⟨a6,n6,c6,rfl⟩:=ho6.read.slice;have hk6:KeptW w3 w6:=KeptW.mono hk5 hb6;refine hK _ _ hk6 ?_;have ho6':OwnB w6 w.heap.size 5 (.slice a6 n6 c6) (macHead M):=ho6.mono (by have:=(KeptW.bel hk5).size;have:=Hl3.out;have:=Hg.out;omega);clear hK K hK0 K0 hnu hb6;have hg5:gb<w5.heap.size:=by have:=(KeptW.bel hk5).size;have:=Hl3.out;omega
 have f0:=(Hbox.out.below (KeptW.bel hk6)).cell;have z0:=(Hbox.out.below (KeptW.bel hk6)).frozen;refine RegK.can_frees (fun _=>trivial) ?_;intro K K0 hK hK0;go_simp;refine hK (fun _=>True) _ _ trivial ?_;clear hK K hK0 K0 f0 z0;refine RegK.can_calm ?_;have hne:gb≠w.heap.size:=by have:=Hg.out;omega
 have hI0:BytesI w gb (macHead M) [] (w6.setCell ⟨gb,0,none⟩ (.slice a6 n6 c6)):=by
  refine ⟨⟨_,(Hbox.out.below (KeptW.bel hk6)).set,?_⟩,below_setV (Hb.out.trans ((KeptW.bel hk6).mono Hb.out.size)) (by have:=Hg.out;omega)⟩;have h:=(ho6.setCell (i:=0) (x:=.slice a6 n6 c6) hg5).mono (base':=w.heap.size) (by have:=Hg.out;omega);rw [show macHead M++pairsB []=macHead M from List.append_nil _];exact h
 have hm6:MacAt (w6.setCell ⟨gb,0,none⟩ (.slice a6 n6 c6)) w.heap.size M P:=(Below.heap_setCell _ _ _ _ (by exact (Ne.symm hne))).trans (Hm.out.below (KeptW.bel hk6));have hat6:TreeAt (w6.setCell ⟨gb,0,none⟩ (.slice a6 n6 c6)) T:=TreeAt.set (Hbox.out.below (KeptW.bel hk6)) (Hat3.out.below (KeptW.bel hk6));generalize w6.setCell ⟨gb,0,none⟩ (.slice a6 n6 c6)=w7 at *;clear hk5 hk6 ho6' ho6 hg5 Hbox Hown Hm Hat3 Hb Hl3;have ht:=fun y:World=>mtree_any M P y
 unfold macV at ht;rw [mac_eta] at ht;have Ht:=Lib.hid ht;clear ht
 obtain ⟨⟨m0,m1,m14⟩,⟨m2,m3,m4⟩,⟨m5,m6,m7⟩,⟨m8,m9,m10⟩,⟨m11,m12,m13⟩⟩:=hm6.cells;have HI0:=Lib.hid hI0;clear hI0
 have Hat6:=Lib.hid hat6;clear hat6 hm6
 go_wp2_with (first
  | ((with_reducible refine (Ht.out _).mono ?_);rintro e w8 ⟨rfl,hb8⟩;have Hb8:=Lib.hid hb8;clear hb8)
  | ((with_reducible refine (callsIn_wide.1 (all_in 1 _ _)).mono ?_);rintro e w9 ⟨rfl,rfl⟩))
 clear m0 m1 m2 m3 m4 m5 m6 m7 m8 m9 m10 m11 m12 m13 m14 Ht;obtain ⟨A12,hA12⟩:∃ V:Value,.agg #[.int .u32 (M.tab.a.seq.toNat:Int),.int .u8 (M.tab.a.code:Int),.string M.tab.a.text,.int .u32 (M.tab.b.seq.toNat:Int),.int .u8 (M.tab.b.code:Int),.string M.tab.b.text,.int .u32 (M.tab.c.seq.toNat:Int),.int .u8 (M.tab.c.code:Int),.string M.tab.c.text,.int .u32 (M.tab.d.seq.toNat:Int),.int .u8 (M.tab.d.code:Int),.string M.tab.d.text]=V:=⟨_,rfl⟩;obtain ⟨A15,hA15⟩:∃ V:Value,.agg #[.int .u8 (M.all:Int),.int .u8 (M.mem:Int),.int .u32 (M.tab.a.seq.toNat:Int),.int .u8 (M.tab.a.code:Int),.string M.tab.a.text,.int .u32 (M.tab.b.seq.toNat:Int),.int .u8 (M.tab.b.code:Int),.string M.tab.b.text,.int .u32 (M.tab.c.seq.toNat:Int),.int .u8 (M.tab.c.code:Int),.string M.tab.c.text,.int .u32 (M.tab.d.seq.toNat:Int),.int .u8 (M.tab.d.code:Int),.string M.tab.d.text,.pointer P]=V:=⟨_,rfl⟩;rw [hA12,hA15];clear hA12 hA15;have hI9:=(HI0.out.below Hb8.out).below ((Below.refl w8.heap.size w8).alloc (Nat.le_refl _) (.cells #[.pointer P] 32));have hat9:=(Hat6.out.below Hb8.out).below ((Below.refl w8.heap.size w8).alloc (Nat.le_refl _) (.cells #[.pointer P] 32));have hbt9:=BoxAt.new w8 (.pointer P) 32;have hl9:(w8.alloc (.cells #[.pointer P] 32)).heap.size=w8.heap.size+1:=by simp
 generalize w8.alloc (.cells #[.pointer P] 32)=w9 at *;have hg8:gb<w8.heap.size:=by
  obtain ⟨v,h1,_⟩:=(HI0.out.below Hb8.out).b;exact h1.lt
 generalize w8.heap.size=g8 at *;clear HI0 Hat6 Hb8;have hlo:=Hat.out.lo;have hc9:w9.cell? ⟨g8,0,none⟩=some (.pointer T.ptr):=by rw [HP.out];exact hbt9.cell
 have hkvs:T.kvs=M.sh.kv:=by unfold Tr.kvs;rw [hsh]
 have hG:∀ p ∈ T.kvs,PairOk p:=by rw [hkvs];exact hM.kv
 have hN:T.kvs.length≤1000000:=by rw [hkvs, ← cnt_kv];exact hM.num
 have Hg':=Lib.hid (And.intro Hg.out hg8);clear hg8 hne
 refine (wpIn_wide (n:=m)).1 ?_;refine wpIn_rangeFunc_ownF (F:=Fence.wide) rfl (by omega) (gf:=108) (lb:=#[.pointer (some ⟨g8,0,none⟩)]) rfl trivial (enters_of Tryz.func108 (by kernel_rfl) rfl)
  (all_stopsG PairOk (m - 1) g8 w.heap.size (g8+1) T w9 (by omega) (by omega) (by have:=Hg'.out;omega) hc9 hat9 hlo hG) (fun h k=>h.trans k) (keepC_b (by have:=Hg'.out;omega)) (Below.refl _ _) (fun _=>rfl)
  (fun pre W=>BytesI w gb (macHead M) (pre.map (·.val)) W) (fun _ _ _=>False) (BytesI.own (by have:=Hg'.out;omega) _) (fun _ _ _ _ _ h _ _=>h.elim) hI9
  (fun x=>{ tmps:=#[.agg (macCells M P).toArray,.pointer (some ⟨w.heap.size,0,none⟩),.string { data:=#[] },.pointer (some ⟨gb,0,none⟩),.string x.val.1,.string x.val.2,.pointer (some ⟨w.heap.size,0,none⟩),.pointer (some ⟨w.heap.size,2,none⟩),A12,.pointer (some ⟨w.heap.size,0,none⟩),.pointer (some ⟨w.heap.size,0,none⟩),.int .u8 (M.all:Int),.pointer (some ⟨w.heap.size,0,none⟩),.pointer (some ⟨w.heap.size,1,none⟩),.int .u8 (M.mem:Int),.slice (some ⟨w1.heap.size,0,none⟩) 2 2,.slice a2 n2 c2,.slice a2 n2 c2,S1,.pointer P,.int .i64 (M.sh.cnt:Int),.int .u64 (M.sh.cnt:Int),.slice a6 n6 c6,A15,.pointer P,(.func (.func 108) #[] #[.pointer (some ⟨g8,0,none⟩)]),.string x.val.1,.string x.val.2,undef,undef,undef,undef,undef,undef,undef],defers:=[] }) ?assign ?body ?done ?stop
 case assign =>
  intro l x W K hK;gi_wp2
  exact hK
 case body =>
  rintro l pre x W hI hlen;obtain ⟨v,hbox,hown⟩:=hI.b;obtain ⟨a,n,c,rfl⟩:=hown.read.slice;have hpl:=pairsB_len (pre.map (·.val)) (fun p hp=>by obtain ⟨q,_,rfl⟩:=List.mem_map.1 hp;exact q.property);rw [List.length_map] at hpl;have hhl:=macHead_len hM;obtain ⟨⟨xk,xv⟩,hx⟩:=x;have hx':xk.size≤4096∧xv.size≤4096:=hx;have hql:(macHead M++pairsB (pre.map (·.val))).length≤8400000000:=by rw [List.length_append];omega
  obtain ⟨q,hq⟩:∃ q,macHead M++pairsB (pre.map (·.val))=q:=⟨_,rfl⟩;rw [hq] at hown hql;have hs1:=str_any (.slice a n c) q xk (by omega) W hown.read;have Hs1:=Lib.hid hs1;clear hs1
  have c0:=hbox.cell;have Hbox:=Lib.hid hbox;clear hbox
  have HI:=Lib.hid hI;clear hI
  have Hq:=Lib.hid hq;clear hq
  have hkl:=strL_len xk;have hx1:=hx'.1;have hx2:=hx'.2;clear hx' hlen hhl hpl hown;dsimp only;gi_wp2_with (refine ⟨trivial,(fun h=>(by cases h)),?_⟩;first
   | (refine (calls_round Hs1.out).mono ?_;clear Hs1;rintro e W1 ⟨v1,rfl,ho1,hb1⟩;obtain ⟨a1,n1,c1,rfl⟩:=ho1.read.slice;have Ho1:=Lib.hid ho1;clear ho1;have Hb1:=Lib.hid hb1;clear hb1)
   | (refine (calls_round (str_any _ _ xv (by rw [List.length_append];omega) W1 Ho1.out.read)).mono ?_;rintro e W2 ⟨v2,rfl,ho2,hb2⟩;obtain ⟨a22,n22,c22,rfl⟩:=ho2.read.slice;have Ho2:=Lib.hid ho2;clear ho2;have Hb2:=Lib.hid hb2;clear hb2;have d0:=((Hbox.out.below Hb1.out).below Hb2.out).cell;have d1:=((Hbox.out.below Hb1.out).below Hb2.out).frozen))
  have hb12:=Hb1.out.trans (Hb2.out.mono Hb1.out.size);have hbw:=HI.out.bel;have hgl:=Hbox.out.lt;have hg0:=Hg'.out;refine ⟨(keepsOthers_below hb12).trans (KeepsOthers.setCell _ _ _),⟨below_setV (hb12.mono hbw.size) (by omega),fun r cs t f hr e=>(Below.heap_setCell _ _ _ _ (by show r≠gb;omega)).trans ((hb12.block r (Array.getElem?_eq_some_iff.1 e).1).trans e)⟩,⟨_,(Hbox.out.below hb12).set,?_⟩,below_setV (hbw.trans (hb12.mono hbw.size)) (by omega)⟩;rw [List.map_append,pairsB_app, ← List.append_assoc,Hq.out];show OwnB _ _ _ _ (q++(strL xk++strL xv++[]));rw [List.append_nil, ← List.append_assoc];exact (Ho2.out.setCell (Nat.lt_of_lt_of_le hgl Hb1.out.size)).mono (Nat.le_trans hbw.size Hb1.out.size)
 case done =>
  rintro D xs W hD hxs hI hK;obtain ⟨v,hbox,hown⟩:=hI.b;obtain ⟨a,n,c,rfl⟩:=hown.read.slice;rw [hxs,hkvs] at hown;have hcv:=hown.read.conv Tryz.underlying44 Tryz.underlying5 Tryz.underlying9;have c0:=hbox.cell;have Hbel:=Lib.hid hI.bel;have HK:=Lib.hid hK;clear hK
  have Hg1:=Lib.hid (show w.heap.size≤D by have:=Hg'.out;omega);clear hI hown hbox;go_wp2_with fail;refine ⟨by simp,.inl ⟨_,_,rfl,run_takeDeferred HK.out,?_⟩⟩;refine ⟨.string ⟨(macB M).toArray⟩,?_,rfl,Hbel.out.trans (belowK_b (w:=w) (Nat.le_refl _) W D _ _ Hg1.out HK.out rfl rfl)⟩;simp [results,Tryz.results19,go_sem,macB]
 case stop =>
  rintro D c pre W hD hpre h _;exact h.elim
theorem mbytes_any (M:MacV) (T:Tr) (hM:MacBy M) (w:World) (hat:TreeAt w T) (hsh:T.sh=M.sh) :
  Calls Tryz.prog 19 #[macV M T.ptr] w fun e w'=>e=.returned (.string ⟨(macB M).toArray⟩)∧Below w.heap.size w w':=callsIn_wide.1 (mbytes_in M T hM w hat hsh 3 (Nat.le_refl _))
end Go.Proofs.YtbckjgageofldaaGreat
namespace Go.Proofs.YtbckjgageofldaaGreat.One
open Go.RowKit
theorem filt_len (k:ByteArray):∀ M:Prs,(M.filter (ltB k)).length+(M.filter (gtB k)).length≤M.length
 | []=>Nat.le_refl _
 | p::M=>by
  have ih:=filt_len k M;simp only [List.filter_cons];by_cases h1:ltB k p=true
  ·
   have h2:gtB k p=false:=slt_asymm h1;rw [if_pos h1,h2];simp only [List.length_cons,Bool.false_eq_true,if_false];omega
  ·
   rw [if_neg h1];split <;> simp only [List.length_cons] <;> omega
theorem rm_len (M:Prs) (k:ByteArray):(rmL M k).length≤M.length:=by
 have:=filt_len k M;simp only [rmL,List.length_append];omega
theorem ins_mem {M:Prs} {k v:ByteArray} {p:ByteArray × ByteArray} (h:p ∈ insL M k v):p=(k,v)∨p ∈ M:=by
 simp only [insL,List.mem_append,List.mem_cons,List.mem_filter] at h;rcases h with h | h | h
 ·
  exact .inr h.1
 ·
  exact .inl h
 ·
  exact .inr h.1
theorem put_look {S:Sh} (h:Asc S.kv) (k v:ByteArray):(putSh k v S (S.look k)).look k=some v:=by
 have ha:=asc_put h k v (S.look k);unfold putSh at ha ⊢;split
 ·
  rename_i he;exact he
 ·
  rename_i he
  rw [if_neg he] at ha;rw [look_kv k ha,kv_put k v _ h];simp [insL]
theorem shape_uniq:∀ {S U:Sh},S.Heap→U.Heap→S.kv=U.kv→S=U
 | .nil,.nil,_,_,_=>rfl
 | .nil,.node k v wt l r,_,_,h=>by have:=congrArg List.length h;simp [Sh.kv] at this
 | .node k v wt l r,.nil,_,_,h=>by have:=congrArg List.length h;simp [Sh.kv] at this
 | .node k v wt l r,.node k' v' wt' l' r',hS,hU,h=>by
  have t1:=top_root hS;have t2:=top_root hU;have h':l.kv++(k,v)::r.kv=l'.kv++(k',v')::r'.kv:=h;rw [← h'] at t2;have hl:=top_uniq t1 t2 (by simp) (by have:=congrArg List.length h';simp at this ⊢; omega);obtain ⟨e1,e2⟩:=List.append_inj h' hl;simp only [List.cons.injEq,Prod.mk.injEq] at e2;obtain ⟨⟨rfl,rfl⟩,e3⟩:=e2;obtain ⟨w1,_,_,p1,p2⟩:=hS;obtain ⟨w2,_,_,q1,q2⟩:=hU;rw [shape_uniq p1 q1 e1,shape_uniq p2 q2 e3,w1,w2]
structure TOk (w:World) (c:Nat) (T:Tr):Prop where
 at_:TreeAt w T
 asc:Asc T.sh.kv
 heap:T.sh.Heap
 cnt:T.cnt≤c
 keys:∀ k,(T.sh.look k).isSome→k.size≤100
theorem TOk.nil (w:World) (c:Nat):TOk w c .nil:=⟨trivial,List.Pairwise.nil,trivial,Nat.zero_le _,fun k h=>by cases h⟩
theorem TOk.below {w w':World} {c:Nat} {T:Tr} (h:TOk w c T) (hb:Below w.heap.size w w'):TOk w' c T:=⟨h.at_.below hb,h.asc,h.heap,h.cnt,h.keys⟩
theorem TOk.mono {w:World} {c c':Nat} {T:Tr} (h:TOk w c T) (hc:c≤c'):TOk w c' T:=⟨h.at_,h.asc,h.heap,Nat.le_trans h.cnt hc,h.keys⟩
structure PutPost (w:World) (c:Nat) (T:Tr) (k:ByteArray) (o:Option ByteArray) (w':World) (X:Tr):Prop where
 ok:TOk w' (c+1) X
 bel:Below w.heap.size w w'
 own:X.sh.look k=o
 oth:∀ j,j≠k→X.sh.look j=T.sh.look j
 shp:∀ v,o=some v→X.sh=putSh k v T.sh (T.sh.look k)
end Go.Proofs.YtbckjgageofldaaGreat.One
namespace Go.Proofs.YtbckjgageofldaaGreat
open Go.RowKit
theorem str_mk (s:ByteArray):(⟨s.data.toList.toArray⟩:ByteArray)=s:=by
 cases s;rfl
theorem str_size (s:ByteArray):s.data.toList.length=s.size:=rfl
theorem str_back {s:ByteArray} {most:Nat} (hs:s.size≤most) (hm:most<1000000) (r:List UInt8):(RdV.mk 0 (strL s++r)).str most=(s.data.toList,⟨0,r⟩):=by
 have h:=str_app' (t:=s.data.toList) (most:=most) (by rw [str_size];exact hs) hm r;rw [str_size] at h;exact h
theorem last_app {x:LastV} (hx:LastFit x) (r:List UInt8):(RdV.mk 0 (lastB x++r)).last=(x,⟨0,r⟩):=by
 have hseq:=x.seq.isLt;have hp:(RdV.mk 0 (lastB x++r)).lastP=(x,⟨0,r⟩):=by
  unfold RdV.lastP lastB;by_cases h0:x.seq.toNat=0
  ·
   rw [if_pos h0,List.append_nil,below_app (by omega) (by omega),h0,if_pos rfl,hx.zero h0]
  ·
   rw [if_neg h0,List.append_assoc,below_app (by omega) (by omega),if_neg h0];have hc:(UInt8.ofNat x.code).toNat=x.code:=by have:=hx.code;simp;omega
   simp only [List.cons_append,byte_app];rw [str_back hx.text (by omega)];simp only [hc,str_mk];have hs:BitVec.ofNat 32 x.seq.toNat=x.seq:=by simp
   rw [hs]
 unfold RdV.last;rw [hp];simp only;rw [if_neg (by have:=hx.code;omega)]
theorem putSh_heap {S:Sh} (h:S.Heap) (ha:Asc S.kv) (k v:ByteArray):(putSh k v S (S.look k)).Heap:=by
 unfold putSh;split
 ·
  exact h
 ·
  exact heap_put k v h ha
theorem end_nil:(RdV.mk 0 []).end_=⟨0,[]⟩:=by unfold RdV.end_;rw [if_pos rfl]
theorem both_idem (x:Nat):bothS (bothS x x) (bothS x x)=bothS x x:=by
 unfold bothS;rw [Nat.and_self,Nat.and_self,Nat.and_assoc,Nat.and_self]
theorem may_both (s all:Nat):mayS (bothS s s) all=mayS s all:=by
 have h:bothS s s=s &&& 127:=by unfold bothS;rw [Nat.and_self]
 unfold mayS withoutS;rw [h,Nat.and_assoc,Nat.and_self];congr 2
 rw [show s &&& 127 &&& (255 - all) &&& 127=s &&& (255 - all) &&& 127 by
  rw [Nat.and_assoc s 127,Nat.and_comm 127, ← Nat.and_assoc,Nat.and_assoc _ 127 127,Nat.and_self]]
structure MacAll (M:MacV):Prop where
 fit:MacFit M
 heap:M.sh.Heap
 sets:setsOk M=true
theorem sets_eq {M:MacV} (h:setsOk M=true):mayS M.mem M.all=true∧M.all=bothS M.all M.all∧M.mem=bothS M.mem M.mem:=by
 unfold setsOk at h;simp only [Bool.and_eq_true,decide_eq_true_eq] at h;exact ⟨h.1.1,h.1.2,h.2⟩
theorem sets_mk {M:MacV} (h1:mayS M.mem M.all=true) (h2:M.all=bothS M.all M.all) (h3:M.mem=bothS M.mem M.mem):setsOk M=true:=by
 unfold setsOk;rw [h1, ← h2, ← h3];simp
theorem delSh_heap {S:Sh} (h:S.Heap) (ha:Asc S.kv) (k:ByteArray):(delSh k S (S.look k)).Heap:=by
 unfold delSh;split
 ·
  exact h
 ·
  exact heap_del k h ha
theorem kvDo_heap {S:Sh} (h:S.Heap) (ha:Asc S.kv) (c:CmdV):(kvDo S c).sh.Heap:=by
 have hp:=putSh_heap h ha c.key c.fresh;have hd:=delSh_heap h ha c.key;unfold kvDo;split
 ·
  split
  ·
   unfold kvGet;split <;> exact h
  ·
   split
   ·
    unfold kvPut;cases hl:S.look c.key with
    | none=>rw [hl] at hp;simp only;split;exact h;exact hp
    | some v=>rw [hl] at hp;exact hp
   ·
    split
    ·
     unfold kvDel;cases hl:S.look c.key with
     | none=>exact h
     | some v=>rw [hl] at hd;exact hd
    ·
     split
     ·
      unfold kvCas;cases hl:S.look c.key with
      | none=>exact h
      | some v=>rw [hl] at hp;simp only;split;exact hp;exact h
     ·
      exact h
 ·
  exact h
theorem macFresh_all {M:MacV} (h:MacAll M) (c:CmdV):(macFresh M c).1.sh.Heap∧setsOk (macFresh M c).1=true:=by
 obtain ⟨s1,s2,s3⟩:=sets_eq h.sets;unfold macFresh;split
 ·
  split
  ·
   rename_i hm
   exact ⟨h.heap,sets_mk (by show mayS (bothS c.set.toNat c.set.toNat) M.all=true;rw [may_both];exact hm) s2 (both_idem _).symm⟩
  ·
   exact ⟨h.heap,h.sets⟩
 ·
  exact ⟨kvDo_heap h.heap h.fit.kv.asc c,sets_mk s1 s2 s3⟩
theorem macDo_all {M:MacV} (h:MacAll M) (c:CmdV):MacAll (macDo M c).m:=by
 refine ⟨macDo_fit h.fit c,?_,?_⟩
 ·
  unfold macDo;split
  ·
   split
   ·
    exact (macFresh_all h c).1
   ·
    exact h.heap
  ·
   exact h.heap
 ·
  unfold macDo;split
  ·
   split
   ·
    obtain ⟨s1,s2,s3⟩:=sets_eq (macFresh_all h c).2;exact sets_mk s1 s2 s3
   ·
    exact h.sets
  ·
   exact h.sets
theorem macsDo_all:∀ (l:List CmdV) {M:MacV},MacAll M→MacAll (macsDo M l)
 | [],_,h=>h
 | c::r,_,h=>macsDo_all r (macDo_all h c)
theorem macFit_by {M:MacV} (h:MacFit M):MacBy M:=by
 have ht:∀ n,LastOk (M.tab.at_ n):=fun n=>⟨by have:=(h.tab n).code;omega,by have:=(h.tab n).text;omega⟩
 exact ⟨by have:=h.all;omega,by have:=h.mem;omega,⟨ht 0,ht 1,ht 2,ht 3⟩,by have:=h.kv.num;omega,fun p hp=>⟨by have:=(h.key p hp).2;omega,by have:=h.kv.val p hp;omega⟩⟩
theorem macB_len {M:MacV} (h:MacFit M):(macB M).length≤maxLen:=by
 have h1:=macHead_len (macFit_by h);have h2:=pairsB_len M.sh.kv (macFit_by h).kv;have h3:=h.kv.num;rw [cnt_kv] at h3;unfold macB maxLen;rw [List.length_append];omega
end Go.Proofs.YtbckjgageofldaaGreat
