/- Keep: what Save, Open, Crash leave. Condition: few acts, not too long ones. -/
import Derived.Test.YticjodhkmidljaaGreatDoorZKeepNil28
import Derived.Test.YticjodhkmidljaaGreatDoorZKeepNil27
import Derived.ChangeArms
import Derived.Test.YticjodhkmidljaaGreatDoorZKeepNil18
import Derived.Test.YticjodhkmidljaaGreatDoorZKeepNil1
namespace Go.Proofs.YticjodhkmidljaaGreatDoor
open Go.RowKit Go.Shelf
theorem bal_rec {x:RecK} (h:RecS x):balOk x.bal:=by
  cases x with
  | pro b=>exact h.1
  | vot v=>exact h.1.1
theorem open_vot {base:Nat} {X:List RecK} (h:∀ x ∈ X,RecS x) {s:Nat} {r:VoR} (hr:(openK base X).vs s=some r):RecS (.vot ⟨s,r.1,r.2⟩):=by
  obtain ⟨v,hv,e⟩:=(openK_from base X).2 s r hr
  rw [← e]
  exact h _ hv
theorem open_pro {base:Nat} {X:List RecK} (h:∀ x ∈ X,RecS x) (hne:(openK base X).pr≠bal0):RecS (.pro (openK base X).pr):=by
  rcases (openK_from base X).1 with q | ⟨x,hx,q⟩
  · exact (hne q).elim
  · exact ⟨by rw [← q];exact bal_rec (h x hx),fun v hv=>by cases hv⟩
theorem ren_recs {base slot:Nat} {X:List RecK} {L:List VotV} (h:∀ x ∈ X,RecS x) (hL:VotsOf ((openK base X).drop slot) L):∀ x ∈ renK ((openK base X).drop slot) L,RecS x:=fun x hx=>by
  unfold renK at hx
  rcases List.mem_append.1 hx with q | q
  · split at q
    · cases q
    · next hne =>
      rw [List.mem_singleton.1 q]
      exact open_pro h hne
  · obtain ⟨v,hm,rfl⟩:=List.mem_map.1 q
    have h2:(if slot<v.slot then (openK base X).vs v.slot else none)=some (v.b,v.v):=(hL.mem v).1 hm
    split at h2
    · exact open_vot h h2
    · cases h2
theorem ren_len (K:KepV) (L:List VotV):(renK K L).length≤L.length+1:=by
  unfold renK
  rw [List.length_append,List.length_map]
  split <;> simp <;> omega
section
variable {N p bb k S l g s c m : Nat} {Q K ls : List Nat} {D : DskV} {b : Nat × Bs} {X : List RecK} {w w' : World}
/-- What a Save leaves. -/
def KtS (N p bb k S l g:Nat) (Q:List Nat) (D:DskV) (b:Nat × Bs) (X:List RecK) (s c m slot:Nat) (t:Bs) (w':World) (code:Nat):Prop :=
  (code=2∧(slot≤b.1∨4611686018427387904<slot)∧KtI N p bb k S l g Q D b X s c (m+1) w') ∨
  (code=0∧b.1<slot∧∃ D' L,VotsOf ((openK b.1 X).drop slot) L∧KtI N p bb k S l g Q D' (slot,t) (renK ((openK b.1 X).drop slot) L) (renK ((openK b.1 X).drop slot) L).length (c+1) (m+1) w'∧(D.fuse=none→D'.fuse=none)) ∨
  (code=9∧D.fuse≠none∧b.1<slot∧slot≤4611686018427387904 ∧
    ((∃ D1 S1 Vb,LwV N p bb Q [] D1 w'∧D1.dead=true∧D1.fuse=none∧((∀ f ∈ S1,f.nm.length≤maxLen)∧S1.length≤200)∧LoOf S1 D1 Vb∧TornW Vb b slot t∧∀ E Eb,LoOf S1 E Eb→Eb.fs=stF b→Eb.room+totF Eb.fs=4194304→∃ V',HiOf (stF b) E V'∧LgS V' (X.map recB) s c) ∨
     (∃ D1 L j,VotsOf ((openK b.1 X).drop slot) L∧L.length≤m∧LwV N p bb Q [] D1 w'∧TwoT D1 (slot,t) (X.map recB++((renK ((openK b.1 X).drop slot) L).map recB).take j) X.length (c+1)∧D1.dead=true∧D1.fuse=none)))
theorem kt_save (h:KtI N p bb k S l g Q D b X s c m w) (hm:m≤80) (slot:Nat) (hs64:slot<18446744073709551616) (t:ByteArray) (ht:t.size≤20000) :
    Calls Tryz.prog 12 #[.pointer (some ⟨k,0,none⟩),.int .u64 (slot:Int),.string t] w fun e w'=>∃ code:Nat,e=.returned (.int .i64 (code:Int))∧KtS N p bb k S l g Q D b X s c m slot t.data.toList w' code∧Hd N Q w w':=by
  obtain ⟨n,h1,h2⟩:=h.kp
  have hb62:=h.b62
  have htl:t.data.toList.length≤20000:=by rw [Array.length_toList];exact ht
  by_cases hbad:slot≤b.1∨4611686018427387904<slot
  · refine (save_bad h1 h.two.zero slot t hbad).mono ?_
    rintro e w' ⟨rfl,h3,h4⟩
    exact ⟨2,rfl,.inl ⟨rfl,hbad,⟨⟨n,h3,by omega⟩,h.two,h.live,h.ok,by have:=h.len;omega,by have:=h.cnt;omega,h.b62⟩⟩,h4⟩
  have hlt:b.1<slot:=by omega
  have hhi:slot≤4611686018427387904:=by omega
  have hl:=recs_len h.ok (m:=81) (by have:=h.len;omega)
  rcases two_save h.two h.live (by omega) hlt hs64 htl with ⟨D1,e1,t1,d1,f1⟩ | ⟨n1,D1,S1,Vb,e1,d1,f1,hS,hlo,htn,h4⟩
  · have hg:=save_good h1 h.two.zero slot t (by omega) (by omega) hlt hhi e1 (by omega) (fun s r hr=>rec_fit (open_vot h.ok hr).1)
      (by
        by_cases hne:(openK b.1 X).pr=bal0
        · rw [hne];exact ⟨(by decide:(0:Nat)<_),(by decide:(0:Nat)<_),(by decide:(0:Nat)<256),Nat.zero_le _⟩
        · exact rec_fit (open_pro h.ok hne).1)
      (fun L hL hLn=>by
        have hrs:=ren_recs h.ok hL
        have hrl:=ren_len ((openK b.1 X).drop slot) L
        have hF:=recs_len hrs (m:=81) (by omega)
        refine ⟨t1.t.seg (by have:=h.cnt;omega),recs_oks hrs,by omega,fun hz=>?_⟩
        rcases two_renew t1 d1 (by have:=h.cnt;omega) (recs_oks hrs) (by omega) with ⟨E1,D',q1,q2,_⟩ | ⟨D',j,q1,_⟩
        · rw [q1];exact q2
        · rw [q1] at hz;cases hz)
    refine hg.mono ?_
    rintro e w' ⟨L,hL,hLn,rfl,h5,h6⟩
    have hrs:=ren_recs h.ok hL
    have hrl:=ren_len ((openK b.1 X).drop slot) L
    have hF:=recs_len hrs (m:=81) (by omega)
    rcases two_renew t1 d1 (by have:=h.cnt;omega) (recs_oks hrs) (by omega) with ⟨E1,D',q1,q2,q3,q4,q5,q6⟩ | ⟨D',j,q1,q3,q4,q5,q6,q7⟩
    · rw [q3] at h5 ⊢
      have hre:openK slot (renK ((openK b.1 X).drop slot) L)=(openK b.1 X).drop slot:=openK_renew (drop_ok (openK_ok b.1 X)) hL
      refine ⟨0,rfl,.inr (.inl ⟨rfl,hlt,D',L,hL,⟨⟨n,by rw [hre];exact h5,by omega⟩,?_,q5,hrs,by omega,by have:=h.cnt;omega,hhi⟩,fun q=>q6 (f1 q)⟩),h6⟩
      rw [List.length_map] at q4
      exact q4
    · rw [q3] at h5 ⊢
      rw [List.length_map] at q4
      exact ⟨9,rfl,.inr (.inr ⟨rfl,fun q=>q7 (f1 q),hlt,hhi,.inr ⟨D',L,j,hL,by omega,h5.disk0,q4,q5,q6⟩⟩),h6⟩
  · refine (save_torn h1 h.two.zero slot t (by omega) (by omega) hlt hhi e1 (by decide)).mono ?_
    rintro e w' ⟨rfl,h5,h6⟩
    exact ⟨9,rfl,.inr (.inr ⟨rfl,n1,hlt,hhi,.inl ⟨D1,S1,Vb,h5.disk0,d1,f1,hS,hlo,htn,h4⟩⟩),h6⟩
theorem kt_open (h:LwV N p bb Q [] D w) (hT:TwoT D b (X.map recB) s c) (hd:D.dead=false) (hX:∀ x ∈ X,RecS x) (hXl:X.length≤10000) (hb62:b.1≤4611686018427387904) :
    Calls Tryz.prog 6 #[.pointer (some ⟨p,0,none⟩)] w (KopenR N p bb c Q D b X w):=by
  obtain ⟨q1,q2,q3,q4,q5⟩:=two_bopen hT hd
  exact kopen_any h hd (by omega) q5 q1 q3 q2 hT hd (by omega) (fun x hx=>(hX x hx).1) hXl hb62
theorem kcrash_any (h:LwV N p bb K ls D w) (hl:D.fs.length≤100000) (m:Int) (hm:m≤9223372036854775807) :
    Calls Tryz.prog 21 #[.pointer (some ⟨p,0,none⟩),.int .i64 m] w fun e w'=>e=.returned (.int .i64 ((crashD D m).2:Int))∧LwV N p bb K ls (crashD D m).1 w'∧Hd N K w w':=by
  have h2:=lw_act (R:=crashD D m) (f:=21) (args:=#[.pointer (some ⟨p,0,none⟩),.int .i64 m]) h.sz h.lw (fun n C L h1 hl2=>crash_any m hm (by omega) w h1 hl2)
  refine h2.mono ?_
  rintro e w' ⟨rfl,h3,hb⟩
  exact ⟨rfl,h.of h3 hb.bel,hb⟩
end
end Go.Proofs.YticjodhkmidljaaGreatDoor
namespace Go.Proofs.YticjodhkmidljaaGreatDoor
def kb2:BalV:=⟨2,1⟩
def kv3:VotV:=⟨3,kb2,[120]⟩
end Go.Proofs.YticjodhkmidljaaGreatDoor
namespace Go.Proofs.YticjodhkmidljaaGreatDoor
open Go.RowKit Go.Shelf
section
variable {N p bb k S l g s c m B : Nat} {Q : List Nat} {D : DskV} {b : Nat × Bs} {X : List RecK} {w w' : World}
theorem KtI.mark (h:KtI N p bb k S l g Q D b X s c m w) (hb:Below w.heap.size w w') (hB:w.heap.size≤B∧B<w'.heap.size):KtI N p bb k S l g (B::Q) D b X s c m w':=by
  obtain ⟨n,h1,h2⟩:=h.kp
  exact ⟨⟨n,h1.mark hb hB,h2⟩,h.two,h.live,h.ok,h.len,h.cnt,h.b62⟩
theorem KtI.lw (h:KtI N p bb k S l g Q D b X s c m w):LwV N p bb Q [] D w:=by
  obtain ⟨n,h1,h2⟩:=h.kp
  exact h1.disk0
/-- Open of a disk whose records are few. -/
theorem kt_begin (h:LwV N p bb Q [] dsk0 w):Calls Tryz.prog 6 #[.pointer (some ⟨p,0,none⟩)] w fun e w'=>∃ k S l g D',e=.returned (.tuple #[.pointer (some ⟨k,0,none⟩),.int .i64 0])∧KtI N p bb k S l g Q D' (0,[]) [] 0 0 0 w'∧D'.fuse=none∧Hd N Q w w':=by
  refine (kt_open (X:=[]) h two0.t rfl (fun x hx=>by cases hx) (by decide) (by decide)).mono ?_
  rintro e w' ⟨k,S,l,g,D',rfl,h1,h2,h3,h4,h5⟩
  exact ⟨k,S,l,g,D',rfl,⟨⟨0,h1,Nat.le_refl _⟩,h2,h3,fun x hx=>(by cases hx),by decide,Nat.le_refl _,by decide⟩,h4,h5⟩
end
theorem wk_open:openK 0 [RecK.vot kv3]=⟨kb2,fun s=>if s=3 then some (kb2,[120]) else none⟩:=by
  show KepV.rise (if KepV.may kep0 0 kv3 then KepV.put kep0 kv3 else kep0) kv3.b=_
  rw [if_pos ⟨by decide,fun p hp=>by cases hp⟩]
  unfold KepV.rise
  rw [if_pos (by decide)]
  rfl
theorem wk_drop:(openK 0 [RecK.vot kv3]).drop 2=⟨kb2,fun s=>if 2<s then (if s=3 then some (kb2,[120]) else none) else none⟩:=by
  rw [wk_open]
  rfl
def wkV:KepV:=⟨kb2,fun s=>if 2<s then (if s=3 then some (kb2,[120]) else none) else none⟩
theorem wk_votes {L:List VotV} (h:VotsFrom wkV 4 L):L=[]:=by
  cases L with
  | nil=>rfl
  | cons v r =>
    obtain ⟨h1,h2⟩:=(h.mem v).1 (List.mem_cons_self ..)
    have h3:(if 2<v.slot then (if v.slot=3 then some (kb2,([120]:Bs)) else none) else none)=some (v.b,v.v):=h1
    rw [if_pos (by omega),if_neg (by omega)] at h3
    cases h3
set_option maxRecDepth 100000 in
set_option maxHeartbeats 16000000 in
theorem kwakes_any (w:World) (hv0:PV w):Calls Tryz.prog 15 #[] w fun e w'=>e=.returned (.bool true)∧Below w.heap.size w w':=by
  obtain ⟨N,hN⟩:∃ N,N=w.heap.size:=⟨_,rfl⟩
  have HV:=Lib.hid (show PVB N w from by rw [hN];exact PVB.of hv0)
  have HNZ:=Lib.hid (show N≤w.heap.size by omega)
  rw [← hN]
  clear hN hv0
  go_enter Tryz.func15,Tryz.ntmps15
  go_upto_region 5 with (first
    | (go_at_call 17;(with_reducible refine (lo_new N _ HV.out (by have:=HNZ.out;omega)).mono ?_);rintro e w1 ⟨p,bb,rfl,hd,hb⟩;have H1:=Lib.hid (And.intro hd hb);clear hd hb)
    | (go_at_call 6;(with_reducible refine (kt_begin H1.out.1).mono ?_);rintro e w2 ⟨k,S,l,g,D0,rfl,h1,h2,h3⟩;have H2:=Lib.hid (And.intro h1 (And.intro h2 (H1.out.2.trans h3.bel)));clear h1 h2 h3))
  go_upto_region 6 with ((with_reducible refine wpList_store_mid rfl 24 _ _ rfl w2.heap.size 0 _ rfl rfl ?_ ?_ ?_ ?_);exact th_new w2 (balC bal0) 24;exact bal_size bal0;exact all_oneCell_toArray (bal_one kb2))
  change Code.wp _ _ _ _ ((w2.alloc (.cells (balC bal0).toArray 24)).setCells w2.heap.size 0 (balC kb2))
  have hbx:=box_below w2 (balC bal0) (balC kb2) 24
  have hsz:=box_size w2 (balC bal0) (balC kb2) 24
  have HBX:=Lib.hid (show BlAt _ w2.heap.size kb2 from box_row w2 (balC bal0) (balC kb2) 24 rfl)
  have HK:=Lib.hid (H2.out.1.mark hbx (B:=w2.heap.size) ⟨Nat.le_refl _,hsz⟩)
  have HBL:=Lib.hid (H2.out.2.2.trans (hbx.mono (Nat.le_trans HNZ.out (H2.out.2.2.size))))
  have HF:=Lib.hid H2.out.2.1
  clear hbx hsz H1 H2
  generalize (w2.alloc (.cells (balC bal0).toArray 24)).setCells w2.heap.size 0 (balC kb2)=w3 at *
  generalize w2.heap.size=B at *
  have c0:w3.cell? ⟨B,0,none⟩=some (.int .u64 2):=cell_of_row _ _ _ _ _ _ HBX.out
  have c1:w3.cell? ⟨B,1,none⟩=some (.int .u8 1):=cell_of_row _ _ _ _ _ _ HBX.out
  have HVt:=Lib.hid (show Calls Tryz.prog 10 #[.pointer (some ⟨k,0,none⟩),.agg #[.int .u64 3,.int .u64 2,.int .u8 1,.string ⟨#[120]⟩]] w3 _ from kt_vote_new HK.out (by decide) kv3 ⟨by decide,by decide⟩ (by decide) (by decide) (by decide) (by decide) rfl HF.out)
  go_upto_region 7 with ((with_reducible refine HVt.out.mono ?_);rintro e w4 ⟨rfl,⟨D1,s1,h1,h2⟩,h3⟩;have H4:=Lib.hid (And.intro h1 (And.intro h2 h3));clear h1 h2 h3)
  clear c0 c1 HVt
  have hkv:kMay (openK 0 [RecK.vot kv3]) kb2:=by rw [wk_open];exact ⟨by decide,by decide⟩
  have hkn : ¬ kMay (openK 0 [RecK.vot kv3]) ⟨2,0⟩:=by rw [wk_open];exact fun q=>q.2 (by decide)
  have HPr:=Lib.hid (show Calls Tryz.prog 9 #[.pointer (some ⟨k,0,none⟩),.agg #[.int .u64 2,.int .u8 0]] w4 _ from kt_promise_no H4.out.1 (by decide) ⟨2,0⟩ (by decide) (by decide) hkn)
  go_upto_region 8 with ((with_reducible refine HPr.out.mono ?_);rintro e w5 ⟨rfl,h1,h2⟩;have H5:=Lib.hid (And.intro h1 (H4.out.2.2.trans h2));clear h1 h2)
  have HSa:=Lib.hid (show Calls Tryz.prog 12 #[.pointer (some ⟨k,0,none⟩),.int .u64 2,.string ⟨#[115]⟩] w5 fun e w'=>e=.returned (.int .i64 0)∧(∃ D' X' s',X'=X'∧KtI N p bb k S l g [B] D' (2,[115]) X' X'.length s' 3 w'∧openK 2 X'=wkV)∧Hd N [B] w5 w' from by
    refine (kt_save H5.out.1 (by decide) 2 (by decide) ⟨#[115]⟩ (by decide)).mono ?_
    rintro e w' ⟨code,rfl,⟨_,q,_⟩ | ⟨rfl,_,D',L,hL,h1,_⟩ | ⟨_,q,_⟩,h2⟩
    · exact absurd q (by decide)
    · exact ⟨rfl,⟨D',_,_,rfl,h1,(openK_renew (drop_ok (openK_ok 0 _)) hL).trans wk_drop⟩,h2⟩
    · exact (q H4.out.2.1).elim)
  go_upto_region 9 with ((with_reducible refine HSa.out.mono ?_);rintro e w6 ⟨rfl,⟨D2,X3,c3,_,h1,h2⟩,h3⟩;have H6:=Lib.hid (And.intro h1 (And.intro h2 (H5.out.2.trans h3)));clear h1 h2 h3)
  have hbx6:BlAt w6 B kb2:=(H6.out.2.2.keep B (by simp)).trans HBX.out
  have c0:w6.cell? ⟨B,0,none⟩=some (.int .u64 2):=cell_of_row _ _ _ _ _ _ hbx6
  have c1:w6.cell? ⟨B,1,none⟩=some (.int .u8 1):=cell_of_row _ _ _ _ _ _ hbx6
  have HV2:=Lib.hid (show Calls Tryz.prog 10 #[.pointer (some ⟨k,0,none⟩),.agg #[.int .u64 2,.int .u64 2,.int .u8 1,.string ⟨#[121]⟩]] w6 _ from kt_vote_gone H6.out.1 (by decide) ⟨2,kb2,[121]⟩ (by
    have h9:kMay wkV kb2:=⟨by decide,by decide⟩
    rw [← H6.out.2.1] at h9
    exact h9) (by decide) (by decide) (by decide) (by decide))
  go_upto_region 10 with ((with_reducible refine HV2.out.mono ?_);rintro e w7 ⟨rfl,h1,h2⟩;have H7:=Lib.hid (And.intro h1 (H6.out.2.2.trans h2));clear h1 h2)
  clear c0 c1 hbx6 hkv hkn
  have HCr:=Lib.hid (show Calls Tryz.prog 21 #[.pointer (some ⟨p,0,none⟩),.int .i64 0] w7 fun e w'=>(∃ v,e=.returned v)∧(∃ D4,LwV N p bb [B] [] D4 w'∧TwoT D4 (2,[115]) (X3.map recB) X3.length c3)∧Hd N [B] w7 w' from by
    have h1:=H7.out.1
    obtain ⟨D4,X',e4,t4,p1,p2, -, -⟩:=two_crash h1.two h1.live 0 h1.lw.lw.syn
    have hX:X'=X3.map recB:=p1.eq_of_length_le (by rw [List.length_map];exact p2)
    subst hX
    have h2:=kcrash_any h1.lw (by have:=h1.two.big.2;omega) 0 (by decide)
    rw [e4] at h2
    refine h2.mono ?_
    rintro e w' ⟨rfl,h3,h4⟩
    exact ⟨⟨_,rfl⟩,⟨D4,h3,t4⟩,h4⟩)
  go_upto_region 11 with ((with_reducible refine HCr.out.mono ?_);rintro e w8 ⟨⟨vc,rfl⟩,⟨D4,h1,h2⟩,h3⟩;have H8:=Lib.hid (And.intro h1 (And.intro h2 (H7.out.2.trans h3)));clear h1 h2 h3)
  have HSt:=Lib.hid (lo_start H8.out.1)
  go_upto_region 12 with ((with_reducible refine HSt.out.mono ?_);rintro e w9 ⟨rfl,h1,h2⟩;have H9:=Lib.hid (And.intro h1 (H8.out.2.2.trans h2));clear h1 h2)
  have HO:=Lib.hid (kt_open H9.out.1 H8.out.2.1.start rfl H7.out.1.ok (by have:=H7.out.1.len;omega) (by decide))
  go_upto_region 13 with ((with_reducible refine HO.out.mono ?_);rintro e w10 ⟨k2,S2,l2,g2,D6,rfl,h1,h2,h3,h4,h5⟩;have H10:=Lib.hid (And.intro h1 (H9.out.2.trans h5));clear h1 h2 h3 h4 h5)
  have hV:=H10.out.1
  rw [show openK (2,([115]:Bs)).1 X3=wkV from H6.out.2.1] at hV
  have HKP:=Lib.hid hV
  have HBX2:=Lib.hid (show BlAt w10 B kb2 from (H10.out.2.keep B (by simp)).trans HBX.out)
  have HBEL:=Lib.hid (HBL.out.trans H10.out.2.bel)
  have HXL:=Lib.hid (show X3.length≤1000 by have:=H7.out.1.len;omega)
  clear hV HK HF H4 H5 H6 H7 H8 H9 H10 HPr HSa HV2 HCr HSt HO HBL HBX
  have HVd:=Lib.hid (show Calls Tryz.prog 7 #[.pointer (some ⟨k2,0,none⟩),.int .u64 3] w10 fun e w'=>e=.returned (.tuple #[voV 3 (kb2,[120]),.bool true])∧Below w10.heap.size w10 w' from voted_any HKP.out.kep 3 (by decide))
  go_upto_region 16 with (first
    | ((with_reducible refine HVd.out.mono ?_);rintro e w11 ⟨rfl,hb11⟩;have HB11:=Lib.hid hb11;clear hb11)
    | ((with_reducible refine wpList_store_mid rfl 26 _ _ rfl w11.heap.size 0 _ rfl rfl ?_ ?_ ?_ ?_);exact th_new w11 (voCells 0 vo0) 26;exact vo_size 0 vo0;exact all_oneCell_toArray (vo_one 3 (kb2,[120]))))
  change Code.wp _ _ _ _ ((w11.alloc (.cells (voCells 0 vo0).toArray 26)).setCells w11.heap.size 0 (voCells 3 (kb2,[120])))
  have hbx:=box_below w11 (voCells 0 vo0) (voCells 3 (kb2,[120])) 26
  have HVX:=Lib.hid (show VtAt _ w11.heap.size 3 (kb2,[120]) from box_row w11 (voCells 0 vo0) (voCells 3 (kb2,[120])) 26 rfl)
  have HB12:=Lib.hid (HB11.out.trans (hbx.mono HB11.out.size))
  clear hbx HB11
  generalize (w11.alloc (.cells (voCells 0 vo0).toArray 26)).setCells w11.heap.size 0 (voCells 3 (kb2,[120]))=w12 at *
  generalize w11.heap.size=gv at *
  have HBs:=Lib.hid (show Calls Tryz.prog 8 #[.pointer (some ⟨k2,0,none⟩)] w12 fun e w'=>e=.returned (.tuple #[.int .u64 2,.string ⟨#[115]⟩])∧Below w12.heap.size w12 w' from kbase_any (HKP.out.below HB12.out).kep (HKP.out.below HB12.out).sto (fun q=>by cases q))
  go_upto_region 17 with ((with_reducible refine HBs.out.mono ?_);rintro e w13 ⟨rfl,hb13⟩;have HB13:=Lib.hid hb13;clear hb13)
  have HB14:=Lib.hid (HB12.out.trans (HB13.out.mono HB12.out.size))
  have HC:=Lib.hid (fun (y:World) (hy:Below w13.heap.size w13 y)=>(show (y.cell? ⟨B,0,none⟩=some (.int .u64 2)∧y.cell? ⟨B,1,none⟩=some (.int .u8 1))∧y.cell? ⟨gv,0,none⟩=some (.int .u64 3)∧y.cell? ⟨gv,1,none⟩=some (.int .u64 2)∧y.cell? ⟨gv,2,none⟩=some (.int .u8 1)∧y.cell? ⟨gv,3,none⟩=some (.string ⟨#[120]⟩) from by
    have k1:BlAt y B kb2:=(HBX2.out.below HB14.out).below hy
    have k2:VtAt y gv 3 (kb2,[120]):=(HVX.out.below HB13.out).below hy
    exact ⟨⟨cell_of_row _ _ _ _ _ _ k1,cell_of_row _ _ _ _ _ _ k1⟩,cell_of_row _ _ _ _ _ _ k2,cell_of_row _ _ _ _ _ _ k2,cell_of_row _ _ _ _ _ _ k2,cell_of_row _ _ _ _ _ _ k2⟩))
  have HPd:=Lib.hid (fun (y:World) (hy:Below w13.heap.size w13 y)=>(show Calls Tryz.prog 13 #[.pointer (some ⟨k2,0,none⟩)] y fun e w'=>e=.returned (.agg #[.int .u64 2,.int .u8 1])∧Below y.heap.size y w' from promised_any ((HKP.out.below HB14.out).below hy).kep))
  have HVs:=Lib.hid (fun (y:World) (hy:Below w13.heap.size w13 y)=>(show Calls Tryz.prog 14 #[.pointer (some ⟨k2,0,none⟩),.int .u64 4] y fun e w'=>∃ A c,e=.returned (.slice A 0 c)∧Below y.heap.size y w' from by
    refine (votes_any 4 (by have:=HXL.out;omega) (fun s r hr=>?_) ((HKP.out.below HB14.out).below hy).kep).mono ?_
    · have h3:(if 2<s then (if s=3 then some (kb2,([120]:Bs)) else none) else none)=some r:=hr
      split at h3
      · split at h3
        · omega
        · cases h3
      · cases h3
    · rintro e w' ⟨A,c,L,rfl,h1,h2,h3,h4⟩
      obtain rfl:=wk_votes h1
      exact ⟨A,c,rfl,h3⟩))
  refine (wpIn_wide (n:=1)).1 ?_
  refine RegK.wpIn_region_can (F:=Fence.wide) (KeptW w13) [(0,0),(2,0),(1,1),(3,0),(4,0),(5,0),(6,0),(7,0),(8,0),(9,0),(10,0),(11,0),(12,0),(13,0),(14,0),(15,0),(16,0),(17,0),(18,0),(19,0),(20,0),(21,0),(22,0),(23,1),(24,0),(25,0),(26,0),(27,0)] (by kernel_rfl) (by kernel_rfl) (by kernel_rfl) (fun _ _ d _ _ h=>by cases d <;> exact h) ⟨rfl,rfl,rfl,Nat.le_refl _,fun _ _=>rfl⟩ ?_
  dsimp only [RegK.pick,List.getElem?_cons_zero,List.getElem?_cons_succ]
  change RegK.Can _ _ _ _ _ _ _ _ w13.drew
  have hkd:KeptW w13 w13.drew:=⟨rfl,rfl,rfl,Nat.le_refl _,fun _ _=>rfl⟩
  generalize w13.drew=v1 at *
  refine RegK.can_reads ?_;intro K hK;go_simp;(first | refine ⟨_,fun _ _=>rfl,hK _ ?_⟩ | refine hK _ ?_);clear hK K
  refine RegK.can_reads ?_
  intro K hK
  go_simp
  refine ⟨.agg #[.int .u64 2,.int .u8 1],fun y hy=>?_,hK _ ?_⟩
  · obtain ⟨⟨c0,c1⟩,c2,c3,c4,c5⟩:=HC.out y (KeptW.bel hy)
    go_simp
  clear hK K
  refine RegK.can_turns (fun _=>trivial) ?_
  intro K K0 hK hK0
  go_simp
  refine ⟨trivial,?_⟩
  refine (callsIn_wide.2 (HPd.out v1 (KeptW.bel hkd))).mono ?_
  rintro e v2 ⟨rfl,hb7⟩
  have v2k:KeptW w13 v2:=KeptW.mono hkd hb7
  refine hK _ _ v2k ?_
  clear hK K hK0 K0
  refine RegK.can_reads ?_
  intro K hK
  rw [if_pos (by first | (simp [Region.wanted];done) | (go_simp;done))]
  refine ⟨.bool true,fun y hy=>(bal_exec kb2 kb2 _ _ true _ _ rfl rfl rfl y).trans (by rw [decide_eq_true rfl];rfl),hK _ ?_⟩
  clear hK K
  go_simp
  iterate 4 (refine RegK.can_reads ?_;intro K hK;go_simp;(first | refine ⟨_,fun _ _=>rfl,hK _ ?_⟩ | refine hK _ ?_);clear hK K)
  refine RegK.can_reads ?_
  intro K hK
  go_simp
  refine ⟨.agg #[.int .u64 3,.int .u64 2,.int .u8 1,.string ⟨#[120]⟩],fun y hy=>?_,hK _ ?_⟩
  · obtain ⟨⟨c0,c1⟩,c2,c3,c4,c5⟩:=HC.out y (KeptW.bel hy)
    go_simp
  clear hK K
  refine RegK.can_reads ?_
  intro K hK
  go_simp
  refine ⟨.agg #[.int .u64 2,.int .u8 1],fun y hy=>?_,hK _ ?_⟩
  · obtain ⟨⟨c0,c1⟩,c2,c3,c4,c5⟩:=HC.out y (KeptW.bel hy)
    go_simp
  clear hK K
  refine RegK.can_reads ?_;intro K hK;go_simp;(first | refine ⟨_,fun _ _=>rfl,hK _ ?_⟩ | refine hK _ ?_);clear hK K
  refine RegK.can_reads ?_
  intro K hK
  rw [if_pos (by first | (simp [Region.wanted];done) | (go_simp;done))]
  refine ⟨.bool true,fun y hy=>(vot_exec kv3 kv3 _ _ true _ _ rfl rfl rfl y).trans (by rw [decide_eq_true rfl];rfl),hK _ ?_⟩
  clear hK K
  go_simp
  iterate 11 (refine RegK.can_reads ?_;intro K hK;go_simp;(first | refine ⟨_,fun _ _=>rfl,hK _ ?_⟩ | refine hK _ ?_);clear hK K)
  refine RegK.can_turns (fun _=>trivial) ?_
  intro K K0 hK hK0
  go_simp
  refine ⟨trivial,?_⟩
  refine (callsIn_wide.2 (HVs.out v2 (KeptW.bel v2k))).mono ?_
  rintro e v3 ⟨A,c,rfl,hb8⟩
  have v3k:KeptW w13 v3:=KeptW.mono v2k hb8
  refine hK _ _ v3k ?_
  clear hK K hK0 K0
  iterate 4 (refine RegK.can_reads ?_;intro K hK;go_simp;(first | refine ⟨_,fun _ _=>rfl,hK _ ?_⟩ | refine hK _ ?_);clear hK K)
  refine RegK.can_nil ?_
  go_wp2_with fail
  go_ret
  exact ⟨rfl,HBEL.out.trans ((HB14.out.trans ((KeptW.bel v3k).mono HB14.out.size)).mono (Nat.le_trans HNZ.out HBEL.out.size))⟩
end Go.Proofs.YticjodhkmidljaaGreatDoor
namespace Go.Proofs.YticjodhkmidljaaGreatDoor
open Go.RowKit Go.Shelf
theorem kopen_nil (w:World):Calls Tryz.prog 6 #[.pointer none] w fun e w'=>e=.returned (.tuple #[.pointer none,.int .i64 1])∧w=w':=by
  go_enter Tryz.func6,Tryz.ntmps6
  go_wp2_with fail
  go_ret2
  exact ⟨rfl,rfl⟩
theorem ksync_nil (w:World):Calls Tryz.prog 11 #[.pointer none] w fun e w'=>e=.returned (.int .i64 1)∧w=w':=by
  go_enter Tryz.func11,Tryz.ntmps11
  go_wp2_with fail
  go_ret
  exact ⟨rfl,rfl⟩
theorem ksave_nil (n:Int) (x:ByteArray) (w:World):Calls Tryz.prog 12 #[.pointer none,.int .u64 n,.string x] w fun e w'=>e=.returned (.int .i64 1)∧Below w.heap.size w w':=by
  have HB:=Lib.hid ((Below.refl w.heap.size w).alloc (Nat.le_refl _) (.cells #[.int .u64 n] 22))
  go_enter Tryz.func12,Tryz.ntmps12
  go_wp2_with fail
  go_ret
  exact ⟨rfl,HB.out⟩
theorem promise_nil (a:Int) (b:Int) (w:World):Calls Tryz.prog 9 #[.pointer none,.agg #[.int .u64 a,.int .u8 b]] w fun e w'=>e=.returned (.int .i64 1)∧Below w.heap.size w w':=by
  have HB:=Lib.hid ((Below.refl w.heap.size w).alloc (Nat.le_refl _) (.cells #[.int .u64 a,.int .u8 b] 24))
  go_enter Tryz.func9,Tryz.ntmps9
  go_wp2_with fail
  go_ret
  exact ⟨rfl,HB.out⟩
theorem vote_nil (s a:Int) (b:Int) (x:ByteArray) (w:World):Calls Tryz.prog 10 #[.pointer none,.agg #[.int .u64 s,.int .u64 a,.int .u8 b,.string x]] w fun e w'=>e=.returned (.int .i64 1)∧Below w.heap.size w w':=by
  have HB:=Lib.hid ((Below.refl w.heap.size w).alloc (Nat.le_refl _) (.cells #[.int .u64 s,.int .u64 a,.int .u8 b,.string x] 26))
  go_enter Tryz.func10,Tryz.ntmps10
  go_wp2_with fail
  go_ret
  exact ⟨rfl,HB.out⟩
set_option maxRecDepth 100000 in
set_option maxHeartbeats 16000000 in
theorem keepNil_any (v:VotV) (x:ByteArray) (w:World) (hv0:PV w):Calls Tryz.prog 3 #[.agg (votK v).toArray,.string x] w fun e w'=>e=.returned (.bool true)∧Below w.heap.size w w':=by
  obtain ⟨s,⟨bn,br⟩,vv⟩:=v
  obtain ⟨vx,hvx⟩:∃ vx:ByteArray,vx=⟨vv.toArray⟩:=⟨_,rfl⟩
  show Calls _ _ #[.agg #[.int .u64 (s:Int),.int .u64 (bn:Int),.int .u8 (br:Int),.string ⟨vv.toArray⟩],.string x] w _
  rw [← hvx]
  have hb1:=(Below.refl w.heap.size w).alloc (Nat.le_refl _) (.cells #[.int .u64 (s:Int),.int .u64 (bn:Int),.int .u8 (br:Int),.string vx] 26)
  have HW:=Lib.hid (And.intro hb1 (heap_alloc_new w (.cells #[.int .u64 (s:Int),.int .u64 (bn:Int),.int .u8 (br:Int),.string vx] 26)))
  have HV:=Lib.hid (show PVB w.heap.size w from PVB.of hv0)
  clear hb1 hv0 hvx
  go_enter Tryz.func3,Tryz.ntmps3
  go_upto_region 1 with fail
  generalize w.alloc (.cells #[.int .u64 (s:Int),.int .u64 (bn:Int),.int .u8 (br:Int),.string vx] 26)=w1 at *
  have HC:=Lib.hid (fun (y:World) (hy:Below w1.heap.size w1 y)=>(show y.cell? ⟨w.heap.size,0,none⟩=some (.int .u64 (s:Int))∧y.cell? ⟨w.heap.size,1,none⟩=some (.int .u64 (bn:Int))∧y.cell? ⟨w.heap.size,2,none⟩=some (.int .u8 (br:Int))∧y.cell? ⟨w.heap.size,3,none⟩=some (.string vx) from by
    have k1:=(hy.block _ (Array.getElem?_eq_some_iff.1 HW.out.2).1).trans HW.out.2
    exact ⟨cell_of_row _ _ _ _ _ _ k1,cell_of_row _ _ _ _ _ _ k1,cell_of_row _ _ _ _ _ _ k1,cell_of_row _ _ _ _ _ _ k1⟩))
  obtain ⟨c0,c1,c2,c3⟩:=HC.out w1 (Below.refl _ _)
  have HBw1:=Lib.hid (Below.refl w1.heap.size w1)
  go_upto_region 4 with (first
    | (go_at_call 6;(with_reducible refine (kopen_nil _).mono ?_);rintro e wq ⟨rfl,rfl⟩)
    | (go_at_call 7;(with_reducible refine (voted_nil s _).mono ?_);rintro e w2 ⟨rfl,hb⟩;have HBw2:=Lib.hid (HBw1.out.trans (hb.mono HBw1.out.size));clear hb;clear c0 c1 c2 c3;obtain ⟨c0,c1,c2,c3⟩:=HC.out w2 HBw2.out)
    | ((with_reducible refine wpList_store_mid rfl 26 _ _ rfl w2.heap.size 0 _ rfl rfl ?_ ?_ ?_ ?_);exact th_new w2 (voCells 0 vo0) 26;exact vo_size 0 vo0;exact all_oneCell_toArray (vo_one 0 vo0)))
  change Code.wp _ _ _ _ ((w2.alloc (.cells (voCells 0 vo0).toArray 26)).setCells w2.heap.size 0 (voCells 0 vo0))
  have hbx:=box_below w2 (voCells 0 vo0) (voCells 0 vo0) 26
  have HBw3:=Lib.hid (HBw2.out.trans (hbx.mono HBw2.out.size))
  clear hbx c0 c1 c2 c3
  generalize (w2.alloc (.cells (voCells 0 vo0).toArray 26)).setCells w2.heap.size 0 (voCells 0 vo0)=w3 at *
  obtain ⟨c0,c1,c2,c3⟩:=HC.out w3 HBw3.out
  go_wp2_with (first
    | (go_at_call 8;(with_reducible refine (kbase_nil _).mono ?_);rintro e w4 ⟨rfl,hb⟩;have HBw4:=Lib.hid (HBw3.out.trans (hb.mono HBw3.out.size));clear hb;clear c0 c1 c2 c3;obtain ⟨c0,c1,c2,c3⟩:=HC.out w4 HBw4.out)
    | (go_at_call 9;(with_reducible refine (promise_nil _ _ _).mono ?_);rintro e w5 ⟨rfl,hb⟩;have HBw5:=Lib.hid (HBw4.out.trans (hb.mono HBw4.out.size));clear hb;clear c0 c1 c2 c3;obtain ⟨c0,c1,c2,c3⟩:=HC.out w5 HBw5.out)
    | (go_at_call 10;(with_reducible refine (vote_nil _ _ _ _ _).mono ?_);rintro e w6 ⟨rfl,hb⟩;have HBw6:=Lib.hid (HBw5.out.trans (hb.mono HBw5.out.size));clear hb;clear c0 c1 c2 c3;obtain ⟨c0,c1,c2,c3⟩:=HC.out w6 HBw6.out)
    | (go_at_call 11;(with_reducible refine (ksync_nil _).mono ?_);rintro e wq ⟨rfl,rfl⟩)
    | (go_at_call 12;(with_reducible refine (ksave_nil _ _ _).mono ?_);rintro e w7 ⟨rfl,hb⟩;have HBw7:=Lib.hid (HBw6.out.trans (hb.mono HBw6.out.size));clear hb;clear c0 c1 c2 c3;obtain ⟨c0,c1,c2,c3⟩:=HC.out w7 HBw7.out)
    | (go_at_call 13;(with_reducible refine (promised_nil _).mono ?_);rintro e w8 ⟨rfl,hb⟩;have HBw8:=Lib.hid (HBw7.out.trans (hb.mono HBw7.out.size));clear hb)
    | ((with_reducible refine wpList_eql_bal true _ _ rfl bal0 bal0 rfl rfl true ?_ ?_ ?_);exact (by rw [decide_eq_true rfl];rfl);exact (Eq.refl true))
    | (go_at_call 14;(with_reducible refine ((show Calls Tryz.prog 14 #[.pointer none,.int .u64 0] _ _ from votes_nil 0 _)).mono ?_);rintro e w9 ⟨rfl,hb⟩;have HBw9:=Lib.hid (HBw8.out.trans (hb.mono HBw8.out.size));clear hb)
    | (go_at_call 15;(with_reducible refine (kwakes_any _ (HV.out.on (HW.out.1.trans (HBw9.out.mono HW.out.1.size))).here).mono ?_);rintro e w10 ⟨rfl,hb⟩;have HBw10:=Lib.hid (HBw9.out.trans (hb.mono HBw9.out.size));clear hb))
  go_ret
  exact ⟨rfl,HW.out.1.trans (HBw10.out.mono HW.out.1.size)⟩
end Go.Proofs.YticjodhkmidljaaGreatDoor
namespace Go.Proofs.YticjodhkmidljaaGreatDoor
open Go.ChangeShapes Go.WideShapes Go.Deep Go.RowKit
theorem wf_u8 {x:Int} (h:(Lit.int .u8 x).wf=true):∃ n:Nat,n<256∧x=(n:Int):=by
  have q:0≤x∧x≤255:=by simpa [Lit.wf,IntKind.min,IntKind.max,IntKind.signed,IntKind.bits] using h
  exact ⟨x.toNat,by omega,by omega⟩
theorem wf_u64 {x:Int} (h:(Lit.int .u64 x).wf=true):∃ n:Nat,n<18446744073709551616∧x=(n:Int):=by
  have q:0≤x∧x≤18446744073709551615:=by simpa [Lit.wf,IntKind.min,IntKind.max,IntKind.signed,IntKind.bits] using h
  exact ⟨x.toNat,by omega,by omega⟩
structure VotOk (v:VotV):Prop where
  slot:v.slot<18446744073709551616
  n:v.b.n<18446744073709551616
  r:v.b.r<256
def votC (v:VotV):List Value:=voCells v.slot (v.b,v.v)
abbrev VotO:={ s:VotV // VotOk s }
def votO (s:VotO):List Value:=votC s.val
set_option maxRecDepth 100000 in
theorem vot_hx {H:Type} {enc:TypeId × Value→H} {w:World} {base:Nat} {spare:Nat→Bool} {held:Bool} (vs:List Value) (n:Nat) (y:DataW H × List MemPlace) (hl:vs.length=4) (h:DataW.trod enc Tryz.prog w base spare held n 26 vs=some y):∃ x:VotO,vs=votO x:=by
  have c_uint64:Tryz.prog.cellsOf 22=1:=by kernel_rfl
  have c_palaver_api_Ballot:Tryz.prog.cellsOf 24=2:=by kernel_rfl
  have c_string:Tryz.prog.cellsOf 9=1:=by kernel_rfl
  have c_uint8:Tryz.prog.cellsOf 5=1:=by kernel_rfl
  match vs,hl with
  | [v0,v1,v2,v3],_ =>
    obtain ⟨x1,n1,_,_,_,l1,f1⟩:=DataW.trod_struct Tryz.underlying26 h
    have g1_0:DataW.trod enc Tryz.prog w base spare held n1 22 [v0]=some (x1[0]'(by rw [l1];decide)):=by
      have g:DataW.trod enc Tryz.prog w base spare held n1 22 (List.take (Tryz.prog.cellsOf 22) (List.drop 0 [v0,v1,v2,v3]))=x1[0]?:=f1 0 _ rfl
      rw [c_uint64,List.getElem?_eq_getElem (by rw [l1];decide)] at g
      exact g
    have g1_1:DataW.trod enc Tryz.prog w base spare held n1 24 [v1,v2]=some (x1[1]'(by rw [l1];decide)):=by
      have g:DataW.trod enc Tryz.prog w base spare held n1 24 (List.take (Tryz.prog.cellsOf 24) (List.drop 1 [v0,v1,v2,v3]))=x1[1]?:=f1 1 _ rfl
      rw [c_palaver_api_Ballot,List.getElem?_eq_getElem (by rw [l1];decide)] at g
      exact g
    have g1_2:DataW.trod enc Tryz.prog w base spare held n1 9 [v3]=some (x1[2]'(by rw [l1];decide)):=by
      have g:DataW.trod enc Tryz.prog w base spare held n1 9 (List.take (Tryz.prog.cellsOf 9) (List.drop 3 [v0,v1,v2,v3]))=x1[2]?:=f1 2 _ rfl
      rw [c_string,List.getElem?_eq_getElem (by rw [l1];decide)] at g
      exact g
    obtain ⟨x2,n2,_,_,_,l2,f2⟩:=DataW.trod_struct Tryz.underlying24 g1_1
    have g2_0:DataW.trod enc Tryz.prog w base spare held n2 22 [v1]=some (x2[0]'(by rw [l2];decide)):=by
      have g:DataW.trod enc Tryz.prog w base spare held n2 22 (List.take (Tryz.prog.cellsOf 22) (List.drop 0 [v1,v2]))=x2[0]?:=f2 0 _ rfl
      rw [c_uint64,List.getElem?_eq_getElem (by rw [l2];decide)] at g
      exact g
    have g2_1:DataW.trod enc Tryz.prog w base spare held n2 5 [v2]=some (x2[1]'(by rw [l2];decide)):=by
      have g:DataW.trod enc Tryz.prog w base spare held n2 5 (List.take (Tryz.prog.cellsOf 5) (List.drop 1 [v1,v2]))=x2[1]?:=f2 1 _ rfl
      rw [c_uint8,List.getElem?_eq_getElem (by rw [l2];decide)] at g
      exact g
    obtain ⟨m0,q0,_,w0⟩:=DataW.trod_int Tryz.underlying22 g1_0
    obtain ⟨y0,b0,rfl⟩:=wf_u64 w0
    obtain ⟨m1,q1,_,w1⟩:=DataW.trod_int Tryz.underlying22 g2_0
    obtain ⟨y1,b1,rfl⟩:=wf_u64 w1
    obtain ⟨m2,q2,_,w2⟩:=DataW.trod_int Tryz.underlying5 g2_1
    obtain ⟨y2,b2,rfl⟩:=wf_u8 w2
    obtain ⟨y3,q3,_,_⟩:=DataW.trod_string Tryz.underlying9 g1_2
    simp only [List.cons.injEq,and_true] at q0 q1 q2 q3
    subst q0 q1 q2 q3
    exact ⟨⟨⟨y0,⟨y1,y2⟩,y3.data.toList⟩,⟨b0,b1,b2⟩⟩,by simp [votO,votC,voCells]⟩
set_option maxRecDepth 100000 in
theorem vote_open {H:Type} {enc:TypeId × Value→H} {w:World} {base:Nat} {spare:Nat→Bool} {held:Bool} {v:Value} {d:DataW H} {pl:List MemPlace} {r:Reach} {ob:Nat} (hv:Value.okWide Tryz.prog w r ob 26 v) (h:DataW.Trod enc Tryz.prog w base spare held 26 v d pl):∃ x:VotV,VotOk x∧v=.agg (votC x).toArray:=by
  obtain ⟨cs,rfl,hsz⟩:=okWide_struct Tryz.underlying26 hv
  have h2:cs.size=4:=by rw [hsz];kernel_rfl
  obtain ⟨m,hm⟩:=h
  have hm':DataW.trod enc Tryz.prog w base spare held m 26 cs.toList=some (d,pl):=hm
  obtain ⟨x,hx⟩:=vot_hx cs.toList _ _ (by simpa using h2) hm'
  exact ⟨x.val,x.2,by rw [show votC x.val=cs.toList from hx.symm]⟩
end Go.Proofs.YticjodhkmidljaaGreatDoor
namespace Go.Proofs.YticjodhkmidljaaGreatDoor
open Go.RowKit Go.Shelf
theorem keepNil_row (v:VotV) (x:ByteArray) {W:World} (_:x.size≤maxLen) (hv:PV W):Calls Tryz.prog 3 #[.agg (votC v).toArray,.string x] W fun e w'=>e=.returned (.bool true)∧Below W.heap.size W w':=keepNil_any v x W hv
set_option maxRecDepth 100000 in
theorem vote_opens {H:Type} {enc:TypeId × Value→H} {w:World} {base:Nat} {spare:Nat→Bool} {held:Bool} {v:Value} {d:DataW H} {pl:List MemPlace} {r:Reach} {ob:Nat} (hv:Value.okWide Tryz.prog w r ob 26 v) (h:DataW.Trod enc Tryz.prog w base spare held 26 v d pl):∃ x:VotV,v=.agg (votC x).toArray:=by
  obtain ⟨x,_,hx⟩:=vote_open hv h
  exact ⟨x,hx⟩
end Go.Proofs.YticjodhkmidljaaGreatDoor
